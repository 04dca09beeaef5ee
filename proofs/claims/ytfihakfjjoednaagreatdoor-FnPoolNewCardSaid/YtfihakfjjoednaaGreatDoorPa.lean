/-
  FnPoolNew: the row and its tied card.
-/
import Derived.Test.YtfihakfjjoednaaGreatDoorTa
import Derived.Test.YtfihakfjjoednaaGreatDoorCards
import Derived.Test.YtfihakfjjoednaaGreatDoorTie
import Derived.Test.YtfihakfjjoednaaGreatDoorJb
import Derived.ProofKit
import Derived.OpenShut
import Derived.LaidMore
import Derived.Lay
import Derived.SevenTiedAt
import Derived.Stop.Joined
set_option linter.all false
namespace Go.Proofs.YtfihakfjjoednaaGreatDoor
open Go.ChangeShapes Go.WideShapes Go.ChangeAt Go.RowKit
set_option maxRecDepth 100000
theorem own : ownKnob Tryz.prog.godebug = none := by kernel_rfl
theorem laidOut : laidOutB Tryz.prog = true := by kernel_rfl
/-- The world's blocks when a call begins: so many, and the table of powers. -/
theorem shaped {W : World} (h : W.ShapedOpen Tryz.prog) : 8 ≤ W.heap.size ∧ ∃ cs : Array Value, W.heap[1]? = some (.cells cs 434) ∧ cs.size = 20 := by
  obtain ⟨h1, h2⟩ := h
  obtain ⟨cs, h3, h4, _⟩ := h1 1 _ _ (by rw [Go.Ev.PN.globs]; omega) Go.Ev.PN.glob1
  obtain ⟨o, _, h5, _⟩ := h2 8 (by rw [Go.Ev.PN.globs]; omega) (Nat.lt_of_lt_of_le (by omega) Go.Ev.PN.begins)
  exact ⟨Nat.le_of_lt (Array.getElem?_eq_some_iff.1 h5).1, cs, h3, by rw [h4]; rfl⟩
theorem c295 : Tryz.prog.cellsOf 295 = 1 := by kernel_rfl
theorem under295 : Tryz.prog.underlying 295 = some (.int .u64) := by kernel_rfl
theorem pow_name : Tryz.prog.globalNamed "internal/strconv.uint64pow10" = some 1 := by kernel_rfl
theorem pow_type : (Tryz.prog.globals[1]?).map (·.type) = some 434 := by kernel_rfl
/-- The table's cells, out of what is listed. -/
theorem pow_cells {W : World} (h : laidMetH Tryz.prog Rows.fnPoolNewRow.laid W) {cs : Array Value} (hc : W.heap[1]? = some (.cells cs 434)) (hs : cs.size = 20) : cs = ⟨Go.Ev.PN.pows⟩ := by
  rw [MakeChecks.laidMetH_plain _ _ _ (by kernel_rfl)] at h
  obtain ⟨ps, ⟨_, _, _, _, _, _, _, _, _, _, ⟨_, _, _, _, _, _, _, _, _, _, ⟨g, t, cs', fuel, p, q, hg, ht, hv, hd, _, _⟩, _⟩, _⟩, _, _⟩ := h
  obtain rfl := Option.some.inj (pow_name.symm.trans hg)
  obtain rfl := Option.some.inj (pow_type.symm.trans ht)
  have hcs : cs' = cs := by
    unfold World.var? at hv
    rw [pow_name] at hv
    simp only [Option.bind_some, hc, Option.some.injEq] at hv
    exact hv.symm
  subst hcs
  obtain ⟨xs, m, _, ex, _, hl, hel⟩ := DataW.trod_array Tryz.underlying434 hd
  have e3 : xs.map (·.1) = (List.range 20).map fun i => (DataW.lit (.int .u64 (Int.ofNat (10 ^ i))) : DataW Unit) := (DataW.agg.inj (Prod.mk.inj ex).1).symm
  apply Array.ext'
  apply List.ext_getElem?
  intro r
  by_cases hr : r < 20
  · have hE := hel r hr
    rw [c295, Nat.mul_one, List.getElem?_eq_getElem (by omega)] at hE
    obtain ⟨z, e1, e2, _⟩ := DataW.trod_int under295 hE
    have e4 : (xs.map (·.1))[r]? = ((List.range 20).map fun i => (DataW.lit (.int .u64 (Int.ofNat (10 ^ i))) : DataW Unit))[r]? := by rw [e3]
    rw [List.getElem?_map, List.getElem?_map, List.getElem?_eq_getElem (by omega : r < xs.length), List.getElem?_range hr, e2] at e4
    have hz : z = Int.ofNat (10 ^ r) := by
      simpa only [Option.map_some, Option.some.injEq, DataW.lit.injEq, Lit.int.injEq, true_and] using e4
    have h0 : ((cs'.toList.drop r).take 1)[0]? = some (.int .u64 z) := by rw [e1]; rfl
    have h1 : cs'.toList[r]? = some (.int .u64 z) := by simpa using h0
    rw [h1, hz]
    unfold Go.Ev.PN.pows
    rw [List.getElem?_map, List.getElem?_range hr]
    rfl
  · rw [List.getElem?_eq_none (by simp; omega), List.getElem?_eq_none (by show 20 ≤ r; omega)]
theorem kept_same {w w' : World} {may : MemPlace → Prop} (ho : w'.os = w.os) (hout : w'.output = w.output) (hb : ∀ i < w.heap.size, w'.heap[i]? = w.heap[i]?) : w.keptBut w' may :=
  ⟨ho, hout, fun i hi => by
    have := (World.keptBut_refl w may).2.2 i hi
    rw [hb i hi]; exact this⟩
theorem core {H : Type} {enc : TypeId × Value → H} {W : World} {base : Nat} {args : Array Value} {ds gs : List (DataW H)} {before : List MemPlace}
    (hval0 : ∀ (j : Nat) t v, Tryz.f3.params[j]? = some t → args[j]? = some v → Value.okWide Tryz.prog W .any base t v)
    (hW : DataW.Whole enc Tryz.prog Tryz.f3.params.toList Rows.fnPoolNewSpec.vars false W args.toList ds gs before) (hL : laidMetH Tryz.prog Rows.fnPoolNewRow.laid W) (hsh : W.ShapedOpen Tryz.prog) :
    Calls Tryz.prog 3 args W fun e W' => ∃ v, e = .returned v ∧ Rows.fnPoolNewSpec.post enc Tryz.prog Tryz.f3 false true false false W args v W' := by
  have hval : ∀ (j : Nat) t v, Tryz.f3.params[j]? = some t → args[j]? = some v → Value.okWide Tryz.prog W .any base t v := hval0
  have hW' := hW
  obtain ⟨p, q, hA0, hV, rfl, _, _⟩ := hW
  have hA : DataW.TrodAll enc Tryz.prog W 0 (fun _ => true) true Tryz.f3.params.toList args.toList ds p := hA0
  rw [Tryz.params3] at hA hval
  obtain ⟨v0, d0, rfl, rfl, h0⟩ := trodAll_one hA
  obtain ⟨rfl, rfl⟩ := trodVars_none hV
  have h0k := h0
  obtain ⟨a, len, cap, rfl⟩ := okWide_slice Tryz.underlying22 (hval 0 22 v0 rfl rfl)
  obtain ⟨fuel, hf⟩ := h0
  obtain ⟨hsz, cs, hc1, hs1⟩ := shaped hsh
  obtain rfl := pow_cells hL hc1 hs1
  have hd : Calls Tryz.prog 4 #[.slice a len cap] W fun e W' => (∃ t, e = .returned (.bool t)) ∧ Below W.heap.size W W' := by
    rcases open_ints Tryz.underlying22 Tryz.underlying5 (by kernel_rfl) hf with ⟨hcs, _⟩ | ⟨a', len', cap', zs, hcs, _, hl, _, hzl, _, hcell, hwf⟩
    · simp only [Value.cells, List.cons.injEq, Value.slice.injEq, and_true] at hcs
      obtain ⟨rfl, rfl, rfl⟩ := hcs
      exact Tryz.draw none 0 0 W (Nat.le_refl _) (.inl rfl)
    · simp only [Value.cells, List.cons.injEq, Value.slice.injEq, and_true] at hcs
      obtain ⟨rfl, rfl, rfl⟩ := hcs
      refine Tryz.draw _ len cap W hl ?_
      by_cases hz : len = 0
      · exact .inl hz
      · have hzs : 0 < zs.length := by rw [hzl]; simp; omega
        obtain ⟨b, off, rfl, hc⟩ := ints_at hcell hzs
        have h2 := hc 0 hzs
        rw [Nat.add_zero] at h2
        refine .inr ⟨b, off, zs.getD 0 0, rfl, by omega, ?_, ?_, h2⟩
        · have := hwf (zs.getD 0 0) (by rw [List.getD_eq_getElem?_getD, List.getElem?_eq_getElem hzs]; exact List.getElem_mem hzs)
          have h3 : IntKind.u8.min ≤ zs.getD 0 0 ∧ zs.getD 0 0 ≤ IntKind.u8.max := by simpa [Lit.wf] using this
          exact h3
        · unfold World.cell? at h2
          split at h2
          · rename_i hx; exact (Array.getElem?_eq_some_iff.1 hx).1
          · cases h2
  refine (Go.Ev.PN.law_calls hsz hc1 hd).mono fun e W' ⟨he, h1, h2, h3, h4⟩ => ?_
  subst he
  have hlt : ∀ x ∈ p, x.block < W.heap.size := fun x hx => by simpa using hW'.lt x (by simpa using hx)
  refine ⟨_, rfl, [d0], [], p ++ [], [], p, [], hW', trodAll_mk1 (shut_bool Tryz.underlying4 true), trodAll_mk1 ?_, rfl, kept_same h3 h4 h2, fun h => by cases h⟩
  exact WideElems.Trod_stays laidOut (by kernel_rfl) (of_decide_eq_true (by kernel_rfl)) h0k (fun x hx => by
    cases x with
    | cell b o => exact World.cell?_of_block (w := W) (h2 b (hlt _ hx))
    | map b => exact h2 b (hlt _ hx)) (fun x hx => by simpa using hlt x hx)
theorem lifted (os : Os) (started : os.Started) (H : Type) (enc : TypeId × Value → H) :
    ReturnsInHanded {} Tryz.checked os 3 .any (fun w args => (Rows.fnPoolNewSpec.pre enc Tryz.prog Tryz.f3 Rows.fnPoolNewRow.domain false w args ∧ laidMetH Tryz.prog Rows.fnPoolNewRow.laid w) ∧ sizedMet enc Tryz.prog Tryz.f3 (OpenSpec.ofChange Rows.fnPoolNewSpec) false w args)
      (Rows.fnPoolNewSpec.post enc Tryz.prog Tryz.f3 false true false false) := by
  refine returnsInHanded_of_calls (C := Tryz.checked) own started (by kernel_rfl)
    (ChangeSpec.witness_shaped (enc := enc) (C := Tryz.checked) (os := os) (X := fun w _ => laidMetH Tryz.prog Rows.fnPoolNewRow.laid w) false (World.laidAll Tryz.prog os Rows.fnPoolNewRow.laid) #[.slice none 0 0] 8 (World.laidAll_os _ _ _)
      (World.shaped_of_ZipB (by kernel_rfl) (by kernel_rfl)) (by kernel_rfl) (by kernel_rfl) (by kernel_rfl)
      (by rw [MakeChecks.laidMetH_plain _ _ _ (by kernel_rfl)]; exact laidMet_laidAll _ (by kernel_rfl) (by kernel_rfl))) ?_
  intro w tape i _ hsh _ hok hpre _
  obtain ⟨_, _, _, fn', hfn', _, _, _, _, hval⟩ := hok
  obtain rfl : fn' = Tryz.f3 := Option.some.inj (hfn'.symm.trans Tryz.func3)
  obtain ⟨⟨⟨ds, gs, before, hw, _⟩, hx⟩, _⟩ := hpre
  have hw' := DataW.Whole.of_heap (w' := w.forCall tape i) (by rfl) hw
  have hx' : laidMetH Tryz.prog Rows.fnPoolNewRow.laid (w.forCall tape i) := hx.of_heap (by rfl)
  refine (core hval hw' hx' hsh).mono fun e W' ⟨v, he, hp⟩ => ?_
  subst he
  exact ChangeSpec.post_blind hp
theorem named3 : Tryz.prog.funcNamed "loop.example/poolfiles/laws.FnPoolNew" = some 3 := by kernel_rfl
theorem inst3 : Tryz.f3.isInstance Tryz.prog Rows.fnPoolNewRow.origin Rows.fnPoolNewRow.targs := of_decide_eq_true (by kernel_rfl)
theorem wrap3 : Tryz.f3.isWrapper Tryz.prog Rows.fnPoolNewRow.wrapper Rows.fnPoolNewRow.mainSum := by
  unfold Func.isWrapper
  first | (rw [if_pos (by decide +kernel)]; kernel_rfl) | (rw [if_neg (by decide +kernel)]; exact ⟨rfl, rfl⟩)
theorem row_holds : Rows.FnPoolNewSaid :=
  OpenClaim.holds_of_wide 3 Tryz.f3 rfl rfl rfl rfl rfl rfl rfl ⟨rfl, rfl, rfl, rfl, rfl⟩ rfl rfl rfl rfl rfl named3 Tryz.func3 facts inst3 wrap3
    (fun os started H enc _ => lifted os started H enc)
/-- No function of the program starts a goroutine. -/
theorem noGoes : Tryz.prog.funcs.any Func.goes = false := by kernel_rfl
theorem goes_none (g : FuncId) : (Tryz.prog.funcs[g]?).any Func.goes = false := by
  cases hg : Tryz.prog.funcs[g]? with
  | none => rfl
  | some fn =>
    obtain ⟨hlt, hfn⟩ := Array.getElem?_eq_some_iff.1 hg
    have := Array.any_eq_false.1 noGoes g hlt
    rw [hfn] at this
    simpa using this
theorem goes_false (f : FuncId) : Tryz.prog.goes f = false := by
  unfold Program.goes
  rw [noGoes, Bool.and_false, Bool.or_false, List.any_eq_false]
  intro g _
  rw [goes_none]
  decide
theorem goesBy_of {P : Program} {c : OpenClaim} (hs : c.start = .entering) (h : ∀ f, P.goes f = false) : false = c.goesBy P := by
  unfold OpenClaim.goesBy Program.goesAt Program.goesFrom
  rw [hs]
  cases P.funcNamed c.func with
  | none => rfl
  | some f => simp [h]
theorem goesBy_false : false = Rows.fnPoolNewRow.goesBy Tryz.pinned.checked.prog := goesBy_of rfl goes_false
theorem text_wf : OpenClaim.wfByText (OpenSpec.ofChange Rows.fnPoolNewSpec) Rows.fnPoolNewRow = true := by kernel_rfl
theorem mains : Tryz.pinned.checked.prog.mainIs = some (true, "4bfbd4457c7bf91d68003540c3a3edff0edabee7c9e33521e0886167c2b7fc1f".toList) := by kernel_rfl
theorem looksAt : true = Tryz.prog.looks [] := by kernel_rfl
theorem plain22 : ([22].all fun u => !Tryz.prog.wantsStandIn u) = true := by kernel_rfl
theorem params_plain (f : FuncId) (fn : Func) (hf : Tryz.pinned.checked.prog.funcNamed Rows.fnPoolNewRow.func = some f) (hfn : Tryz.pinned.checked.prog.funcs[f]? = some fn) :
    true = Tryz.pinned.checked.prog.looks [] ∧ ∀ (j : Nat) (t : TypeId), fn.params[j]? = some t → Tryz.pinned.checked.prog.wantsStandIn t = false := by
  obtain rfl : 3 = f := Option.some.inj (named3.symm.trans hf)
  obtain rfl : fn = Tryz.f3 := (Option.some.inj (Tryz.func3.symm.trans hfn)).symm
  refine ⟨looksAt, fun j t ht => ?_⟩
  rw [Tryz.params3] at ht
  have hm : t ∈ [22] := by simpa using Array.mem_of_getElem? ht
  exact (show Tryz.prog.wantsStandIn t = false by simpa using List.all_eq_true.1 plain22 t hm)
end Go.Proofs.YtfihakfjjoednaaGreatDoor
