/-
  Structs and arrays built of their parts.
-/
import Derived.Test.YtfihakfjjoednaaGreatDoorEc
import Derived.Laws.Tables
import Derived.Laws.Cells
import Derived.Laws.StructEq
import Derived.ChangeKeysEq
import Derived.MapKept
set_option linter.all false
namespace Go.Ev
theorem lay_eq (cs : Array Value) (off : Nat) : ∀ (l : List Value) (k : Nat), off + k + l.length ≤ cs.size →
    ((l.zipIdx k).foldl (fun cs (c, j) => cs.setIfInBounds (off + j) c) cs).toList = cs.toList.take (off + k) ++ (l ++ cs.toList.drop (off + k + l.length)) := by
  intro l
  induction l generalizing cs with
  | nil => intro k h; simp
  | cons x r ih =>
    intro k h
    simp only [List.length_cons] at h
    rw [List.zipIdx_cons, List.foldl_cons, ih _ _ (by simp; omega)]
    have hlt : off + k < cs.toList.length := by simp; omega
    simp only [Array.toList_setIfInBounds]
    have e1 : (cs.toList.set (off + k) x).take (off + (k + 1)) = cs.toList.take (off + k) ++ [x] := by
      rw [show off + (k + 1) = (off + k) + 1 by omega, List.take_add_one, List.take_set_of_le (Nat.le_refl _), List.getElem?_set_self hlt]
      rfl
    have e2 : (cs.toList.set (off + k) x).drop (off + (k + 1) + r.length) = cs.toList.drop (off + k + (r.length + 1)) := by
      rw [List.drop_set_of_lt (by omega)]
      congr 1; omega
    rw [e1, e2]
    simp
theorem VR_c {φ : Ph} {v : V} {x : Value} (h : VR φ v x) (hne : v.c ≠ []) : CR φ v.c x.cells.toList := by
  cases v with
  | er => exact absurd rfl hne
  | q q =>
    have h : QR φ q x := h
    have hx : x.cells = #[x] := by
      cases q with
      | nt k n => rw [h.1]; rfl
      | bo b => have : x = .bool b := h; rw [this]; rfl
      | o q =>
        cases q with
        | st l => obtain ⟨s, rfl, _⟩ := h; rfl
        | pt b i => obtain ⟨p, _, rfl⟩ := h; rfl
        | o q =>
          cases q with
          | ng k n => rw [h.1]; rfl
          | sl b i n s c => obtain ⟨p, cap, _, rfl, _⟩ := h; rfl
          | mp b => obtain ⟨p, _, rfl⟩ := h; rfl
          | nl z => have : x = z.val := h; rw [this]; cases z <;> rfl
          | uk => obtain ⟨k, n, rfl⟩ := h; rfl
    rw [hx]
    exact ⟨h, trivial⟩
  | o v =>
    cases v with
    | ag c => obtain ⟨xs, rfl, hc⟩ := h; exact hc
    | tu ts => exact absurd rfl hne
    | fn f c =>
      obtain ⟨cs, rfl, hc⟩ := h
      exact ⟨⟨cs, rfl, hc⟩, trivial⟩
    | un => exact absurd rfl hne
theorem fill_cons (o n : Nat) (x : Opd) (r : List (Nat × Nat × Opd)) (e : E) (z : List L) : fill ((o, n, x) :: r) e z =
    if (opd x e).c.length = n then (if o + n ≤ z.length then fill r e (z.take o ++ ((opd x e).c ++ z.drop (o + (opd x e).c.length))) else none) else none := by
  have e1 : fill ((o, n, x) :: r) e z = Bool.rec (motive := fun _ => Option (List L)) none (Bool.rec (motive := fun _ => Option (List L)) none (fill r e (ov z (opd x e).c o)) (Nat.ble (Nat.add o n) (len z))) (Nat.beq (len (opd x e).c) n) := rfl
  rw [e1, beq_nat, ble_nat]
  simp only [len_eq, ov_eq]
  have : Nat.add o n = o + n := rfl
  rw [this]
  by_cases h1 : (opd x e).c.length = n <;> by_cases h2 : o + n ≤ z.length <;> simp [h1, h2]
theorem fill_run {φ : Ph} {e : E} {a : Act} (hs : SR φ e a) (hg : GOk φ) (f : Nat → Option (Nat × Nat)) : ∀ (ps : List (Nat × Operand)) (l : List (Nat × Nat × Opd)) (z c : List L) (zs : Array Value),
    trParts f ps = some l → fill l e z = some c → CR φ z zs.toList → ∃ xs, Instr.fill f zs (ps.map fun (i, x) => (i, a.eval x)) = some xs ∧ CR φ c xs.toList
  | [], l, z, c, zs, hp, hf, hz => by
    injection hp with hp; subst hp
    have : some z = some c := hf
    injection this with this; subst this
    exact ⟨zs, rfl, hz⟩
  | (i, x) :: r, l, z, c, zs, hp, hf, hz => by
    simp only [trParts] at hp
    split at hp
    · rename_i oo n s hfi hr
      rw [beq_nat, cond_eq_ite] at hp
      split at hp
      · cases hp
      · rename_i hn
        have hn : n ≠ 0 := by simpa using hn
        injection hp with hp; subst hp
        rw [fill_cons] at hf
        split at hf
        · rename_i h1
          split at hf
          · rename_i h2
            have hx := opd_VR hs hg x
            have hcr := VR_c hx (by intro h0; rw [h0] at h1; exact hn h1.symm)
            have hlen := hcr.length
            have hzl := hz.length
            have hsz : (a.eval x).cells.size = n := by rw [← Array.length_toList, ← hlen, h1]
            have hzs : z.length = zs.size := by rw [hzl, Array.length_toList]
            have hlay := lay_eq zs oo (a.eval x).cells.toList 0 (by rw [Array.length_toList, hsz]; omega)
            have hrel : CR φ (z.take oo ++ ((opd (trO x) e).c ++ z.drop (oo + (opd (trO x) e).c.length)))
                (((a.eval x).cells.zipIdx.foldl (fun cs (c, j) => cs.setIfInBounds (oo + j) c) zs).toList) := by
              have e2 : ((a.eval x).cells.zipIdx.foldl (fun cs (c, j) => cs.setIfInBounds (oo + j) c) zs) = (((a.eval x).cells.toList.zipIdx 0).foldl (fun cs (c, j) => cs.setIfInBounds (oo + j) c) zs) := by
                rw [← Array.foldl_toList, Array.toList_zipIdx]
              rw [e2, hlay]
              simp only [Nat.add_zero]
              rw [hlen]
              exact All2.append (All2.take _ hz) (All2.append hcr (All2.drop _ hz))
            obtain ⟨xs, h3, h4⟩ := fill_run hs hg f r s _ c _ hr hf hrel
            refine ⟨xs, ?_, h4⟩
            simp only [List.map_cons, Instr.fill, hfi]
            rw [if_neg (by rw [hsz]; simp; omega)]
            exact h3
          · cases hf
        · cases hf
    · cases hp
end Go.Ev
namespace Go.Ev
section
variable {P : Program} {T : TT} {C : CT} {φ : Ph} {e : E} {a : Act} {o : Oper}
theorem built_run {t : TypeId} {ps : Array (Nat × Operand)} {xs : Array Value} (h : o.op = .build t ps) (hb : P.built t (ps.toList.map fun (i, x) => (i, a.eval x)) = some xs) (w : World) :
    (execOp a.eval o).run P w = .ok (.value (.agg xs)) w := by
  have h2 : P.built t (ps.map fun (i, x) => (i, a.eval x)).toList = some xs := by rw [Array.toList_map]; exact hb
  simp [execOp, h, run_build w t _ xs h2]
theorem places_get {sz : TypeId → Option Nat} : ∀ (fs : List Field) (places : List (Nat × Nat)), fs.mapM (fun f => (P.info? f.type).map fun i => (f.offset, i.size)) = some places →
    ∀ (i : Nat), places[i]? = (fs[i]?).bind fun f => (P.info? f.type).map fun j => (f.offset, j.size)
  | [], places, h, i => by simp at h; subst h; simp
  | f :: fs, places, h, i => by
    simp only [List.mapM_cons, Option.bind_eq_bind, Option.pure_def] at h
    cases hi : P.info? f.type with
    | none => simp [hi] at h
    | some j =>
      cases hr : fs.mapM (fun f => (P.info? f.type).map fun i => (f.offset, i.size)) with
      | none => simp [hi, hr] at h
      | some rest =>
        simp [hi, hr] at h
        subst h
        cases i with
        | zero => simp [hi]
        | succ i => simpa using places_get (sz := sz) fs rest hr i
theorem fill_places {f g : Nat → Option (Nat × Nat)} (h : ∀ i r, f i = some r → g i = some r) : ∀ (ps : List (Nat × Value)) (zs xs : Array Value), Instr.fill f zs ps = some xs → Instr.fill g zs ps = some xs
  | [], _, _, hf => hf
  | (i, v) :: r, zs, xs, hf => by
    simp only [Instr.fill] at hf ⊢
    cases hi : f i with
    | none => simp [hi] at hf
    | some q =>
      obtain ⟨off, size⟩ := q
      rw [h i _ hi]
      simp only [hi] at hf ⊢
      split at hf
      · cases hf
      · rename_i hn
        rw [if_neg hn]
        exact fill_places h r _ _ hf
/-- A struct or an array of parts. -/
theorem gives_build {t : TypeId} {ps : Array (Nat × Operand)} {z : List L} {l : List (Nat × Nat × Opd)} (hT : TOk P T) (hs : SR φ e a) (hg : GOk φ) (h : o.op = .build t ps)
    (htr : trBuild T t ps.toList = .bd z l) (hne : build z l e ≠ .er) : Gives P a o φ (build z l e) := by
  unfold build at hne ⊢
  split at hne
  · rename_i c hc
    unfold trBuild at htr
    split at htr
    · rename_i s b q fs zz ht
      split at htr
      · rename_i l' hl'
        injection htr with h1 h2; subst h1; subst h2
        obtain ⟨j, zv, d, hj, hsz, _, hz, hu, hk, _, hzero, _⟩ := hT.info _ _ ht
        obtain ⟨fs', hu', hfs, places, hpl⟩ := hT.strct ht
        obtain ⟨xs, hf, hcr⟩ := fill_run hs hg _ _ _ _ _ zv.cells hl' hc (hzero φ)
        refine ⟨.agg xs, built_run h ?_, ⟨xs.toList, rfl, hcr⟩⟩
        unfold Program.built
        simp only [hj, hu', hz, hpl]
        refine fill_places ?_ _ _ _ hf
        intro i r hi
        have hp := places_get (P := P) (sz := fun _ => none) _ _ hpl i
        rw [show places.toArray[i]? = places[i]? by simp, hp]
        rw [← hfs] at hi
        simp only [List.getElem?_map] at hi
        cases hfi : fs'.toList[i]? with
        | none => simp [hfi] at hi
        | some fd =>
          simp only [hfi, Option.map_some, sizeT] at hi
          cases hTf : T fd.type with
          | none => simp [hTf] at hi
          | some ti =>
            obtain ⟨j', _, _, hj', hs', _⟩ := hT.info _ _ hTf
            simp only [hTf, Option.map_some, Option.some.injEq] at hi
            simp [hj', hs', ← hi]
      · cases htr
    · rename_i s b q n c' zz ht
      split at htr
      · rename_i m hm
        split at htr
        · rename_i l' hl'
          injection htr with h1 h2; subst h1; subst h2
          obtain ⟨j, zv, d, hj, hsz, _, hz, hu, hk, _, hzero, _⟩ := hT.info _ _ ht
          have hu' := hT.arr ht
          obtain ⟨xs, hf, hcr⟩ := fill_run hs hg _ _ _ _ _ zv.cells hl' hc (hzero φ)
          refine ⟨.agg xs, built_run h ?_, ⟨xs.toList, rfl, hcr⟩⟩
          simp only [sizeT] at hm
          cases hTc : T c' with
          | none => simp [hTc] at hm
          | some ti =>
            obtain ⟨j', _, _, hj', hs', _⟩ := hT.info _ _ hTc
            simp only [hTc, Option.map_some, Option.some.injEq] at hm
            unfold Program.built
            simp only [hj, hu', hz, hj', hs', hm]
            exact hf
        · cases htr
      · cases htr
    · cases htr
  · exact absurd rfl hne
end
end Go.Ev
namespace Go.Ev
section
variable {P : Program} {T : TT} {C : CT} {φ : Ph} {w : World} {e : E} {a : Act} {o : Oper} {h : H}
/-- What an operation yields that leaves the world as it is. -/
def Reads (P : Program) (a : Act) (o : Oper) (φ : Ph) (w : World) (v : V) : Prop := ∃ x, (execOp a.eval o).run P w = .ok (.value x) w ∧ VR φ v x
theorem Gives.reads {v : V} (hg : Gives P a o φ v) : Reads P a o φ w v := let ⟨x, h1, h2⟩ := hg; ⟨x, h1 w, h2⟩
theorem TOk.isAgg {T : TT} (hT : TOk P T) {t : TypeId} {i : TI} (h : T t = some i) (w : World) : (Go.isAgg t).run P w = .ok i.k.agg w := by
  obtain ⟨_, _, d, _, _, _, _, hd, hk, _⟩ := hT.info _ _ h
  have hu := run_underlying hd w
  cases hi : i.k <;> cases d <;> simp [KR, hi] at hk <;> simp [Go.isAgg, hu, TK.agg]
/-- A row of the heap. -/
theorem Rep.row {g : Nat → AO} (hr : Rep φ g w) {id : Nat} {p : Pl} {t : TypeId} {x : Bool} {f : Option Nat} {c : List L} (hp : φ id = some p) (hg : g id = .row t x f c) :
    ∃ cs fr, w.heap[p.b]? = some (.cells cs t fr) ∧ cs.size = p.base + p.lim ∧ c.length ≤ p.lim ∧ (x = true → p.base = 0 ∧ c.length = p.lim) ∧
      CR φ c ((cs.toList.drop p.base).take c.length) ∧ (∀ k, f = some k → ∀ off, p.base + k ≤ off → ¬(fr.1 ≤ off ∧ off < fr.2)) := by
  obtain ⟨o, h1, h2⟩ := hr.obj id p hp
  rw [hg] at h2
  obtain ⟨cs, fr, h3, h4, h5, h6, h7, h8, _⟩ := h2
  exact ⟨cs, fr, by rw [h1, h3], h4, h5, h6, h7, h8⟩
theorem Rep.frz {g : Nat → AO} (hr : Rep φ g w) {id : Nat} {p : Pl} {t : TypeId} {x : Bool} {f : Option Nat} {c : List L} (hp : φ id = some p) (hg : g id = .row t x f c) {cs : Array Value} {t' : TypeId} {fr : Nat × Nat}
    (hb : w.heap[p.b]? = some (.cells cs t' fr)) : fr.1 ≤ fr.2 := by
  obtain ⟨o, h1, h2⟩ := hr.obj id p hp
  rw [hg] at h2
  obtain ⟨cs, fr, h3, _, _, _, _, _, h9⟩ := h2
  rw [h1, h3] at hb
  simp only [Option.some.injEq, Obj.cells.injEq] at hb
  rw [← hb.2.2]
  exact h9
theorem cell_of {cs : Array Value} {t : TypeId} {fr : Nat × Nat} {b i : Nat} (h : w.heap[b]? = some (.cells cs t fr)) : w.cell? ⟨b, i, none⟩ = cs[i]? := by
  simp [World.cell?, h]
theorem cellsAt_some {b i n : Nat} {cs : List L} (hc : cellsAt h b i n = some cs) : ∃ t x f c, hget h b = .row t x f c ∧ i + n ≤ c.length ∧ cs = (c.drop i).take n := by
  unfold cellsAt at hc
  split at hc
  · rename_i t x f c hq
    simp only [ble_nat, len_eq, cond_eq_ite, decide_eq_true_eq, tk_eq, dr_eq] at hc
    split at hc
    · rename_i hle
      injection hc with hc
      exact ⟨t, x, f, c, hq, hle, hc.symm⟩
    · cases hc
  · cases hc
theorem Rep.cells (hr : Rep φ (hget h) w) {b i n : Nat} {cs : List L} {p : Pl} (hp : φ b = some p) (hc : cellsAt h b i n = some cs) :
    ∃ vs : List Value, vs.length = n ∧ CR φ cs vs ∧ ∀ j v, vs[j]? = some v → w.cell? ((⟨p.b, p.base + i, none⟩ : Addr).add j) = some v := by
  obtain ⟨t, x, f, c, hq, hle, rfl⟩ := cellsAt_some hc
  obtain ⟨as, fr, h1, h2, h3, _, h5, _⟩ := hr.row hp hq
  refine ⟨(as.toList.drop (p.base + i)).take n, ?_, ?_, ?_⟩
  · rw [List.length_take, List.length_drop, Array.length_toList]; omega
  · have := (h5.drop i).take n
    have e2 : (List.drop i (List.take c.length (List.drop p.base as.toList))).take n = (as.toList.drop (p.base + i)).take n := by
      rw [List.drop_take, List.drop_drop, List.take_take]
      congr 1
      omega
    rw [e2] at this
    exact this
  · intro j v hj
    rw [add_addr, cell_of h1]
    rw [List.getElem?_take] at hj
    split at hj
    · rw [List.getElem?_drop] at hj
      simpa using hj
    · cases hj
theorem drop_cons {α : Type} {l : List α} {n : Nat} {x : α} {r : List α} (h : l.drop n = x :: r) : l[n]? = some x := by
  have := congrArg (·[0]?) h
  simpa using this
theorem Rep.cell (hr : Rep φ (hget h) w) {b i : Nat} {t : TypeId} {x : Bool} {f : Option Nat} {c : List L} {l : L} {p : Pl} (hp : φ b = some p) (hq : hget h b = .row t x f c) (hl : c[i]? = some l) :
    ∃ v, w.cell? ⟨p.b, p.base + i, none⟩ = some v ∧ LR φ l v := by
  obtain ⟨as, fr, h1, h2, h3, _, h5, _⟩ := hr.row hp hq
  obtain ⟨v, hv, hlv⟩ := h5.get hl
  refine ⟨v, ?_, hlv⟩
  rw [cell_of h1]
  rw [List.getElem?_take] at hv
  split at hv
  · rw [List.getElem?_drop] at hv
    simpa using hv
  · cases hv
theorem L.v_VR {l : L} {v : Value} (h : LR φ l v) : VR φ l.v v := by cases l <;> exact h
theorem reads_load (hT : TOk P T) {t : TypeId} {i : TI} {x : Operand} (hs : SR φ e a) (hg : GOk φ) (hr : Rep φ (hget h) w) (h0 : o.op = .load t x) (ht : T t = some i)
    (hne : loadV i.k.agg i.size (opd (trO x) e) h ≠ .er) : Reads P a o φ w (loadV i.k.agg i.size (opd (trO x) e) h) := by
  have hx := opd_VR hs hg x
  have hag := hT.isAgg ht w
  have hsz := hT.size ht w
  unfold loadV at hne ⊢
  split at hne
  · rename_i b oo hq
    rw [hq] at hx
    obtain ⟨p, hp, hx⟩ := hx
    cases hagg : i.k.agg
    · simp only [hagg] at hne hag ⊢
      cases hh : hget h b with
      | row t' x' f c =>
        simp only [hh, dr_eq] at hne ⊢
        cases hd : c.drop oo with
        | nil => simp [hd] at hne
        | cons l r =>
          obtain ⟨v, hv, hlv⟩ := hr.cell hp hh (drop_cons hd)
          refine ⟨v, ?_, L.v_VR hlv⟩
          simp [execOp, h0, Instr.loadAt, Instr.sureAddr, hx, loadVar, hag, hv]
      | no => simp [hh] at hne
      | ob _ => simp [hh] at hne
    · simp only [hagg] at hne hag ⊢
      cases hc : cellsAt h b oo i.size with
      | none => simp [hc] at hne
      | some cs =>
        obtain ⟨vs, h1, h2, h3⟩ := hr.cells hp hc
        refine ⟨.agg vs.toArray, ?_, ⟨vs, rfl, h2⟩⟩
        have := run_loadCells_list (P := P) w ⟨p.b, p.base + oo, none⟩ vs h3
        rw [h1] at this
        simp [execOp, h0, Instr.loadAt, Instr.sureAddr, hx, loadVar, hag, hsz, this]
  · exact absurd rfl hne
end
end Go.Ev
namespace Go.Ev
def asV (g : Bool) (xs : List Value) : Value := if g then .agg ⟨xs⟩ else xs.headD undef
/-- The parts compared, what follows them left out. -/
noncomputable def eqPre : List EK → List L → List L → Option Bool
  | [], _, _ => some true
  | k :: ks, x :: c, y :: c' => match eq1 k x.v y.v with
    | some true => eqPre ks c c'
    | some false => some false
    | none => none
  | _ :: _, _, _ => none
theorem eqL_pre : ∀ (ks : List EK) (c c' : List L) (r : Bool), eqL ks c c' = some r → eqPre ks c c' = some r
  | [], [], [], r, h => h
  | [], [], _ :: _, r, h => by cases h
  | [], _ :: _, _, r, h => by cases h
  | k :: ks, [], _, r, h => by cases h
  | k :: ks, x :: c, [], r, h => by cases h
  | k :: ks, x :: c, y :: c', r, h => by
    have h : (match eq1 k x.v y.v with
      | some true => eqL ks c c'
      | some false => some false
      | none => none) = some r := h
    show (match eq1 k x.v y.v with
      | some true => eqPre ks c c'
      | some false => some false
      | none => none) = some r
    cases h1 : eq1 k x.v y.v with
    | none => rw [h1] at h; cases h
    | some b =>
      rw [h1] at h
      cases b with
      | true => exact eqL_pre ks c c' r h
      | false => exact h
theorem eqPre_split : ∀ (n : Nat) (ks : List EK) (c c' : List L) (r : Bool), eqPre ks c c' = some r →
    (eqPre (ks.take n) (c.take n) (c'.take n) = some true ∧ eqPre (ks.drop n) (c.drop n) (c'.drop n) = some r) ∨ (eqPre (ks.take n) (c.take n) (c'.take n) = some false ∧ r = false)
  | 0, ks, c, c', r, h => .inl ⟨by simp [eqPre], by simpa using h⟩
  | n + 1, [], c, c', r, h => .inl ⟨by simp [eqPre], by simpa [eqPre] using h⟩
  | n + 1, k :: ks, [], c', r, h => by simp [eqPre] at h
  | n + 1, k :: ks, x :: c, [], r, h => by simp [eqPre] at h
  | n + 1, k :: ks, x :: c, y :: c', r, h => by
    simp only [eqPre, List.take_succ_cons, List.drop_succ_cons] at h ⊢
    cases h1 : eq1 k x.v y.v with
    | none => rw [h1] at h; cases h
    | some b =>
      rw [h1] at h
      cases b with
      | true => exact eqPre_split n ks c c' r h
      | false => right; exact ⟨rfl, by injection h with h; exact h.symm⟩
section
variable {P : Program} {φ : Ph}
theorem run_isAgg_T {t : TypeId} {d : TypeDesc} (h : P.underlying t = some d) (w : World) : (Go.isAgg t).run P w = .ok (aggT P t) w := by
  have hu := run_underlying h w
  cases d <;> simp [Go.isAgg, hu, aggT, h]
theorem EqT_under {d : Nat} {t : TypeId} {ks : List EK} (h : EqT P d t ks = true) : ∃ x, P.underlying t = some x := by
  cases d with
  | zero => cases h
  | succ d =>
    unfold EqT at h
    cases hu : P.underlying t with
    | none => simp [hu] at h
    | some x => exact ⟨x, rfl⟩
theorem eq1_none_nil {d : Nat} {t : TypeId} {ks : List EK} (h : EqT P d t ks = true) (hg : aggT P t = false) : ∃ k, ks = [k] := by
  cases d with
  | zero => cases h
  | succ d =>
    unfold EqT at h
    unfold aggT at hg
    split at h
    · split at h
      · exact ⟨_, rfl⟩
      · cases h
    · split at h
      · exact ⟨_, rfl⟩
      · cases h
    · split at h
      · exact ⟨_, rfl⟩
      · cases h
    · rename_i hu; simp [hu] at hg
    · rename_i hu; simp [hu] at hg
    · cases h
/-- A part of cells that are compared. -/
theorem run_part {d : Nat} {t : TypeId} {ks : List EK} (hE : EqT P d t ks = true) {i : TypeInfo} (hi : P.info? t = some i) (xs : List Value) (off : Nat) (w : World)
    (hlen : aggT P t = false → off < xs.length) :
    (part t ⟨xs⟩ off).run P w = .ok (asV (aggT P t) ((xs.drop off).take (if aggT P t then i.size else 1))) w := by
  obtain ⟨x, hu⟩ := EqT_under hE
  have ha := run_isAgg_T hu w
  cases hg : aggT P t
  · rw [hg] at ha
    have hl := hlen hg
    have h1 : xs[off]? = some xs[off] := List.getElem?_eq_getElem hl
    have h2 : xs.drop off = xs[off] :: xs.drop (off + 1) := (List.drop_eq_getElem_cons hl)
    have h3 : asV false ((xs.drop off).take (if false = true then i.size else 1)) = xs[off] := by rw [h2]; rfl
    rw [h3]
    have h4 : (⟨xs⟩ : Array Value)[off]? = some xs[off] := by rw [← h1]; exact List.getElem?_toArray ..
    unfold part
    rw [Sem.run_bind, ha]
    simp only [Result.andThen_ok, h4]
    rfl
  · rw [hg] at ha
    have hsz : (sizeOf t).run P w = .ok i.size w := by simp [sizeOf, typeInfo, hi]
    have he : (⟨xs⟩ : Array Value).extract off (off + i.size) = ⟨(xs.drop off).take i.size⟩ := by
      apply Array.ext'
      simp [Nat.add_sub_cancel_left]
    unfold part
    rw [Sem.run_bind, ha]
    simp only [Result.andThen_ok, if_true, Sem.run_bind, hsz, Sem.run_pure, he]
    rfl
theorem run_step {m : Nat} {ft : TypeId} {ks : List EK} {i : TypeInfo} {c c' : List L} {xs xs' : List Value} {r : Bool} {off : Nat}
    (IH : ∀ (c c' : List L) (xs xs' : List Value) (r : Bool), CR φ c xs → CR φ c' xs' → eqPre (ks.take i.size) c c' = some r →
      ∀ (d : Nat) (w : World), (Op.equalIn (m + d) ft (asV (aggT P ft) xs) (asV (aggT P ft) xs')).run P w = .ok r w)
    (hi : P.info? ft = some i) (h3 : EqT P m ft (ks.take i.size) = true) (hc : CR φ c xs) (hc' : CR φ c' xs') (h2 : eqPre ks (c.drop off) (c'.drop off) = some r) (d : Nat) (w : World) :
    ∃ va vb, (part ft ⟨xs⟩ off).run P w = .ok va w ∧ (part ft ⟨xs'⟩ off).run P w = .ok vb w ∧
      ∀ q, eqPre (ks.take i.size) ((c.drop off).take i.size) ((c'.drop off).take i.size) = some q → (Op.equalIn (m + d) ft va vb).run P w = .ok q w := by
  have hsp := eqPre_split i.size ks _ _ r h2
  have hlen : aggT P ft = false → off < xs.length ∧ off < xs'.length := by
    intro hg
    obtain ⟨k, hk⟩ := eq1_none_nil h3 hg
    have hne : ∃ q, eqPre [k] ((c.drop off).take i.size) ((c'.drop off).take i.size) = some q := by
      rw [← hk]
      rcases hsp with h | h
      · exact ⟨_, h.1⟩
      · exact ⟨_, h.1⟩
    obtain ⟨q, hq⟩ := hne
    have l1 : off < c.length := by
      rcases Nat.lt_or_ge off c.length with h | h
      · exact h
      · rw [List.drop_of_length_le h] at hq; simp [eqPre] at hq
    have l2 : off < c'.length := by
      rcases Nat.lt_or_ge off c'.length with h | h
      · exact h
      · rw [List.drop_of_length_le h] at hq
        cases hx : List.take i.size (List.drop off c) <;> simp [eqPre, hx] at hq
    exact ⟨hc.length ▸ l1, hc'.length ▸ l2⟩
  refine ⟨_, _, run_part h3 hi xs off w (fun hg => (hlen hg).1), run_part h3 hi xs' off w (fun hg => (hlen hg).2), ?_⟩
  intro q hq
  cases hg : aggT P ft with
  | true =>
    have := IH _ _ _ _ q ((hc.drop off).take i.size) ((hc'.drop off).take i.size) hq d w
    rw [hg] at this
    simpa using this
  | false =>
    obtain ⟨k, hk⟩ := eq1_none_nil h3 hg
    have hq1 : eqPre (ks.take i.size) ((c.drop off).take 1) ((c'.drop off).take 1) = some q := by
      rw [hk] at hq ⊢
      have hs1 : 0 < i.size := by
        rcases Nat.eq_zero_or_pos i.size with h0 | h0
        · rw [h0] at hk; simp at hk
        · exact h0
      obtain ⟨n, hn1⟩ : ∃ n, i.size = n + 1 := ⟨i.size - 1, by omega⟩
      rw [hn1] at hq
      cases hcd : c.drop off with
      | nil => rw [hcd] at hq; simp [eqPre] at hq
      | cons x r =>
        cases hcd' : c'.drop off with
        | nil => rw [hcd, hcd'] at hq; simp [eqPre] at hq
        | cons y s =>
          rw [hcd, hcd'] at hq
          simpa [eqPre] using hq
    have := IH _ _ _ _ q ((hc.drop off).take 1) ((hc'.drop off).take 1) hq1 d w
    rw [hg] at this
    simpa using this
/-- The main law: what the evaluator says of parts, the model's comparison says. -/
theorem run_equal_flat : ∀ (m : Nat) (t : TypeId) (ks : List EK), EqT P m t ks = true → ∀ (c c' : List L) (xs xs' : List Value) (r : Bool), CR φ c xs → CR φ c' xs' → eqPre ks c c' = some r →
    ∀ (d : Nat) (w : World), (Op.equalIn (m + d) t (asV (aggT P t) xs) (asV (aggT P t) xs')).run P w = .ok r w
  | 0, _, _, h, _, _, _, _, _, _, _, _, _, _ => by cases h
  | m + 1, t, ks, h, c, c', xs, xs', r, hc, hc', hr, d, w => by
    rw [show m + 1 + d = (m + d) + 1 by omega]
    have plain : ∀ k, ks = [k] → ∃ x xr y yr a as b bs, c = x :: xr ∧ c' = y :: yr ∧ xs = a :: as ∧ xs' = b :: bs ∧ LR φ x a ∧ LR φ y b ∧ eq1 k x.v y.v = some r := by
      rintro k rfl
      cases c with
      | nil => cases hr
      | cons x xr =>
        cases c' with
        | nil => cases hr
        | cons y yr =>
          cases xs with
          | nil => exact hc.elim
          | cons a as =>
            cases xs' with
            | nil => exact hc'.elim
            | cons b bs =>
              refine ⟨x, xr, y, yr, a, as, b, bs, rfl, rfl, rfl, rfl, hc.1, hc'.1, ?_⟩
              simp only [eqPre] at hr
              cases h1 : eq1 k x.v y.v with
              | none => simp [h1] at hr
              | some q => cases q <;> simp [h1] at hr <;> simp [hr]
    unfold EqT at h
    split at h
    · -- int
      rename_i k hu
      split at h
      · obtain ⟨x, xr, y, yr, p, as, q, bs, rfl, rfl, rfl, rfl, h1, h2, h3⟩ := plain _ rfl
        obtain ⟨k1, i, j, rfl, rfl, rfl⟩ := eqI_some (L.v_VR h1) (L.v_VR h2) (show eqI x.v y.v = some r from h3)
        simp only [aggT, hu, asV]
        have := run_equalIn_int (P := P) w (m + d) t k1 k i j hu
        simp only [Bool.false_eq_true, if_false, List.headD_cons]
        rw [this]
        by_cases hij : i = j <;> simp [hij]
      · cases h
    · rename_i hu
      split at h
      · obtain ⟨x, xr, y, yr, p, as, q, bs, rfl, rfl, rfl, rfl, h1, h2, h3⟩ := plain _ rfl
        obtain ⟨i, j, rfl, rfl, rfl⟩ := eqB_some (L.v_VR h1) (L.v_VR h2) (show eqB x.v y.v = some r from h3)
        simp only [aggT, hu, asV, Bool.false_eq_true, if_false, List.headD_cons]
        rw [run_equalIn_bool' w (m + d) t i j hu]
        cases i <;> cases j <;> rfl
      · cases h
    · rename_i hu
      split at h
      · obtain ⟨x, xr, y, yr, p, as, q, bs, rfl, rfl, rfl, rfl, h1, h2, h3⟩ := plain _ rfl
        obtain ⟨i, j, rfl, rfl, rfl⟩ := eqS_some (L.v_VR h1) (L.v_VR h2) (show eqS x.v y.v = some r from h3)
        simp only [aggT, hu, asV, Bool.false_eq_true, if_false, List.headD_cons]
        rw [run_equalIn_string w (m + d) t i j hu, toList_beq]
      · cases h
    · -- struct
      rename_i fs hu
      simp only [Bool.and_eq_true, Bool.not_eq_true'] at h
      obtain ⟨hst, hf⟩ := h
      have hfo : P.fieldsOf t = fs := by simp [Program.fieldsOf, hu]
      have ht : P.underlying t = some (.struct (P.fieldsOf t)) := by rw [hfo]; exact hu
      simp only [aggT, hu, asV, if_true]
      rw [run_equalIn_agg w (m + d) t _ _ ht hst, hfo]
      have key : ∀ (fl : List Field) (off : Nat) (ks : List EK), eqF P (EqT P m) fl off ks = true → eqPre ks (c.drop off) (c'.drop off) = some r →
          (Op.eqFields (m + d) ⟨xs⟩ ⟨xs'⟩ fl).run P w = .ok r w := by
        intro fl
        induction fl with
        | nil =>
          intro off ks h1 h2
          have : ks = [] := by simpa [eqF] using h1
          subst this
          simp only [eqPre, Option.some.injEq] at h2
          subst h2
          simp [Op.eqFields]
        | cons f fl ih =>
          intro off ks h1 h2
          simp only [eqF, Bool.and_eq_true, bne_iff_ne, ne_eq, beq_iff_eq] at h1
          obtain ⟨⟨hn, hoff⟩, h1⟩ := h1
          cases hi : P.info? f.type with
          | none => simp [hi] at h1
          | some i =>
            simp only [hi, Bool.and_eq_true] at h1
            obtain ⟨h3, h4⟩ := h1
            obtain ⟨va, vb, p1, p2, p3⟩ := run_step (fun c c' xs xs' r a b e d w => run_equal_flat m f.type _ h3 c c' xs xs' r a b e d w) hi h3 hc hc' h2 d w
            simp only [Op.eqFields, hn, ne_eq, not_false_eq_true, if_true, Sem.run_bind, hoff, p1, p2, Result.andThen_ok]
            rcases eqPre_split i.size ks _ _ r h2 with ⟨ha, hb⟩ | ⟨ha, hb⟩
            · rw [p3 true ha]
              simp only [Result.andThen_ok, Bool.not_true, Bool.false_eq_true, if_false]
              refine ih (off + i.size) _ h4 ?_
              rw [← List.drop_drop, ← List.drop_drop]
              exact hb
            · rw [p3 false ha]
              simp [hb]
      exact key fs.toList 0 ks hf (by simpa using hr)
    · -- array
      rename_i n ty hu
      cases hi : P.info? ty with
      | none => simp [hi] at h
      | some i =>
        simp only [hi] at h
        simp only [aggT, hu, asV, if_true]
        rw [run_equalIn_array w (m + d) _ _ hu hi]
        have hcs : P.cellsOf ty = i.size := by simp [Program.cellsOf, hi]
        rw [hcs, List.range_eq_range']
        have key : ∀ (n s0 : Nat) (ks : List EK), eqE (EqT P m ty) i.size n ks = true → eqPre ks (c.drop (s0 * i.size)) (c'.drop (s0 * i.size)) = some r →
            (Op.eqItems (m + d) ty i.size ⟨xs⟩ ⟨xs'⟩ (List.range' s0 n)).run P w = .ok r w := by
          intro n
          induction n with
          | zero =>
            intro s0 ks h1 h2
            have : ks = [] := by simpa [eqE] using h1
            subst this
            simp only [eqPre, Option.some.injEq] at h2
            subst h2
            simp [Op.eqItems]
          | succ n ih =>
            intro s0 ks h1 h2
            simp only [eqE, Bool.and_eq_true] at h1
            obtain ⟨h3, h4⟩ := h1
            obtain ⟨va, vb, p1, p2, p3⟩ := run_step (fun c c' xs xs' r a b e d w => run_equal_flat m ty _ h3 c c' xs xs' r a b e d w) hi h3 hc hc' h2 d w
            simp only [List.range'_succ, Op.eqItems, Sem.run_bind, p1, p2, Result.andThen_ok]
            rcases eqPre_split i.size ks _ _ r h2 with ⟨ha, hb⟩ | ⟨ha, hb⟩
            · rw [p3 true ha]
              simp only [Result.andThen_ok, Bool.not_true, Bool.false_eq_true, if_false]
              refine ih (s0 + 1) _ h4 ?_
              rw [Nat.succ_mul, ← List.drop_drop, ← List.drop_drop]
              exact hb
            · rw [p3 false ha]
              simp [hb]
        exact key n 0 ks h (by simpa using hr)
    · cases h
end
end Go.Ev
namespace Go.Ev
section
variable {P : Program} {φ : Ph}
theorem TR.v {t : T0} {x : Value} (h : TR φ t x) : VR φ t.v x := by
  obtain ⟨g, c⟩ := t
  cases g with
  | true => exact h
  | false =>
    match c with
    | [] => trivial
    | [l] => exact L.v_VR (l := l) h
    | _ :: _ :: _ => trivial
theorem V.t_TR {v : V} {x : Value} (h : VR φ v x) : TR φ v.t x := by
  cases v with
  | er => trivial
  | q q => exact h
  | o v =>
    cases v with
    | ag c => exact h
    | tu ts => trivial
    | fn f c => exact h
    | un => trivial
theorem run_checkKey_flat (em : Bool) : ∀ (m : Nat) (t : TypeId) (ks : List EK), EqT P m t ks = true → ∀ (xs : List Value), ks.length ≤ xs.length → ∀ (d : Nat) (w : World),
    (Instr.checkKey em (m + d) t (asV (aggT P t) xs)).run P w = .ok () w
  | 0, _, _, h, _, _, _, _ => by cases h
  | m + 1, t, ks, h, xs, hl, d, w => by
    rw [show m + 1 + d = (m + d) + 1 by omega]
    have step : ∀ (ft : TypeId) (i : TypeInfo) (ks' : List EK) (off : Nat), P.info? ft = some i → EqT P m ft (ks'.take i.size) = true → ks'.length ≤ (xs.drop off).length →
        ∃ va, (part ft ⟨xs⟩ off).run P w = .ok va w ∧ (Instr.checkKey em (m + d) ft va).run P w = .ok () w := by
      intro ft i ks' off hi h3 hlen
      have hlt : aggT P ft = false → 0 < i.size ∧ off < xs.length := by
        intro hg
        obtain ⟨k, hk⟩ := eq1_none_nil h3 hg
        have h0 : 0 < (ks'.take i.size).length := by rw [hk]; simp
        rw [List.length_take] at h0
        rw [List.length_drop] at hlen
        omega
      refine ⟨_, run_part h3 hi xs off w fun hg => (hlt hg).2, ?_⟩
      cases hg : aggT P ft with
      | true =>
        have := run_checkKey_flat em m ft _ h3 ((xs.drop off).take i.size) (by rw [List.length_take, List.length_take]; omega) d w
        rw [hg] at this
        simpa using this
      | false =>
        obtain ⟨k, hk⟩ := eq1_none_nil h3 hg
        have := run_checkKey_flat em m ft _ h3 ((xs.drop off).take 1) (by rw [hk, List.length_take, List.length_drop]; have := (hlt hg).2; simp; omega) d w
        rw [hg] at this
        simpa using this
    unfold EqT at h
    split at h
    · rename_i k hu
      unfold Instr.checkKey
      simp [run_underlying hu]
    · rename_i hu
      unfold Instr.checkKey
      simp [run_underlying hu]
    · rename_i hu
      unfold Instr.checkKey
      simp [run_underlying hu]
    · rename_i fs hu
      simp only [Bool.and_eq_true, Bool.not_eq_true'] at h
      obtain ⟨_, hf⟩ := h
      simp only [aggT, hu, asV, if_true]
      rw [Instr.checkKey]
      simp only [Sem.run_bind, run_underlying hu, Result.andThen_ok]
      rw [← Array.forIn_toList]
      have hl0 : ks.length ≤ (xs.drop 0).length := by simpa using hl
      clear hl hu
      generalize fs.toList = fl at hf ⊢
      generalize (0 : Nat) = off at hf hl0
      induction fl generalizing off ks with
      | nil => simp
      | cons f fl ih =>
        simp only [eqF, Bool.and_eq_true, bne_iff_ne, ne_eq, beq_iff_eq] at hf
        obtain ⟨⟨hn, hoff⟩, h1⟩ := hf
        cases hi : P.info? f.type with
        | none => simp [hi] at h1
        | some i =>
          simp only [hi, Bool.and_eq_true] at h1
          obtain ⟨va, p1, p2⟩ := step f.type i ks off hi h1.1 hl0
          simp only [List.forIn_cons, Sem.run_bind, hn, ne_eq, not_false_eq_true, if_true, hoff, p1, p2, Result.andThen_ok, Sem.run_pure]
          refine ih _ _ h1.2 ?_
          rw [← List.drop_drop, List.length_drop, List.length_drop]; omega
    · rename_i n ty hu
      cases hi : P.info? ty with
      | none => simp [hi] at h
      | some i =>
        simp only [hi] at h
        simp only [aggT, hu, asV, if_true]
        rw [Instr.checkKey]
        simp only [Sem.run_bind, run_underlying hu, Result.andThen_ok]
        simp only [Std.Legacy.Range.forIn_eq_forIn_range', Std.Legacy.Range.size, Nat.sub_zero, Nat.add_one_sub_one, Nat.div_one]
        have hsz : ∀ w, (sizeOf ty).run P w = .ok i.size w := fun w => by simp [sizeOf, typeInfo, hi]
        have hl0 : ks.length ≤ (xs.drop (0 * i.size)).length := by simpa using hl
        clear hl hu
        generalize (0 : Nat) = s0 at hl0 ⊢
        induction n generalizing s0 ks with
        | zero => simp
        | succ n ih =>
          simp only [eqE, Bool.and_eq_true] at h
          obtain ⟨va, p1, p2⟩ := step ty i ks (s0 * i.size) hi h.1 hl0
          simp only [List.range'_succ, List.forIn_cons, Sem.run_bind, hsz, p1, p2, Result.andThen_ok, Sem.run_pure]
          refine ih _ h.2 (s0 + 1) ?_
          rw [Nat.succ_mul, ← List.drop_drop, List.length_drop, List.length_drop]; omega
    · cases h
end
end Go.Ev
namespace Go.Ev
section
variable {P : Program} {T : TT} {C : CT} {φ : Ph} {w : World} {e : E} {a : Act} {o : Oper} {h : H}
def KK (P : Program) (kt : TypeId) : EK → Prop
  | .i => ∃ k, P.underlying kt = some (.int k)
  | .s => P.underlying kt = some .string
  | .a l => EqT P 10 kt l = true ∧ aggT P kt = true
  | _ => False
theorem TOk.tkey (hT : TOk P T) {t : TypeId} {q : EK} (h : tkey T t = some q) : KK P t q := by
  unfold Go.Ev.tkey at h
  cases ht : T t with
  | none => simp [ht] at h
  | some i =>
    simp only [ht] at h
    obtain ⟨s, b, k, z⟩ := i
    cases k <;> simp [TK.key] at h
    · subst h; exact ⟨_, hT.int ht⟩
    · subst h; exact hT.str ht
    · rename_i q n el
      cases q with
      | none => simp at h
      | some l => simp at h; subst h; exact ⟨(hT.flat _ _ l ht rfl).1, (hT.flat _ _ l ht rfl).2.1⟩
    · rename_i q fs
      cases q with
      | none => simp at h
      | some l => simp at h; subst h; exact ⟨(hT.flat _ _ l ht rfl).1, (hT.flat _ _ l ht rfl).2.1⟩
theorem TOk.tmap (hT : TOk P T) {t : TypeId} {q : EK} (h : tmap T t = some q) : ∃ c v, P.underlying t = some (.map c v) ∧ KK P c q := by
  unfold Go.Ev.tmap at h
  split at h
  · rename_i c v z ht
    exact ⟨c, v, hT.map ht, hT.tkey h⟩
  · cases h
theorem formL_len : ∀ (ks : List EK) (l : List L), formL ks l = true → l.length = ks.length
  | [], [], _ => rfl
  | [], _ :: _, h => by cases h
  | k :: ks, [], h => by cases h
  | k :: ks, x :: l, h => by
    have h : (bif form1 k x.v then formL ks l else false) = true := h
    cases hf : form1 k x.v <;> simp [hf] at h
    simp [formL_len ks l h]
theorem form1_i {x : V} {v : Value} (h : form1 .i x = true) (hv : VR φ x v) : ∃ k n, v = .int k n := by
  simp only [form1] at h
  split at h
  · exact ⟨_, _, (show v = _ ∧ _ from hv).1⟩
  · exact ⟨_, _, (show v = _ ∧ _ from hv).1⟩
  · cases h
theorem form1_s {x : V} {v : Value} (h : form1 .s x = true) (hv : VR φ x v) : ∃ s, v = .string s := by
  simp only [form1] at h
  split at h
  · obtain ⟨s, hs, _⟩ := (show ∃ s, v = .string s ∧ _ from hv)
    exact ⟨s, hs⟩
  · cases h
theorem run_checkKey_ev {kt : TypeId} {kk : EK} {k : V} {kv : Value} (hk : KK P kt kk) (hp : plainK kk k = true) (hv : VR φ k kv) (em : Bool) (w : World) : (Instr.checkKey em 10000 kt kv).run P w = .ok () w := by
  cases kk with
  | i =>
    obtain ⟨q, hu⟩ := hk
    obtain ⟨k1, n, rfl⟩ := form1_i (φ := φ) hp hv
    unfold Instr.checkKey
    simp [run_underlying hu]
  | s =>
    obtain ⟨s, rfl⟩ := form1_s (φ := φ) hp hv
    unfold Instr.checkKey
    simp [run_underlying (show P.underlying kt = some .string from hk)]
  | a l =>
    obtain ⟨hE, hag⟩ := hk
    unfold plainK at hp
    simp only at hp
    split at hp
    · rename_i c
      obtain ⟨xs, rfl, hc⟩ := hv
      have := run_checkKey_flat em 10 kt l hE xs (by rw [← hc.length, formL_len l c hp]; exact Nat.le_refl _) 9990 w
      rw [hag] at this
      exact this
    · cases hp
  | b => exact hk.elim
  | p => exact hk.elim
  | z _ => exact hk.elim
/-- Sameness of keys: at once, or by asking. -/
theorem key_same {kt : TypeId} {kk : EK} {k y : V} {kv yv : Value} {r : Bool} (hk : KK P kt kk) (hv : VR φ k kv) (hy : VR φ y yv) (hr : eqV kk k y = some r) :
    ∃ d, P.underlying kt = some d ∧ ((Instr.sameNow d kv yv = some r) ∨ ((∀ u v, Instr.sameNow d u v = none) ∧ ∀ w, (Op.equal kt kv yv).run P w = .ok r w)) := by
  cases kk with
  | i =>
    obtain ⟨q, hu⟩ := hk
    obtain ⟨k1, i, j, rfl, rfl, rfl⟩ := eqI_some hv hy (show eqI k y = some r from hr)
    refine ⟨_, hu, .inl ?_⟩
    simp only [Instr.sameNow, if_true]
    by_cases hij : i = j <;> simp [hij]
  | s =>
    obtain ⟨i, j, rfl, rfl, rfl⟩ := eqS_some hv hy (show eqS k y = some r from hr)
    refine ⟨_, hk, .inl ?_⟩
    simp only [Instr.sameNow]
    rw [beq_toListBytes, toList_beq]
  | a l =>
    obtain ⟨hE, hag⟩ := hk
    have hr : eqA l k y = some r := hr
    unfold eqA at hr
    split at hr
    · rename_i c _
      obtain ⟨xs, rfl, hc⟩ := hv
      split at hr
      · rename_i c' _
        obtain ⟨ys, rfl, hc'⟩ := hy
        have heq := run_equal_flat 10 kt l hE c c' xs ys r hc hc' (eqL_pre l c c' r hr) 9990
        rw [hag] at heq
        cases hu : P.underlying kt with
        | none => simp [aggT, hu] at hag
        | some d =>
          refine ⟨d, rfl, .inr ⟨?_, fun w => by simp only [Op.equal, Op.maxDepth]; exact heq w⟩⟩
          intro u v
          cases d <;> simp [aggT, hu] at hag <;> simp [Instr.sameNow]
      · cases hr
    · cases hr
  | b => exact hk.elim
  | p => exact hk.elim
  | z _ => exact hk.elim
def Found (es : List ME) (ms : List MapEntry) (i : Nat) : Option (Nat × ME) → Option (Nat × Value) → Prop
  | none, r => r = none
  | some (j, x), r => ∃ j' me, j = i + j' ∧ es[j']? = some x ∧ ms[j']? = some me ∧ r = some (j, me.val)
theorem Found.cons {es : List ME} {ms : List MapEntry} {i : Nat} {r : Option (Nat × ME)} {s : Option (Nat × Value)} {x : ME} {m : MapEntry} (h : Found es ms (i + 1) r s) : Found (x :: es) (m :: ms) i r s := by
  cases r with
  | none => exact h
  | some p =>
    obtain ⟨j', me, h1, h2, h3, h4⟩ := h
    exact ⟨j' + 1, me, by omega, by simpa using h2, by simpa using h3, h4⟩
theorem find_cons (kk : EK) (k : V) (x : ME) (es : List ME) (i : Nat) : find kk k (x :: es) i = match eqV kk k x.k.v with
    | some true => some (some (i, x))
    | some false => find kk k es (i + 1)
    | none => none := rfl
theorem find_asking {kt : TypeId} {kk : EK} {k : V} {kv : Value} (hk : KK P kt kk) (hv : VR φ k kv) (hd : ∃ d, P.underlying kt = some d ∧ ∀ u v, Instr.sameNow d u v = none) (w : World) :
    ∀ (es : List ME) (ms : List MapEntry) (i : Nat) (r : Option (Nat × ME)), All2 (MR φ) es ms → find kk k es i = some r → ∃ s, (Instr.findAsking kt kv ms i).run P w = .ok s w ∧ Found es ms i r s
  | [], [], i, r, _, h => by
    have h : some none = some r := h
    injection h with h; subst h
    exact ⟨none, by simp [Instr.findAsking], rfl⟩
  | x :: es, m :: ms, i, r, ⟨h1, h2⟩, h => by
    rw [find_cons] at h
    cases he : eqV kk k x.k.v with
    | none => rw [he] at h; cases h
    | some b =>
      rw [he] at h
      obtain ⟨d, hu, hor⟩ := key_same hk hv (h1.1.v) he
      obtain ⟨d', hu', hnone⟩ := hd
      rw [hu] at hu'; injection hu' with hu'; subst hu'
      have heq : (Op.equal kt kv m.key).run P w = .ok b w := by
        rcases hor with h | h
        · rw [hnone] at h; cases h
        · exact h.2 w
      cases b with
      | true =>
        injection h with h; subst h
        exact ⟨some (i, m.val), by simp [Instr.findAsking, heq], 0, m, rfl, rfl, rfl, rfl⟩
      | false =>
        obtain ⟨s, hs, hf⟩ := find_asking hk hv ⟨d, hu, hnone⟩ w es ms (i + 1) r h2 h
        exact ⟨s, by simp [Instr.findAsking, heq, hs], hf.cons⟩
theorem find_now {kt : TypeId} {kk : EK} {k : V} {kv : Value} {d : TypeDesc} (hk : KK P kt kk) (hv : VR φ k kv) (hu : P.underlying kt = some d) (hd : ¬ ∀ u v, Instr.sameNow d u v = none) :
    ∀ (es : List ME) (ms : List MapEntry) (i : Nat) (r : Option (Nat × ME)), All2 (MR φ) es ms → find kk k es i = some r → ∃ s, Instr.findNow d kv ms i = some s ∧ Found es ms i r s
  | [], [], i, r, _, h => by
    have h : some none = some r := h
    injection h with h; subst h
    exact ⟨none, by simp [Instr.findNow], rfl⟩
  | x :: es, m :: ms, i, r, ⟨h1, h2⟩, h => by
    rw [find_cons] at h
    cases he : eqV kk k x.k.v with
    | none => rw [he] at h; cases h
    | some b =>
      rw [he] at h
      obtain ⟨d', hu', hor⟩ := key_same hk hv (h1.1.v) he
      rw [hu] at hu'; injection hu' with hu'; subst hu'
      have heq : Instr.sameNow d kv m.key = some b := by
        rcases hor with h | h
        · exact h
        · exact absurd h.1 hd
      cases b with
      | true =>
        injection h with h; subst h
        exact ⟨some (i, m.val), by simp [Instr.findNow, heq], 0, m, rfl, rfl, rfl, rfl⟩
      | false =>
        obtain ⟨s, hs, hf⟩ := find_now hk hv hu hd es ms (i + 1) r h2 h
        exact ⟨s, by simp [Instr.findNow, heq, hs], hf.cons⟩
theorem findNow_none {d : TypeDesc} (hd : ∀ u v, Instr.sameNow d u v = none) (kv : Value) (m : MapEntry) (ms : List MapEntry) (i : Nat) : Instr.findNow d kv (m :: ms) i = none := by
  simp [Instr.findNow, hd]
theorem run_findKey_ev {kt : TypeId} {kk : EK} {k : V} {kv : Value} (hk : KK P kt kk) (hv : VR φ k kv) (w : World) {es : List ME} {ms : List MapEntry} {r : Option (Nat × ME)}
    (hall : All2 (MR φ) es ms) (h : find kk k es 0 = some r) : ∃ s, (Instr.findKey kt kv ms).run P w = .ok s w ∧ Found es ms 0 r s := by
  have hdu : ∃ d, P.underlying kt = some d := by
    cases kk with
    | i => exact ⟨_, hk.choose_spec⟩
    | s => exact ⟨_, hk⟩
    | a l => exact EqT_under hk.1
    | b => exact hk.elim
    | p => exact hk.elim
    | z _ => exact hk.elim
  obtain ⟨d, hu⟩ := hdu
  by_cases hd : ∀ u v, Instr.sameNow d u v = none
  · cases ms with
    | nil =>
      cases es with
      | nil =>
        have h : some none = some r := h
        injection h with h; subst h
        exact ⟨none, by simp [Instr.findKey, run_underlying hu, Instr.findNow], rfl⟩
      | cons _ _ => exact hall.elim
    | cons m ms =>
      obtain ⟨s, hs, hf⟩ := find_asking hk hv ⟨d, hu, hd⟩ w es (m :: ms) 0 r hall h
      exact ⟨s, by simp [Instr.findKey, run_underlying hu, findNow_none hd, hs], hf⟩
  · obtain ⟨s, hs, hf⟩ := find_now hk hv hu hd es ms 0 r hall h
    exact ⟨s, by simp [Instr.findKey, run_underlying hu, hs], hf⟩
/-- A map of the heap. -/
theorem Rep.map {g : Nat → AO} (hr : Rep φ g w) {id : Nat} {p : Pl} {ck : Nat} {es : List ME} (hp : φ id = some p) (hg : g id = .ob (.mp ck es)) :
    ∃ ms : List MapEntry, w.heap[p.b]? = some (.map ⟨ms⟩ ck) ∧ All2 (MR φ) es ms := by
  obtain ⟨o, h1, h2⟩ := hr.obj id p hp
  rw [hg] at h2
  obtain ⟨ms, h3, h4⟩ := h2
  exact ⟨ms, by rw [h1, h3], h4⟩
end
end Go.Ev
namespace Go.Ev
section
variable {P : Program} {T : TT} {C : CT} {φ : Ph} {w : World} {e : E} {a : Act} {o : Oper} {h : H}
theorem run_getMap {r : Nat} {es : Array MapEntry} {clock : Nat} (hb : w.heap[r]? = some (.map es clock)) : (getObj r).run P w = .ok (.map es clock) w := by
  simp [getObj, Sem.run, hb]
theorem TOk.zero (hT : TOk P T) {t : TypeId} {i : TI} (h : T t = some i) (φ : Ph) (w : World) : ∃ z, (zeroValue t).run P w = .ok z w ∧ TR φ ⟨i.k.agg, i.zero⟩ z ∧ CR φ i.zero z.cells.toList := by
  obtain ⟨j, z, d, hj, _, _, hz, _, _, hag, hc, _⟩ := hT.info _ _ h
  refine ⟨z, by simp [zeroValue, typeInfo, hj, hz], ?_, hc φ⟩
  have hc := hc φ
  cases z with
  | agg cs =>
    have : i.k.agg = true := hag
    rw [this]
    obtain ⟨cs⟩ := cs
    exact ⟨cs, rfl, hc⟩
  | _ =>
    have h1 : i.k.agg = false := hag
    rw [h1]
    cases hz : i.zero with
    | nil => rw [hz] at hc; exact hc.elim
    | cons l r =>
      rw [hz] at hc
      cases r with
      | nil => exact hc.1
      | cons _ _ => exact hc.2.elim
theorem TOk.tzero (hT : TOk P T) {t : TypeId} {z : T0} (h : tzero T t = some z) (φ : Ph) (w : World) : ∃ zv, (zeroValue t).run P w = .ok zv w ∧ TR φ z zv := by
  unfold Go.Ev.tzero at h
  cases ht : T t with
  | none => simp [ht] at h
  | some i =>
    simp only [ht, Option.some.injEq] at h
    subst h
    obtain ⟨zv, h1, h2, _⟩ := hT.zero ht φ w
    exact ⟨zv, h1, h2⟩
theorem out_VR {v : T0} {x : Value} {ok t : Bool} (hv : TR φ v x) :
    VR φ (match ok with | true => V.o (.tu [v, ⟨false, [.q (.bo t)]⟩]) | false => v.v) (if ok then .tuple #[x, .bool t] else x) := by
  cases ok
  · exact hv.v
  · exact ⟨[x, .bool t], rfl, hv, rfl, trivial⟩
theorem reads_lookup (hT : TOk P T) {t c v : TypeId} {kk : EK} {z : T0} {m k : Operand} {ok : Bool} (hs : SR φ e a) (hg : GOk φ) (hr : Rep φ (hget h) w) (h0 : o.op = .lookup t m k ok)
    (ht : P.underlying t = some (.map c v)) (hk : KK P c kk) (hz : tzero T v = some z) (hne : lookV kk ok z (opd (trO m) e) (opd (trO k) e) h ≠ .er) :
    Reads P a o φ w (lookV kk ok z (opd (trO m) e) (opd (trO k) e) h) := by
  have hm := opd_VR hs hg m
  have hkv := opd_VR hs hg k
  obtain ⟨zv, hz1, hz2⟩ := hT.tzero hz φ w
  unfold lookV at hne ⊢
  simp only at hne ⊢
  split at hne
  · rename_i b hq
    rw [hq] at hm
    obtain ⟨p, hp, hm⟩ := hm
    split at hne
    · rename_i ck es hh
      obtain ⟨ms, hb, hall⟩ := hr.map hp hh
      cases hpl : plainK kk (opd (trO k) e) with
      | false => simp [hpl] at hne
      | true =>
        simp only [hpl, cond_true] at hne ⊢
        have hck := run_checkKey_ev hk hpl hkv
        cases hf : find kk (opd (trO k) e) es 0 with
        | none => simp [hf] at hne
        | some r =>
          obtain ⟨s, hs1, hs2⟩ := run_findKey_ev hk hkv w hall hf
          have hget := run_getMap (P := P) hb
          cases r with
          | none =>
            have hs2 : s = none := hs2
            subst hs2
            refine ⟨if ok then .tuple #[zv, .bool false] else zv, ?_, out_VR hz2⟩
            simp [execOp, h0, Instr.lookup, run_underlying ht, hm, hget, hck, hs1, hz1]
          | some q =>
            obtain ⟨j, x⟩ := q
            obtain ⟨j', me, _, h2, h3, rfl⟩ := hs2
            obtain ⟨me', hme, hmr⟩ := hall.get h2
            rw [h3] at hme; injection hme with hme; subst hme
            refine ⟨if ok then .tuple #[me.val, .bool true] else me.val, ?_, out_VR hmr.2.1⟩
            simp [execOp, h0, Instr.lookup, run_underlying ht, hm, hget, hck, hs1]
    · exact absurd rfl hne
  · rename_i hq
    rw [hq] at hm
    have hm : a.eval m = .map none := hm
    cases hpl : plainK kk (opd (trO k) e) with
    | false => simp [hpl] at hne
    | true =>
      simp only [hpl, cond_true] at hne ⊢
      have hck := run_checkKey_ev hk hpl hkv
      obtain ⟨s, hs1, hs2⟩ := run_findKey_ev (φ := φ) hk hkv w (es := []) (ms := []) (r := none) trivial rfl
      have hs2 : s = none := hs2
      subst hs2
      refine ⟨if ok then .tuple #[zv, .bool false] else zv, ?_, out_VR hz2⟩
      simp [execOp, h0, Instr.lookup, run_underlying ht, hm, hck, hs1, hz1]
  · exact absurd rfl hne
theorem reads_lenM {t c v : TypeId} {ts : Array TypeId} {x : Operand} (hs : SR φ e a) (hg : GOk φ) (hr : Rep φ (hget h) w) (h0 : o.op = .call ⟨.builtin .len, #[x], ts⟩) (h1 : ts[0]? = some t)
    (ht : P.underlying t = some (.map c v)) (hne : lenM (opd (trO x) e) h ≠ .er) : Reads P a o φ w (lenM (opd (trO x) e) h) := by
  have hx := opd_VR hs hg x
  unfold lenM at hne ⊢
  split at hne
  · rename_i b hq
    rw [hq] at hx
    obtain ⟨p, hp, hx⟩ := hx
    split at hne
    · rename_i ck es hh
      obtain ⟨ms, hb, hall⟩ := hr.map hp hh
      have hget := run_getMap (P := P) hb
      rw [len_eq] at hne ⊢
      refine ⟨goInt es.length, ?_, fit64 hne⟩
      rw [call_builtin h0]
      simp [builtin, Builtin.len_, h1, run_underlying ht, hx, hget, hall.length]
    · exact absurd rfl hne
  · rename_i hq
    rw [hq] at hx
    have hx : a.eval x = .map none := hx
    refine ⟨goInt 0, ?_, rfl, by simp [lim]⟩
    rw [call_builtin h0]
    simp [builtin, Builtin.len_, h1, run_underlying ht, hx]
  · exact absurd rfl hne
theorem bytes_cons (x : L) (c : List L) : bytes (x :: c) = (match x with
      | .q (.nt .u8 n) => match bytes c with
        | some r => some (n :: r)
        | none => none
      | _ => none) := rfl
theorem bytes_some : ∀ (c : List L) (l : List Nat) (vs : List Value), bytes c = some l → CR φ c vs → vs = l.map (fun n => Value.int .u8 (Int.ofNat n)) ∧ ∀ n ∈ l, n < 256
  | [], l, [], h, _ => by
    have h : some [] = some l := h
    injection h with h; subst h
    simp
  | x :: c, l, v :: vs, h, hxc => by
    obtain ⟨hx, hc⟩ := hxc
    rw [bytes_cons] at h
    split at h
    · rename_i n
      split at h
      · rename_i r hr
        injection h with h; subst h
        obtain ⟨h1, h2⟩ := bytes_some c r vs hr hc
        obtain ⟨rfl, hlt⟩ := hx
        subst h1
        refine ⟨rfl, ?_⟩
        intro m hm
        cases hm with
        | head => exact hlt
        | tail _ hm => exact h2 m hm
      · cases h
    · cases h
theorem push_bytes (l : List Nat) (s : ByteArray) (hl : ∀ n ∈ l, n < 256) : bytesOf (l.foldl (fun s n => s.push (UInt8.ofNat n)) s) = bytesOf s ++ l := by
  induction l generalizing s with
  | nil => simp
  | cons n l ih =>
    simp only [List.foldl_cons]
    rw [ih _ (fun m hm => hl m (List.mem_cons_of_mem _ hm))]
    have : n < 256 := hl n (List.mem_cons_self ..)
    simp [bytesOf, Nat.mod_eq_of_lt this]
theorem run_bytesToString (l : List Nat) (b : Addr) (n cap : Nat) (hl : ∀ m ∈ l, m < 256) (hload : (loadCells b n).run P w = .ok ⟨l.map (fun n => Value.int .u8 (Int.ofNat n))⟩ w) :
    ∃ s, (Conv.bytesToString (.slice (some b) n cap)).run P w = .ok (.string s) w ∧ bytesOf s = l := by
  refine ⟨l.foldl (fun s n => s.push (UInt8.ofNat n)) .empty, ?_, by rw [push_bytes l _ hl]; rfl⟩
  simp only [Conv.bytesToString, Sem.run_bind, hload, Result.andThen_ok]
  rw [← Array.forIn_toList]
  simp only
  clear hload hl
  generalize ByteArray.empty = s
  induction l generalizing s with
  | nil => simp
  | cons m l ih =>
    simp only [List.map_cons, List.forIn_cons, List.foldl_cons, Sem.run_bind, Sem.run_pure, Result.andThen_ok]
    have := ih (s.push (UInt8.ofNat m))
    simpa using this
theorem reads_toStr {s d c : TypeId} {x : Operand} (hs : SR φ e a) (hg : GOk φ) (hr : Rep φ (hget h) w) (h0 : o.op = .convert s d x) (ht : P.underlying s = some (.slice c)) (hd : P.underlying d = some .string)
    (hc : P.underlying c = some (.int .u8)) (hne : toStr (opd (trO x) e) h ≠ .er) : Reads P a o φ w (toStr (opd (trO x) e) h) := by
  have hx := opd_VR hs hg x
  unfold toStr at hne ⊢
  split at hne
  · rename_i b i n sz cc hq
    rw [hq] at hx
    obtain ⟨p, cap, hp, hx, _⟩ := hx
    cases hcs : cellsAt h b i n with
    | none => simp [hcs] at hne
    | some cs =>
      simp only [hcs] at hne ⊢
      cases hb : bytes cs with
      | none => simp [hb] at hne
      | some l =>
        simp only
        obtain ⟨vs, h1, h2, h3⟩ := hr.cells hp hcs
        obtain ⟨rfl, hlt⟩ := bytes_some cs l vs hb h2
        have hload := run_loadCells_list (P := P) w _ _ h3
        rw [h1] at hload
        obtain ⟨str, hs1, hs2⟩ := run_bytesToString (P := P) l _ n cap hlt hload
        refine ⟨.string str, ?_, str, rfl, hs2⟩
        simp [execOp, h0, convert, run_underlying ht, run_underlying hd, run_underlying hc, hx, hs1]
  · rename_i hq
    rw [hq] at hx
    have hx : a.eval x = .slice none 0 0 := hx
    refine ⟨.string .empty, ?_, .empty, rfl, rfl⟩
    simp [execOp, h0, convert, run_underlying ht, run_underlying hd, run_underlying hc, hx, Conv.bytesToString]
  · exact absurd rfl hne
theorem run_sdata (ts : Array TypeId) (ty : TypeId) (b : Addr) (n c : Nat) (hc : c ≠ 0) : (Builtin.unsafeSliceData_ ts ty #[.slice (some b) n c]).run P w = .ok (.pointer (some b)) w := by
  have : Builtin.unsafeSliceData_ ts ty #[.slice (some b) n c] = (if c ≠ 0 then pure (.pointer (some b)) else do
    if (← viewAt b.block).isSome then pure (.pointer (some b))
    else pure (.pointer (some ⟨← newObj (.view b (← elemOf ty)), 0, none⟩))) := rfl
  rw [this, if_pos hc]; rfl
theorem run_sdata_nil (ts : Array TypeId) (ty : TypeId) : (Builtin.unsafeSliceData_ ts ty #[.slice none 0 0]).run P w = .ok (.pointer none) w := rfl
theorem reads_sdata {ts : Array TypeId} {x : Operand} (hs : SR φ e a) (hg : GOk φ) (h0 : o.op = .call ⟨.builtin .unsafeSliceData, #[x], ts⟩) (hne : sdata (opd (trO x) e) ≠ .er) : Reads P a o φ w (sdata (opd (trO x) e)) := by
  have hx := opd_VR hs hg x
  unfold sdata at hne ⊢
  split at hne
  · rename_i b i n sz cc hq
    rw [hq] at hx
    obtain ⟨p, cap, hp, hx, hn, _⟩ := hx
    simp only [beq_nat, cond_eq_ite, decide_eq_true_eq] at hne ⊢
    split at hne
    · exact absurd rfl hne
    · rename_i hn0
      have hc : cap ≠ 0 := by omega
      simp only [hn0, if_false]
      refine ⟨.pointer (some ⟨p.b, p.base + i, none⟩), ?_, p, hp, rfl⟩
      rw [call_builtin h0]
      simp [builtin, hx, run_sdata _ _ _ _ _ hc]
  · rename_i hq
    rw [hq] at hx
    have hx : a.eval x = .slice none 0 0 := hx
    refine ⟨.pointer none, ?_, rfl⟩
    rw [call_builtin h0]
    simp [builtin, hx, run_sdata_nil]
  · exact absurd rfl hne
theorem run_viewAt {b : Nat} {cs : Array Value} {t : TypeId} {fr : Nat × Nat} (hb : w.heap[b]? = some (.cells cs t fr)) : (viewAt b).run P w = .ok none w := by
  simp [viewAt, World.shape?, hb]
theorem run_seenAt {b i : Nat} {cs : Array Value} {t : TypeId} {fr : Nat × Nat} (hb : w.heap[b]? = some (.cells cs t fr)) : (Conv.seenAt ⟨b, i, none⟩).run P w = .ok ⟨b, i, none⟩ w := by
  have := run_viewAt (P := P) hb
  simp [Conv.seenAt, this]
theorem reads_up {s d c : TypeId} {x : Operand} {k : Nat} (hs : SR φ e a) (hg : GOk φ) (hr : Rep φ (hget h) w) (h0 : o.op = .convert s d x) (ht : P.underlying s = some (.pointer c)) (hd : P.underlying d = some .unsafePointer)
    (hk : k ≠ 0) (hsz : ∀ w, (sizeOf c).run P w = .ok k w) (hne : upV (opd (trO x) e) h ≠ .er) : Reads P a o φ w (upV (opd (trO x) e) h) := by
  have hx := opd_VR hs hg x
  unfold upV at hne ⊢
  split at hne
  · rename_i b i hq
    rw [hq] at hx
    obtain ⟨p, hp, hx⟩ := hx
    split at hne
    · rename_i t xx f cs hh
      simp only [ble_nat, len_eq, cond_eq_ite, decide_eq_true_eq] at hne ⊢
      split at hne
      · rename_i hle
        have hle : i + 1 ≤ cs.length := hle
        obtain ⟨as, fr, h1, h2, h3, _⟩ := hr.row hp hh
        simp only [show Nat.add i 1 ≤ cs.length from hle, if_true]
        refine ⟨.pointer (some ⟨p.b, p.base + i, none⟩), ?_, p, hp, rfl⟩
        have hv := run_seenAt (P := P) (i := p.base + i) h1
        have hci : (cellsIn p.b).run P w = .ok (some as.size) w := by simp [cellsIn, World.shape?, h1]
        have hlt : ¬ as.size ≤ p.base + i := by omega
        have hsz := hsz w
        simp [execOp, h0, convert, run_underlying ht, run_underlying hd, hx, Conv.unsafePointer, hv, hci, hsz, hk, hlt]
      · exact absurd rfl hne
    · exact absurd rfl hne
  · exact absurd rfl hne
end
end Go.Ev
