/-
  New blocks, rows written: what keeps the relation.
-/
import Derived.Test.YtfihakfjjoednaaGreatDoorEd
import Derived.Laws.IdiomStrings
import Derived.Laws.AppendOwn
import Derived.Lib.UnsafeStr
import Derived.Test.YtfihakfjjoednaaGreatDoorEa
set_option linter.all false
namespace Go.Ev
section
variable {P : Program} {T : TT} {C : CT} {φ : Ph} {w : World} {e : E} {a : Act} {o : Oper} {h : H} {lo n : Nat}
theorem liesAt_row {t : TypeId} {i k cells : Nat} (hc : P.cellsOf t = 1) (hle : i + k ≤ cells) : liesAt P P.depth t (cells / P.cellsOf t) i t k = true := by
  obtain ⟨d, hd⟩ : ∃ d, P.depth = d + 1 := ⟨_, rfl⟩
  have hs : sameLayout P P.depth t t = true := by rw [hd]; simp [sameLayout]
  have hr : rowAt P (sameLayout P P.depth · t) P.depth t (cells / P.cellsOf t) i k = true := by
    rw [hd] at hs ⊢
    simp only [rowAt, hc, Nat.one_ne_zero, if_false, Nat.div_one, Nat.mod_one, hs, hle]
    simp
  rw [hd] at hr ⊢
  simp only [liesAt]
  rw [hd]
  simp [hr]
theorem liesAt_first {t : TypeId} {s cells : Nat} (hc : P.cellsOf t = s) (h0 : s ≠ 0) (hle : s ≤ cells) : liesAt P P.depth t (cells / P.cellsOf t) 0 t 1 = true := by
  obtain ⟨d, hd⟩ : ∃ d, P.depth = d + 1 := ⟨_, rfl⟩
  have hs : sameLayout P P.depth t t = true := by rw [hd]; simp [sameLayout]
  have h1 : 1 ≤ cells / s := (Nat.le_div_iff_mul_le (by omega)).2 (by omega)
  have hr : rowAt P (sameLayout P P.depth · t) P.depth t (cells / P.cellsOf t) 0 1 = true := by
    rw [hd] at hs ⊢
    simp only [rowAt, hc, h0, if_false, Nat.zero_div, Nat.zero_mod, hs, Nat.zero_add, h1]
    simp
  rw [hd] at hr ⊢
  simp only [liesAt]
  rw [hd]
  simp [hr]
theorem reads_pu (hT : TOk P T) {s d t : TypeId} {i : TI} {x : Operand} (hs : SR φ e a) (hg : GOk φ) (hr : Rep φ (hget h) w) (h0 : o.op = .convert s d x) (ht : P.underlying s = some .unsafePointer)
    (hd : P.underlying d = some (.pointer t)) (hi : T t = some i) (hk : i.size ≠ 0) (hne : puV t i.size (opd (trO x) e) h ≠ .er) : Reads P a o φ w (puV t i.size (opd (trO x) e) h) := by
  have hx := opd_VR hs hg x
  have hsz := hT.size hi w
  have hcs : P.cellsOf t = i.size := by
    obtain ⟨j, _, _, hj, hjs, _⟩ := hT.info _ _ hi
    simp [Program.cellsOf, hj, hjs]
  unfold puV at hne ⊢
  split at hne
  · rename_i b oo hq
    rw [hq] at hx
    obtain ⟨p, hp, hx⟩ := hx
    split at hne
    · rename_i t' f cs hh
      simp only [beq_nat, ble_nat, len_eq, cond_eq_ite, decide_eq_true_eq] at hne ⊢
      split at hne
      · rename_i h1; subst h1
        split at hne
        · rename_i h2; subst h2
          split at hne
          · rename_i h3
            simp only [if_true, h3]
            obtain ⟨as, fr, g1, g2, g3, g4, _⟩ := hr.row hp hh
            obtain ⟨hb0, hl⟩ := g4 rfl
            refine ⟨.pointer (some ⟨p.b, p.base + 0, none⟩), ?_, p, hp, rfl⟩
            have hv := run_seenAt (P := P) (i := p.base + 0) g1
            have hlies := liesAt_first (P := P) (cells := as.size) hcs hk (by omega)
            rw [hb0] at hx hv ⊢
            simp only [Nat.add_zero] at hx hv ⊢
            simp [execOp, h0, convert, run_underlying ht, run_underlying hd, hx, Conv.unsafePointer, hv, hsz, hk, variablesAt, World.shape?, g1, hlies]
          · exact absurd rfl hne
        · exact absurd rfl hne
      · exact absurd rfl hne
    · exact absurd rfl hne
  · exact absurd rfl hne
/-- An operation is sound: whatever comes then is met behind it. -/
def OpOk (P : Program) (a : Act) (o : Oper) (lo : Nat) (φ : Ph) (g : Nat → AO) (n : Nat) (w : World) (v : V) (g' : Nat → AO) (n' : Nat) : Prop :=
  ∀ (next : Act → World → Prop) (Q : Exit → Act → World → Prop),
    (∀ x φ' w', VR φ' v x → Rep φ' g' w' → Stp lo φ g n w φ' g' n' w' → next (a.put o.dst x) w') → o.wp P a w next Q
theorem OpOk.value {φ' : Ph} {g g' : Nat → AO} {n' : Nat} {w' : World} {v : V} {x : Value} (h : (execOp a.eval o).run P w = .ok (.value x) w') (hv : VR φ' v x) (hr : Rep φ' g' w') (hs : Stp lo φ g n w φ' g' n' w') :
    OpOk P a o lo φ g n w v g' n' := by
  intro next Q hn
  unfold Oper.wp
  rw [h]
  exact hn x φ' w' hv hr hs
theorem OpOk.skip {φ' : Ph} {g g' : Nat → AO} {n' : Nat} {w' : World} (h : (execOp a.eval o).run P w = .ok .skip w') (hr : Rep φ' g' w') (hs : Stp lo φ g n w φ' g' n' w') :
    OpOk P a o lo φ g n w (.o .un) g' n' := by
  intro next Q hn
  unfold Oper.wp
  rw [h]
  exact hn undef φ' w' rfl hr hs
theorem Reads.ok {g : Nat → AO} {v : V} (h : Reads P a o φ w v) (hr : Rep φ g w) (hd : Dom φ n) : OpOk P a o lo φ g n w v g n :=
  let ⟨_, h1, h2⟩ := h; .value h1 h2 hr (Stp.refl lo g w hd)
def upd (φ : Ph) (n : Nat) (p : Pl) : Ph := fun i => if i = n then some p else φ i
theorem upd_sub {p : Pl} (hd : Dom φ n) : Sub φ (upd φ n p) := by
  intro i q hq
  unfold upd
  split
  · rename_i hi; subst hi; rw [hd.1 i (Nat.le_refl _)] at hq; cases hq
  · exact hq
theorem upd_same {p : Pl} : upd φ n p n = some p := by simp [upd]
theorem Rep.lt {g : Nat → AO} (hr : Rep φ g w) {id : Nat} {p : Pl} (hp : φ id = some p) : p.b < w.heap.size := by
  obtain ⟨o, h1, _⟩ := hr.obj id p hp
  exact (Array.getElem?_eq_some_iff.1 h1).1
theorem rep_new {g g' : Nat → AO} {w' : World} {obj : Obj} {p : Pl} {ob : AO} (hr : Rep φ g w) (hd : Dom φ n) (hn : n ≤ 1000000) (hw : w'.heap = w.heap.push obj) (hb : p.b = w.heap.size) (ho : OR (upd φ n p) p ob obj)
    (hg : ∀ j, g' j = if j = n then ob else g j) (hio : w'.os = w.os ∧ w'.output = w.output := by exact ⟨rfl, rfl⟩) : Rep (upd φ n p) g' w' ∧ Stp lo φ g n w (upd φ n p) g' (n + 1) w' := by
  have hsub := upd_sub (p := p) hd
  have old : ∀ i q, i ≠ n → upd φ n p i = some q → φ i = some q ∧ q.b < w.heap.size := by
    intro i q hi hq
    unfold upd at hq
    rw [if_neg hi] at hq
    exact ⟨hq, hr.lt hq⟩
  refine ⟨⟨fun i q hq => ?_, fun i j q q' hq hq' hi hj hbb => ?_⟩, ?_⟩
  · by_cases hi : i = n
    · subst hi
      rw [upd_same] at hq; injection hq with hq; subst hq
      refine ⟨obj, ?_, ?_⟩
      · rw [hw, hb]; simp
      · rw [hg]; simpa using ho
    · obtain ⟨h1, h2⟩ := old i q hi hq
      obtain ⟨ob', h3, h4⟩ := hr.obj i q h1
      refine ⟨ob', ?_, ?_⟩
      · rw [hw, Array.getElem?_push, if_neg (by omega)]; exact h3
      · rw [hg, if_neg hi]; exact h4.mono hsub
  · by_cases h1 : i = n <;> by_cases h2 : j = n
    · rw [h1, h2]
    · subst h1
      rw [upd_same] at hq; injection hq with hq; subst hq
      have := (old j q' h2 hq').2
      omega
    · subst h2
      rw [upd_same] at hq'; injection hq' with hq'; subst hq'
      have := (old i q h1 hq).2
      omega
    · rw [hg, if_neg h1] at hi
      rw [hg, if_neg h2] at hj
      exact hr.inj i j q q' (old i q h1 hq).1 (old j q' h2 hq').1 hi hj hbb
  · refine ⟨by omega, by rw [hw]; simp, fun i hi => ?_, ⟨fun i hi => ?_, by omega⟩, fun i q hi hq => ?_, fun i hi h0 => ?_, fun i hi _ => ?_, fun i hi _ => ?_, fun b hb _ => ?_, hio⟩
    · simp [upd, Nat.ne_of_lt hi]
    · have : i ≠ n := by omega
      simp [upd, this]; exact hd.1 i (by omega)
    · by_cases h1 : i = n
      · subst h1
        rw [upd_same] at hq; injection hq with hq; subst hq
        exact .inl (by omega)
      · have := (old i q h1 hq).1
        rw [hd.1 i hi] at this; cases this
    · rw [hg, if_neg (Nat.ne_of_lt hi)]; exact h0
    · rw [hg, if_neg (Nat.ne_of_lt hi)]
    · rw [hg, if_neg (Nat.ne_of_lt hi)]
    · rw [hw, Array.getElem?_push, if_neg (by omega)]
theorem rep_set {g g' : Nat → AO} {w' : World} {obj' : Obj} {b : Nat} {p : Pl} {ob' : AO} (hr : Rep φ g w) (hd : Dom φ n) (hp : φ b = some p) (hlo : lo ≤ b) (hl : g b ≠ .no)
    (hw : w'.heap = w.heap.setIfInBounds p.b obj') (ho : OR φ p ob' obj') (hg : ∀ j, g' j = if j = b then ob' else g j) (hio : w'.os = w.os ∧ w'.output = w.output := by exact ⟨rfl, rfl⟩) : Rep φ g' w' ∧ Stp lo φ g n w φ g' n w' := by
  have hlt := hr.lt hp
  have hbn : b < n := by
    rcases Nat.lt_or_ge b n with h | h
    · exact h
    · rw [hd.1 b h] at hp; cases hp
  refine ⟨⟨fun i q hq => ?_, fun i j q q' hq hq' hi hj hbb => ?_⟩, ?_⟩
  · by_cases hi : i = b
    · subst hi
      rw [hp] at hq; injection hq with hq; subst hq
      refine ⟨obj', ?_, ?_⟩
      · rw [hw]; simp [hlt]
      · rw [hg]; simpa using ho
    · obtain ⟨ob, h3, h4⟩ := hr.obj i q hq
      by_cases hbb : q.b = p.b
      · have hdead : g i = .no := by
          cases hgi : g i with
          | no => rfl
          | _ => exact absurd (hr.inj i b q p hq hp (by rw [hgi]; simp) hl hbb) hi
        refine ⟨obj', ?_, ?_⟩
        · rw [hw, hbb]; simp [hlt]
        · rw [hg, if_neg hi, hdead]; trivial
      · refine ⟨ob, ?_, ?_⟩
        · rw [hw, Array.getElem?_setIfInBounds_ne (Ne.symm hbb)]; exact h3
        · rw [hg, if_neg hi]; exact h4
  · refine hr.inj i j q q' hq hq' ?_ ?_ hbb
    · intro h0
      by_cases hib : i = b
      · subst hib; exact hl h0
      · rw [hg, if_neg hib] at hi; exact hi h0
    · intro h0
      by_cases hib : j = b
      · subst hib; exact hl h0
      · rw [hg, if_neg hib] at hj; exact hj h0
  · refine ⟨Nat.le_refl _, by rw [hw]; simp, fun _ _ => rfl, hd, fun i q hi hq => ?_, fun i hi h0 => ?_, fun i hi h1 => ?_, fun i hi h1 => ?_, fun c hc hn => ?_, hio⟩
    · rw [hd.1 i hi] at hq; cases hq
    · rw [hg, if_neg (fun hib => hl (by rw [← hib]; exact h0))]; exact h0
    · rw [hg, if_neg (by omega)]
    · rw [hg, if_neg (fun hib => by rw [hib, hp] at h1; cases h1)]
    · have : c ≠ p.b := fun hc => hn ⟨b, p, hlo, hp, hl, hc.symm⟩
      rw [hw, Array.getElem?_setIfInBounds_ne (Ne.symm this)]
theorem LR.one {l : L} {v : Value} (h : LR φ l v) : v.oneCell' = true := by
  cases l with
  | q q =>
    cases q with
    | nt k n => obtain ⟨rfl, _⟩ := h; rfl
    | bo b => have h : v = .bool b := h; subst h; rfl
    | o q =>
      cases q with
      | st l => obtain ⟨s, rfl, _⟩ := h; rfl
      | pt b o => obtain ⟨p, _, rfl⟩ := h; rfl
      | o q =>
        cases q with
        | ng k n => obtain ⟨rfl, _⟩ := h; rfl
        | sl b o n s c => obtain ⟨p, cap, _, rfl, _⟩ := h; rfl
        | mp b => obtain ⟨p, _, rfl⟩ := h; rfl
        | nl z => have h : v = z.val := h; subst h; cases z <;> rfl
        | uk => obtain ⟨k, n, rfl⟩ := h; rfl
  | fn f c => obtain ⟨cs, rfl, _⟩ := h; rfl
/-- Cells with others laid over them. -/
def lay (cs vs : List Value) (i : Nat) : List Value := cs.take i ++ (vs ++ cs.drop (i + vs.length))
theorem run_storeCells {b : Nat} {t : TypeId} {fr : Nat × Nat} : ∀ (vs : List Value) (i k : Nat) (cs : Array Value) (w : World), w.heap[b]? = some (.cells cs t fr) → i + k + vs.length ≤ cs.size →
    (∀ j, i + k ≤ j → j < i + k + vs.length → ¬(fr.1 ≤ j ∧ j < fr.2)) → (∀ v ∈ vs, v.oneCell' = true) →
    ∃ w', (storeCells ⟨b, i, none⟩ vs k).run P w = .ok () w' ∧ w'.heap = w.heap.setIfInBounds b (.cells ⟨lay cs.toList vs (i + k)⟩ t fr) ∧ w'.os = w.os ∧ w'.output = w.output
  | [], i, k, cs, w, hb, _, _, _ => by
    refine ⟨w, by simp [storeCells], ?_, rfl, rfl⟩
    have : (⟨lay cs.toList [] (i + k)⟩ : Array Value) = cs := by simp [lay]
    rw [this]
    have hlt := (Array.getElem?_eq_some_iff.1 hb)
    apply Array.ext_getElem?
    intro j
    rw [Array.getElem?_setIfInBounds]
    split
    · rename_i hj; subst hj; rw [if_pos hlt.1, hb]
    · rfl
  | v :: vs, i, k, cs, w, hb, hl, hf, ho => by
    have hlt : i + k < cs.size := by simp at hl; omega
    have hc : w.cell? ⟨b, i + k, none⟩ = some cs[i + k] := by rw [cell_of hb]; exact Array.getElem?_eq_getElem hlt
    have hfr : w.frozen? ⟨b, i + k, none⟩ = false := by
      have := hf (i + k) (Nat.le_refl _) (by simp)
      simp only [World.frozen?, hb]
      simpa using this
    have h1 : (store ((⟨b, i, none⟩ : Addr).add k) v).run P w = .ok () (w.setCell ⟨b, i + k, none⟩ v) := by
      rw [add_addr, run_store P w _ _ _ (ho v (List.mem_cons_self ..)), hc]
      simp [hfr]
    have hheap : (w.setCell ⟨b, i + k, none⟩ v).heap = w.heap.setIfInBounds b (.cells (cs.setIfInBounds (i + k) v) t fr) := by
      have hbl := (Array.getElem?_eq_some_iff.1 hb)
      apply Array.ext_getElem?
      intro j
      simp only [World.setCell, Array.getElem?_modify, Array.getElem?_setIfInBounds]
      by_cases hj : b = j
      · subst hj; rw [if_pos rfl, if_pos rfl, if_pos hbl.1, hb]; rfl
      · simp [hj]
    have hb2 : (w.setCell ⟨b, i + k, none⟩ v).heap[b]? = some (.cells (cs.setIfInBounds (i + k) v) t fr) := by
      rw [hheap]; simp [(Array.getElem?_eq_some_iff.1 hb).1]
    obtain ⟨w', h2, h3, hio⟩ := run_storeCells vs i (k + 1) (cs.setIfInBounds (i + k) v) _ hb2 (by simp at hl ⊢; omega)
      (fun j h4 h5 => hf j (by omega) (by simp; omega)) (fun u hu => ho u (List.mem_cons_of_mem _ hu))
    refine ⟨w', by simp [storeCells, h1, h2], ?_, hio⟩
    rw [h3, hheap, Array.setIfInBounds_setIfInBounds]
    congr 2
    apply Array.ext'
    simp only [Array.toList_setIfInBounds]
    unfold lay
    have e1 : i + (k + 1) = i + k + 1 := by omega
    rw [e1]
    have hl2 : i + k < cs.toList.length := by simpa using hlt
    rw [List.take_set, List.drop_set]
    have e2 : (cs.toList.take (i + k + 1)).set (i + k) v = cs.toList.take (i + k) ++ [v] := by
      rw [List.take_succ_eq_append_getElem hl2, List.set_append]
      have hm : min (i + k) cs.size = i + k := Nat.min_eq_left (Nat.le_of_lt hlt)
      simp [hm]
    rw [e2]
    have e3 : i + k < i + k + 1 + vs.length := by omega
    simp [e3, Nat.add_assoc, Nat.add_comm 1]
end
end Go.Ev
namespace Go.Ev
section
variable {P : Program} {T : TT} {C : CT} {φ : Ph} {w : World} {e : E} {a : Act} {o : Oper} {h : H} {lo n : Nat}
theorem alloc_some {ob : AO} {f : Nat → V} {v : V} {h' : H} {n' : Nat} (ha : alloc ob f h n = .ok v h' n') : v = f n ∧ h' = hset n ob h ∧ n' = n + 1 ∧ n ≤ 1000000 := by
  unfold alloc at ha
  rw [fN_eq, ble_nat, cond_eq_ite] at ha
  split at ha
  · rename_i hn
    have hn : n ≤ 1000000 := by simpa using hn
    injection ha with h1 h2 h3
    exact ⟨h1.symm, h2.symm, h3.symm, hn⟩
  · cases ha
theorem OR_row {p : Pl} {t : TypeId} {c : List L} {cs : List Value} {f : Option Nat} {x : Bool} (hb : p.base = 0) (hl : p.lim = cs.length) (hc : CR φ c (cs.take c.length)) (hle : c.length ≤ cs.length) (hx : x = true → c.length = cs.length) :
    OR φ p (.row t x f c) (.cells ⟨cs⟩ t (0, 0)) := by
  refine ⟨⟨cs⟩, (0, 0), rfl, by simp [hb, hl], by omega, fun hh => ⟨hb, by rw [hl]; exact hx hh⟩, ?_, ?_, Nat.le_refl _⟩
  · rw [hb]; exact hc
  · intro k _ off _ hh; omega
/-- A new block, its value. -/
theorem ok_new {obj : Obj} {ob : AO} {f : Nat → V} {v : V} {h' : H} {n' : Nat} {w' : World} {x : Value} (ha : alloc ob f h n = .ok v h' n') (hr : Rep φ (hget h) w) (hd : Dom φ n) (hw : w'.heap = w.heap.push obj) (lim : Nat)
    (ho : OR (upd φ n ⟨w.heap.size, 0, lim⟩) ⟨w.heap.size, 0, lim⟩ ob obj) (hrun : (execOp a.eval o).run P w = .ok (.value x) w') (hv : VR (upd φ n ⟨w.heap.size, 0, lim⟩) (f n) x) (hio : w'.os = w.os ∧ w'.output = w.output := by exact ⟨rfl, rfl⟩) :
    OpOk P a o lo φ (hget h) n w v (hget h') n' := by
  obtain ⟨rfl, rfl, rfl, hn⟩ := alloc_some ha
  obtain ⟨h1, h2⟩ := rep_new (lo := lo) (w' := w') hr hd hn hw rfl ho (fun j => hget_hset ob h n j hn) hio
  exact .value hrun hv h1 h2
theorem ok_alloc (hT : TOk P T) {t : TypeId} {i : TI} (hr : Rep φ (hget h) w) (hd : Dom φ n) (h0 : o.op = .alloc t) (ht : T t = some i) {v : V} {h' : H} {n' : Nat}
    (ha : alloc (.row t true (some 0) i.zero) ptr0 h n = .ok v h' n') : OpOk P a o lo φ (hget h) n w v (hget h') n' := by
  obtain ⟨z, hz1, _, _⟩ := hT.zero ht φ w
  refine ok_new ha hr hd (w' := w.alloc (.cells z.cells t)) (obj := .cells z.cells t) (x := .pointer (some ⟨w.heap.size, 0, none⟩)) rfl z.cells.size ?_ ?_ ⟨_, upd_same, rfl⟩
  · obtain ⟨z', hz1', _, hc⟩ := hT.zero ht (upd φ n ⟨w.heap.size, 0, z.cells.size⟩) w
    rw [hz1] at hz1'
    injection hz1' with hzz
    subst hzz
    have hl := hc.length
    exact OR_row (cs := z.cells.toList) rfl (by simp) (by rw [hl, List.take_length]; exact hc) (by omega) (fun _ => hl)
  · simp [execOp, h0, Instr.alloc, hz1, newVar, newRow]
theorem VR.sub {φ' : Ph} (hs : Sub φ φ') {v : V} {x : Value} (h : VR φ v x) : VR φ' v x := VR.mono hs h
theorem ok_box {t : TypeId} {x : Operand} (hs : SR φ e a) (hg : GOk φ) (hr : Rep φ (hget h) w) (hd : Dom φ n) (h0 : o.op = .box t x) {v : V} {h' : H} {n' : Nat}
    (ha : boxV t (opd (trO x) e) h n = .ok v h' n') : OpOk P a o lo φ (hget h) n w v (hget h') n' := by
  have hx := opd_VR hs hg x
  unfold boxV at ha
  split at ha
  · cases ha
  · rename_i c hc
    have hne : (opd (trO x) e).c ≠ [] := by
      intro h
      exact hc h
    refine ok_new ha hr hd (w' := w.alloc (.cells (a.eval x).cells t)) (obj := .cells (a.eval x).cells t) (x := .pointer (some ⟨w.heap.size, 0, none⟩)) rfl (a.eval x).cells.size ?_ ?_ ⟨_, upd_same, rfl⟩
    · have hcr := VR_c (hx.sub (upd_sub hd (p := ⟨w.heap.size, 0, (a.eval x).cells.size⟩))) hne
      have hl := hcr.length
      exact OR_row (cs := (a.eval x).cells.toList) rfl (by simp) (by rw [hl, List.take_length]; exact hcr) (by omega) (fun _ => hl)
    · simp [execOp, h0, Instr.box, newVar, newRow]
theorem CR_rep {c : List L} {xs : List Value} (hc : CR φ c xs) : ∀ (m : Nat), CR φ (rep c m) ((List.range (m * xs.length)).map fun i => xs.getD (i % xs.length) undef)
  | 0 => by simp [rep_zero, All2]
  | m + 1 => by
    rw [rep_succ]
    have ih := CR_rep hc m
    have e : ((List.range ((m + 1) * xs.length)).map fun i => xs.getD (i % xs.length) undef) = xs ++ ((List.range (m * xs.length)).map fun i => xs.getD (i % xs.length) undef) := by
      apply List.ext_getElem?
      intro j
      rw [List.getElem?_map, List.getElem?_append, List.getElem?_map]
      have hm : (m + 1) * xs.length = m * xs.length + xs.length := Nat.succ_mul ..
      by_cases h1 : j < xs.length
      · rw [if_pos h1, List.getElem?_range (by omega)]
        simp [Nat.mod_eq_of_lt h1, List.getD, h1]
      · rw [if_neg h1]
        by_cases h2 : j < (m + 1) * xs.length
        · rw [List.getElem?_range h2, List.getElem?_range (by omega)]
          simp only [Option.map_some]
          have : j % xs.length = (j - xs.length) % xs.length := by rw [Nat.mod_eq_sub_mod (by omega)]
          rw [this]
        · rw [List.getElem?_eq_none (by simp; omega), List.getElem?_eq_none (by simp; omega)]
    rw [e]
    exact All2.append hc ih
theorem zeros_eq (zs : List Value) (k : Nat) (hk : zs.length = 0 → k = 0) : ((Array.range k).map ((⟨zs⟩ : Array Value)[· % zs.length]!)) = ⟨(List.range k).map fun i => zs.getD (i % zs.length) undef⟩ := by
  apply Array.ext'
  simp only [Array.toList_map, Array.toList_range]
  apply List.map_congr_left
  intro i hi
  have hpos : 0 < zs.length := by
    rcases Nat.eq_zero_or_pos zs.length with h | h
    · rw [hk h] at hi; simp at hi
    · exact h
  have hlt : i % zs.length < zs.length := Nat.mod_lt _ hpos
  simp [List.getD, hlt, getElem!_pos]
theorem ok_makeMap {t : TypeId} (hr : Rep φ (hget h) w) (hd : Dom φ n) (h0 : o.op = .makeMap t none) {v : V} {h' : H} {n' : Nat}
    (ha : alloc (.ob (.mp 0 [])) V.mp h n = .ok v h' n') : OpOk P a o lo φ (hget h) n w v (hget h') n' := by
  refine ok_new ha hr hd (w' := w.alloc (.map #[] 0)) (obj := .map #[] 0) (x := .map (some w.heap.size)) rfl 0 ⟨[], rfl, trivial⟩ ?_ ⟨_, upd_same, rfl⟩
  simp [execOp, h0, Instr.makeMap]
theorem ok_makeSlice (hT : TOk P T) {t c : TypeId} {i : TI} {x y : Operand} (hs : SR φ e a) (hg : GOk φ) (hr : Rep φ (hget h) w) (hd : Dom φ n) (h0 : o.op = .makeSlice t x y) (ht : P.underlying t = some (.slice c)) (hc : T c = some i)
    (hby : i.bytes ≠ 0) {v : V} {h' : H} {n' : Nat} (ha : mslice c i.size i.bytes i.zero (opd (trO x) e) (opd (trO y) e) h n = .ok v h' n') : OpOk P a o lo φ (hget h) n w v (hget h') n' := by
  have hx := opd_VR hs hg x
  have hy := opd_VR hs hg y
  obtain ⟨j, z, d, hj, hjs, hjb, hz, _, _, _, hzc, hzl⟩ := hT.info _ _ hc
  unfold mslice at ha
  split at ha
  · rename_i k1 l hq
    rw [hq] at hx
    obtain ⟨hx, _⟩ := hx
    split at ha
    · rename_i k2 m hq'
      rw [hq'] at hy
      obtain ⟨hy, _⟩ := hy
      simp only [ble_nat, cond_eq_ite, decide_eq_true_eq] at ha
      split at ha
      · rename_i hlm
        split at ha
        · rename_i hmb
          have hmb : m * i.bytes ≤ 1048576 := hmb
          have hzs : z.cells.size = i.size := by rw [← hzl, ← Array.length_toList]; exact (hzc φ).length.symm
          have hm : m ≤ 1048576 := by
            have : 1 ≤ i.bytes := by omega
            calc m = m * 1 := by omega
              _ ≤ m * i.bytes := Nat.mul_le_mul_left _ this
              _ ≤ _ := hmb
          have w1 : IntKind.i64.wrap (l : Int) = l := wrap_in (by simp [lim]; omega)
          have w2 : IntKind.i64.wrap (m : Int) = m := wrap_in (by simp [lim]; omega)
          let cs : List Value := (List.range (m * z.cells.size)).map fun i => z.cells.toList.getD (i % z.cells.size) undef
          have hcsl : cs.length = m * z.cells.size := by simp [cs]
          refine ok_new ha hr hd (w' := w.alloc (.cells ⟨cs⟩ c)) (obj := .cells ⟨cs⟩ c) (x := .slice (some ⟨w.heap.size, 0, none⟩) l m) rfl cs.length ?_ ?_ ?_
          · have hcr : CR (upd φ n ⟨w.heap.size, 0, cs.length⟩) (rep i.zero m) cs := by
              have := CR_rep (hzc (upd φ n ⟨w.heap.size, 0, cs.length⟩)) m
              rw [Array.length_toList] at this
              exact this
            have hl := hcr.length
            refine OR_row rfl rfl (by rw [hl]; simpa using hcr) (by omega) (fun _ => hl)
          · have hti : (typeInfo c).run P w = .ok j w := by simp [typeInfo, hj]
            have hsz : (sizeOf c).run P w = .ok j.size w := by simp [sizeOf, typeInfo, hj]
            have hzv : (zeroValue c).run P w = .ok z w := by simp [zeroValue, typeInfo, hj, hz]
            have b1 : ¬ ((2 : Int) ^ 48 < (j.bytes : Int) * (m : Int)) := by
              rw [hjb]
              have : ((i.bytes : Int) * (m : Int)) = ((m * i.bytes : Nat) : Int) := by rw [Nat.mul_comm]; simp
              rw [this]; omega
            have b2 : ¬ ((m : Int) < l) := by omega
            have b3 : ¬ (2 ^ 47 < m * j.bytes) := by rw [hjb]; omega
            have hn0 : m * j.size = 0 → (if m * j.size = 0 then (pure #[] : Sem (Array Value)) else do pure (← zeroValue c).cells).run P w = .ok #[] w := fun hh => by simp [hh]
            simp only [execOp, h0, Instr.makeSlice, Sem.run_bind, run_underlying ht, Result.andThen_ok, hx, hy, asInt, asIntOf, Sem.run_pure, hti, hsz, Int.ofNat_eq_natCast, w1, w2]
            have c1 : ¬ ((m : Int) < 0) := by omega
            have c2 : ¬ ((l : Int) < 0) := by omega
            simp only [b1, b2, c1, c2, decide_false, Bool.or_self, Bool.false_eq_true, if_false, gt_iff_lt, or_self, askRoom, roomBytes, Int.toNat_natCast, b3, Sem.run_pure, Result.andThen_ok]
            have hjz : j.size = z.cells.size := by rw [hjs, hzs]
            by_cases hn0 : m * z.cells.size = 0
            · have he : cs = [] := List.eq_nil_of_length_eq_zero (by rw [hcsl, hn0])
              simp only [Sem.run_bind, Sem.run_pure, hsz, hjz, hn0, if_true, Result.andThen_ok, newRow, run_newObj, he]
              simp [Array.range_zero']
            · have he := zeros_eq z.cells.toList (m * z.cells.size) (fun hh => by rw [Array.length_toList] at hh; rw [hh]; rfl)
              have he2 : (⟨z.cells.toList⟩ : Array Value) = z.cells := rfl
              rw [he2, Array.length_toList] at he
              simp only [Sem.run_bind, Sem.run_pure, hsz, hjz, hn0, if_false, hzv, Result.andThen_ok, newRow, run_newObj, he]
              rfl
          · refine ⟨⟨w.heap.size, 0, cs.length⟩, m, upd_same, rfl, hlm, fun hh => absurd hh (by simp), fun k hk => by injection hk⟩
        · cases ha
      · cases ha
    · cases ha
  · cases ha
end
end Go.Ev
namespace Go.Ev
section
variable {P : Program} {T : TT} {C : CT} {φ : Ph} {w : World} {e : E} {a : Act} {o : Oper} {h : H} {lo n : Nat}
theorem ok_buildSlice (hT : TOk P T) {t c : TypeId} {i : TI} {m : Nat} {ps : Array (Nat × Operand)} {l : List (Nat × Nat × Opd)} (hs : SR φ e a) (hg : GOk φ) (hr : Rep φ (hget h) w) (hd : Dom φ n)
    (h0 : o.op = .buildSlice t m ps) (ht : P.underlying t = some (.slice c)) (hc : T c = some i) (hp : trParts (fun j => some (j * i.size, i.size)) ps.toList = some l) (hm : m * i.size ≤ 1000000) {v : V} {h' : H} {n' : Nat}
    (ha : bslice c i.size m i.zero l e h n = .ok v h' n') : OpOk P a o lo φ (hget h) n w v (hget h') n' := by
  obtain ⟨z, hz1, _, hzc⟩ := hT.zero hc φ w
  have hsz := hT.size hc w
  have hzl : z.cells.size = i.size := by
    obtain ⟨_, _, _, _, _, _, _, _, _, _, _, hl⟩ := hT.info _ _ hc
    rw [← hl, ← Array.length_toList]; exact hzc.length.symm
  unfold bslice at ha
  split at ha
  · rename_i cs hf
    have hcr := CR_rep hzc m
    rw [Array.length_toList] at hcr
    obtain ⟨xs, hx1, hx2⟩ := fill_run hs hg (fun j => some (j * i.size, i.size)) ps.toList l _ cs ⟨_⟩ hp hf hcr
    refine ok_new ha hr hd (w' := w.alloc (.cells xs c)) (obj := .cells xs c) (x := .slice (some ⟨w.heap.size, 0, none⟩) m m) rfl xs.size ?_ ?_ ?_
    · have hcr := CR.mono (upd_sub hd (p := ⟨w.heap.size, 0, xs.size⟩)) hx2
      have hl := hcr.length
      exact OR_row (cs := xs.toList) rfl (by simp) (by rw [hl, List.take_length]; exact hcr) (by omega) (fun _ => hl)
    · have hps : (ps.map fun (j, x) => (j, a.eval x)).toList = ps.toList.map fun (j, x) => (j, a.eval x) := Array.toList_map
      have hbig : ¬ (2 ^ 24 < m * i.size) := by omega
      simp only [execOp, h0, Instr.buildSlice, Sem.run_bind, run_underlying ht, Result.andThen_ok, hsz, gt_iff_lt, hbig, if_false, Sem.run_pure, hps]
      by_cases hn0 : m * i.size = 0
      · have he : ((List.range (m * z.cells.size)).map fun i => z.cells.toList.getD (i % z.cells.size) undef) = [] := by rw [hzl, hn0]; rfl
        rw [he] at hx1
        have hx1 : Instr.fill (fun j => some (j * i.size, i.size)) #[] (ps.toList.map fun (j, x) => (j, a.eval x)) = some xs := hx1
        simp [hn0, Array.range_zero', hx1, newRow]
      · have he := zeros_eq z.cells.toList (m * z.cells.size) (fun hh => by rw [Array.length_toList] at hh; rw [hh]; rfl)
        have he2 : (⟨z.cells.toList⟩ : Array Value) = z.cells := rfl
        rw [he2, Array.length_toList, hzl] at he
        rw [hzl] at hx1
        simp only [hn0, if_false, Sem.run_bind, hz1, Result.andThen_ok, Sem.run_pure, hzl, he, hx1, newRow, run_newObj]
        rfl
    · exact ⟨_, m, upd_same, rfl, Nat.le_refl _, fun hh => absurd hh (by simp), fun k hk => by injection hk⟩
  · cases ha
theorem CR_bytes (s : ByteArray) : CR φ ((bytesOf s).map byteL) (s.data.toList.map fun b => Value.int .u8 b.toNat) := by
  unfold bytesOf
  generalize s.data.toList = l
  induction l with
  | nil => trivial
  | cons b l ih => exact ⟨⟨rfl, by simp [lim]; exact b.toNat_lt⟩, ih⟩
theorem ok_bytes {s d c : TypeId} {x : Operand} (hs : SR φ e a) (hg : GOk φ) (hr : Rep φ (hget h) w) (hd : Dom φ n) (h0 : o.op = .convert s d x) (ht : P.underlying s = some .string) (hd' : P.underlying d = some (.slice c))
    (hc : P.underlying c = some (.int .u8)) {v : V} {h' : H} {n' : Nat} (ha : sbytes c (opd (trO x) e) h n = .ok v h' n') : OpOk P a o lo φ (hget h) n w v (hget h') n' := by
  have hx := opd_VR hs hg x
  unfold sbytes at ha
  split at ha
  · rename_i l hq
    rw [hq] at hx
    obtain ⟨str, hx2, rfl⟩ := VR_st hx
    simp only [ble_nat, len_eq, cond_eq_ite, decide_eq_true_eq, mp_eq] at ha
    split at ha
    · have hrun := run_bytes_of_string (P := P) w s d c str ht hd' hc
      have hge := grownCap_ge w str.size 0 c
      generalize hcap : grownCap w str.size 0 c = cap at hrun hge
      generalize hrow : bytesRow str cap = row at hrun
      have hsz : row.size = cap := by
        rw [← hrow]; simp [bytesRow]
        have : str.data.size = str.size := rfl
        omega
      refine ok_new ha hr hd (w' := w.drew.alloc (.cells row c (row.size, row.size + 1))) (obj := .cells row c (row.size, row.size + 1)) (x := .slice (some ⟨w.heap.size, 0, none⟩) str.size cap) rfl row.size ?_ ?_ ?_
      · have hlen : ((bytesOf str).map byteL).length = str.size := by rw [List.length_map, bytesOf_len]
        refine ⟨row, (row.size, row.size + 1), rfl, by simp, by rw [hlen]; show str.size ≤ row.size; omega, (fun hh => by cases hh), ?_, (fun k hk => by cases hk), by simp⟩
        have e2 : (List.drop 0 row.toList).take ((bytesOf str).map byteL).length = str.data.toList.map fun b => Value.int .u8 b.toNat := by
          rw [List.drop_zero, hlen, ← hrow]
          unfold bytesRow
          rw [Array.toList_append, Array.toList_map, List.take_append_of_le_length (by rw [List.length_map]; exact Nat.le_refl _), List.take_of_length_le (by rw [List.length_map]; exact Nat.le_refl _)]
        show CR _ _ ((List.drop 0 row.toList).take _)
        rw [e2]
        exact CR_bytes str
      · simp [execOp, h0, hx2, hrun]
      · refine ⟨_, cap, upd_same, ?_, by rw [bytesOf_len]; exact hge, fun _ => by simp [hsz], fun k hk => by cases hk⟩
        rw [bytesOf_len]
    · cases ha
  · cases ha
theorem ok_rangeS {t : TypeId} {x : Operand} (hs : SR φ e a) (hg : GOk φ) (hr : Rep φ (hget h) w) (hd : Dom φ n) (h0 : o.op = .range t x) (ht : P.underlying t = some .string) {v : V} {h' : H} {n' : Nat}
    (ha : rangeV true (opd (trO x) e) h n = .ok v h' n') : OpOk P a o lo φ (hget h) n w v (hget h') n' := by
  have hx := opd_VR hs hg x
  simp only [rangeV] at ha
  split at ha
  · rename_i l hq
    rw [hq] at hx
    obtain ⟨str, hx2, rfl⟩ := VR_st hx
    refine ok_new ha hr hd (w' := w.alloc (.stringIter str 0)) (obj := .stringIter str 0) (x := .pointer (some ⟨w.heap.size, 0, none⟩)) rfl 0 ⟨rfl, str, rfl, rfl⟩ ?_ ⟨_, upd_same, rfl⟩
    simp [execOp, h0, Instr.range, hx2, run_underlying ht]
  · cases ha
theorem ok_rangeM {t c u : TypeId} {x : Operand} (hs : SR φ e a) (hg : GOk φ) (hr : Rep φ (hget h) w) (hd : Dom φ n) (h0 : o.op = .range t x) (ht : P.underlying t = some (.map c u)) {v : V} {h' : H} {n' : Nat}
    (ha : rangeV false (opd (trO x) e) h n = .ok v h' n') : OpOk P a o lo φ (hget h) n w v (hget h') n' := by
  have hx := opd_VR hs hg x
  simp only [rangeV] at ha
  split at ha
  · rename_i b hq
    rw [hq] at hx
    obtain ⟨p, hp, hx⟩ := hx
    split at ha
    · rename_i ck es hh
      obtain ⟨ms, hb, hall⟩ := hr.map hp hh
      have hget := run_getMap (P := P) hb
      refine ok_new ha hr hd (w' := w.alloc (.mapIter (some p.b) ck #[] ck)) (obj := .mapIter (some p.b) ck #[] ck) (x := .pointer (some ⟨w.heap.size, 0, none⟩)) rfl 0 ⟨rfl, p, ck, upd_sub hd _ _ hp, rfl⟩ ?_ ⟨_, upd_same, rfl⟩
      simp [execOp, h0, Instr.range, hx, run_underlying ht, hget]
    · cases ha
  · cases ha
/-- Cells written to a row. -/
theorem write_some {b i : Nat} {c : List L} {h' : H} (hw : write lo b i c h = some h') : ∃ t x k r, hget h b = .row t x (some k) r ∧ lo ≤ b ∧ k ≤ i ∧ i + c.length ≤ r.length ∧ h' = hset b (.row t x (some k) (r.take i ++ (c ++ r.drop (i + c.length)))) h := by
  unfold write at hw
  simp only [ble_nat, len_eq, cond_eq_ite, decide_eq_true_eq, ov_eq] at hw
  split at hw
  · rename_i hlo
    split at hw
    · rename_i t x f r hh
      split at hw
      · rename_i k
        split at hw
        · rename_i hk
          split at hw
          · rename_i hle
            injection hw with hw
            exact ⟨t, x, k, r, hh, hlo, hk, hle, hw.symm⟩
          · cases hw
        · cases hw
      · cases hw
    · cases hw
  · cases hw
theorem Dom.le (hd : Dom φ n) {b : Nat} {p : Pl} (hp : φ b = some p) : b < n := by
  rcases Nat.lt_or_ge b n with h | h
  · exact h
  · rw [hd.1 b h] at hp; cases hp
/-- The cells of a list laid over a row, and what that does. -/
theorem rep_write {b i : Nat} {c : List L} {h' : H} {p : Pl} {vs : List Value} (hr : Rep φ (hget h) w) (hd : Dom φ n) (hn : n ≤ 1000001) (hp : φ b = some p) (hw : write lo b i c h = some h') (hc : CR φ c vs) :
    ∃ w', (storeCells ⟨p.b, p.base + i, none⟩ vs).run P w = .ok () w' ∧ Rep φ (hget h') w' ∧ Stp lo φ (hget h) n w φ (hget h') n w' := by
  obtain ⟨t, x, k, r, hh, hlo, hk, hle, rfl⟩ := write_some hw
  obtain ⟨cs, fr, g1, g2, g3, g4, g5, g6⟩ := hr.row hp hh
  have hvl := hc.length
  have hone : ∀ v ∈ vs, v.oneCell' = true := by
    intro v hv
    obtain ⟨j, hj⟩ := List.getElem?_of_mem hv
    have hlt : j < c.length := by
      rw [hvl]
      exact (List.getElem?_eq_some_iff.1 hj).1
    obtain ⟨v', hv', hl⟩ := hc.get (List.getElem?_eq_getElem hlt)
    rw [hj] at hv'; injection hv' with hv'; subst hv'
    exact hl.one
  obtain ⟨w', s1, s2, hio⟩ := run_storeCells (P := P) vs (p.base + i) 0 cs w g1 (by omega) (fun j h1 _ => g6 k rfl j (by omega)) hone
  refine ⟨w', s1, ?_⟩
  have hbn := hd.le hp
  refine rep_set (b := b) (obj' := .cells ⟨lay cs.toList vs (p.base + i + 0)⟩ t fr) (ob' := .row t x (some k) (r.take i ++ (c ++ r.drop (i + c.length)))) hr hd hp hlo (by rw [hh]; simp) s2 ?_ (fun j => hget_hset _ h b j (by omega)) hio
  have hlen : (r.take i ++ (c ++ r.drop (i + c.length))).length = r.length := by simp; omega
  have hll : (lay cs.toList vs (p.base + i + 0)).length = cs.size := by simp [lay]; omega
  refine ⟨_, fr, rfl, ?_, by omega, fun hx => ⟨(g4 hx).1, by rw [hlen]; exact (g4 hx).2⟩, ?_, g6, hr.frz hp hh g1⟩
  · show (lay cs.toList vs (p.base + i + 0)).length = _
    rw [hll, g2]
  · rw [hlen]
    show CR φ _ (((lay cs.toList vs (p.base + i + 0)).drop p.base).take r.length)
    have e : ((lay cs.toList vs (p.base + i + 0)).drop p.base).take r.length = (((cs.toList.drop p.base).take r.length).take i) ++ (vs ++ ((cs.toList.drop p.base).take r.length).drop (i + vs.length)) := by
      apply List.ext_getElem?
      intro j
      have hcl : cs.toList.length = cs.size := Array.length_toList
      have m1 : min (p.base + i) cs.toList.length = p.base + i := by omega
      have m2 : min r.length (cs.toList.length - p.base) = r.length := by omega
      have m3 : min i r.length = i := by omega
      simp only [lay, Nat.add_zero, List.getElem?_take, List.getElem?_drop, List.getElem?_append, List.length_take, List.length_drop, m1, m2, m3]
      by_cases h1 : j < r.length
      · simp only [h1, if_true]
        by_cases h2 : j < i
        · have : p.base + j < p.base + i := by omega
          simp only [h2, this, if_true, h1]
        · have : ¬ (p.base + j < p.base + i) := by omega
          have e1 : p.base + j - (p.base + i) = j - i := by omega
          simp only [h2, this, if_false, e1]
          by_cases h4 : j - i < vs.length
          · simp only [h4, if_true]
          · have h5 : i + vs.length + (j - i - vs.length) < r.length := by omega
            have e2 : p.base + i + vs.length + (j - i - vs.length) = p.base + (i + vs.length + (j - i - vs.length)) := by omega
            simp only [h4, if_false, h5, if_true, e2]
      · have h3 : ¬ (j < i) := by omega
        have h4 : ¬ (j - i < vs.length) := by omega
        have h5 : ¬ (i + vs.length + (j - i - vs.length) < r.length) := by omega
        simp only [h1, if_false, h3, h4, h5]
    rw [e, hvl]
    exact All2.append (g5.take i) (All2.append hc (g5.drop _))
theorem ok_store (hT : TOk P T) {t : TypeId} {i : TI} {x y : Operand} (hs : SR φ e a) (hg : GOk φ) (hr : Rep φ (hget h) w) (hd : Dom φ n) (hn : n ≤ 1000001) (h0 : o.op = .store t x y) (ht : T t = some i) (hz : i.size ≠ 0) {v : V} {h' : H} {n' : Nat}
    (ha : storeV i.size lo (opd (trO x) e) (opd (trO y) e) h n = .ok v h' n') : OpOk P a o lo φ (hget h) n w v (hget h') n' := by
  have hx := opd_VR hs hg x
  have hy := opd_VR hs hg y
  have hsz := hT.size ht w
  unfold storeV at ha
  split at ha
  · rename_i b oo hq
    rw [hq] at hx
    obtain ⟨p, hp, hx⟩ := hx
    simp only [beq_nat, len_eq, cond_eq_ite, decide_eq_true_eq] at ha
    split at ha
    · rename_i hl
      split at ha
      · rename_i h1 hw
        injection ha with e1 e2 e3
        subst e1; subst e2; subst e3
        have hcr := VR_c hy (by intro h0; rw [h0] at hl; exact hz hl.symm)
        obtain ⟨w', s1, s2, s3⟩ := rep_write (P := P) hr hd hn hp hw hcr
        refine .skip ?_ s2 s3
        have hcs : (a.eval y).cells.size = i.size := by rw [← hl, ← Array.length_toList]; exact hcr.length.symm
        simp [execOp, h0, Instr.storeAt, Instr.sureAddr, hx, storeVar, hsz, hcs, s1]
      · cases ha
    · cases ha
  · cases ha
end
end Go.Ev
namespace Go.Ev
section
variable {P : Program} {T : TT} {C : CT} {φ : Ph} {w : World} {e : E} {a : Act} {o : Oper} {h : H} {lo n : Nat}
theorem Rep.heap {g : Nat → AO} (hr : Rep φ g w) {w' : World} (hw : w'.heap = w.heap) : Rep φ g w' := ⟨fun i p hp => by rw [hw]; exact hr.obj i p hp, hr.inj⟩
/-- A number that takes over the block of another one, which is dead then. -/
theorem rep_move {g g' : Nat → AO} {w' : World} {obj' : Obj} {b : Nat} {p p' : Pl} {ob : AO} (hr : Rep φ g w) (hd : Dom φ n) (hn : n ≤ 1000000) (hp : φ b = some p) (hlo : lo ≤ b) (hl : g b ≠ .no)
    (hw : w'.heap = w.heap.setIfInBounds p.b obj') (hb : p'.b = p.b) (ho : OR (upd φ n p') p' ob obj') (hg : ∀ j, g' j = if j = n then ob else if j = b then .no else g j) (hio : w'.os = w.os ∧ w'.output = w.output := by exact ⟨rfl, rfl⟩) :
    Rep (upd φ n p') g' w' ∧ Stp lo φ g n w (upd φ n p') g' (n + 1) w' := by
  have hsub := upd_sub (p := p') hd
  have hbn := hd.le hp
  have hlt := hr.lt hp
  have old : ∀ i q, i ≠ n → upd φ n p' i = some q → φ i = some q := by
    intro i q hi hq
    unfold upd at hq
    rwa [if_neg hi] at hq
  have gone : ∀ i q, i ≠ b → φ i = some q → q.b = p.b → g i = .no := by
    intro i q hi hq hbb
    cases hgi : g i with
    | no => rfl
    | _ => exact absurd (hr.inj i b q p hq hp (by rw [hgi]; simp) hl hbb) hi
  refine ⟨⟨fun i q hq => ?_, fun i j q q' hq hq' hi hj hbb => ?_⟩, ?_⟩
  · by_cases hi : i = n
    · subst hi
      rw [upd_same] at hq; injection hq with hq; subst hq
      refine ⟨obj', ?_, ?_⟩
      · rw [hw, hb]; simp [hlt]
      · rw [hg]; simpa using ho
    · have h1 := old i q hi hq
      obtain ⟨ob', h3, h4⟩ := hr.obj i q h1
      by_cases hib : i = b
      · subst hib
        rw [hp] at h1; injection h1 with h1; subst h1
        refine ⟨obj', ?_, ?_⟩
        · rw [hw]; simp [hlt]
        · rw [hg, if_neg hi, if_pos rfl]; trivial
      · by_cases hbb : q.b = p.b
        · refine ⟨obj', ?_, ?_⟩
          · rw [hw, hbb]; simp [hlt]
          · rw [hg, if_neg hi, if_neg hib, gone i q hib h1 hbb]; trivial
        · refine ⟨ob', ?_, ?_⟩
          · rw [hw, Array.getElem?_setIfInBounds_ne (Ne.symm hbb)]; exact h3
          · rw [hg, if_neg hi, if_neg hib]; exact h4.mono hsub
  · have live : ∀ i q, i ≠ n → upd φ n p' i = some q → g' i ≠ .no → i ≠ b ∧ g i ≠ .no := by
      intro i q hi hq hne
      rw [hg, if_neg hi] at hne
      by_cases hib : i = b
      · rw [if_pos hib] at hne; exact absurd rfl hne
      · rw [if_neg hib] at hne; exact ⟨hib, hne⟩
    by_cases h1 : i = n <;> by_cases h2 : j = n
    · rw [h1, h2]
    · subst h1
      rw [upd_same] at hq; injection hq with hq; subst hq
      obtain ⟨h3, h4⟩ := live j q' h2 hq' hj
      exact absurd (gone j q' h3 (old j q' h2 hq') (by rw [← hbb, hb])) h4
    · subst h2
      rw [upd_same] at hq'; injection hq' with hq'; subst hq'
      obtain ⟨h3, h4⟩ := live i q h1 hq hi
      exact absurd (gone i q h3 (old i q h1 hq) (by rw [hbb, hb])) h4
    · exact hr.inj i j q q' (old i q h1 hq) (old j q' h2 hq') (live i q h1 hq hi).2 (live j q' h2 hq' hj).2 hbb
  · refine ⟨by omega, by rw [hw]; simp, fun i hi => ?_, ⟨fun i hi => ?_, by omega⟩, fun i q hi hq => ?_, fun i hi h0 => ?_, fun i hi h1 => ?_, fun i hi h1 => ?_, fun c hc hn => ?_, hio⟩
    · simp [upd, Nat.ne_of_lt hi]
    · have : i ≠ n := by omega
      simp [upd, this]; exact hd.1 i (by omega)
    · by_cases h1 : i = n
      · subst h1
        rw [upd_same] at hq; injection hq with hq; subst hq
        exact .inr ⟨b, p, hlo, hp, hl, hb.symm⟩
      · have := old i q h1 hq
        rw [hd.1 i hi] at this; cases this
    · rw [hg, if_neg (Nat.ne_of_lt hi)]
      split
      · rfl
      · exact h0
    · rw [hg, if_neg (Nat.ne_of_lt hi), if_neg (by omega)]
    · rw [hg, if_neg (Nat.ne_of_lt hi), if_neg (fun hib => by rw [hib, hp] at h1; cases h1)]
    · have : c ≠ p.b := fun hc => hn ⟨b, p, hlo, hp, hl, hc.symm⟩
      rw [hw, Array.getElem?_setIfInBounds_ne (Ne.symm this)]
theorem rep_kill {g g' : Nat → AO} {b : Nat} {p : Pl} (hr : Rep φ g w) (hd : Dom φ n) (hp : φ b = some p) (hlo : lo ≤ b) (hg : ∀ j, g' j = if j = b then .no else g j) : Rep φ g' w ∧ Stp lo φ g n w φ g' n w := by
  refine ⟨⟨fun i q hq => ?_, fun i j q q' hq hq' hi hj hbb => ?_⟩, ?_⟩
  · obtain ⟨ob, h3, h4⟩ := hr.obj i q hq
    refine ⟨ob, h3, ?_⟩
    rw [hg]
    split
    · trivial
    · exact h4
  · refine hr.inj i j q q' hq hq' (fun h0 => hi ?_) (fun h0 => hj ?_) hbb
    · rw [hg]; split
      · rfl
      · exact h0
    · rw [hg]; split
      · rfl
      · exact h0
  · refine ⟨Nat.le_refl _, Nat.le_refl _, fun _ _ => rfl, hd, (fun i q hi hq => by rw [hd.1 i hi] at hq; cases hq), fun i hi h0 => ?_, fun i hi h1 => ?_, fun i hi h1 => ?_, fun _ _ _ => rfl, ⟨rfl, rfl⟩⟩
    · rw [hg]; split
      · rfl
      · exact h0
    · rw [hg, if_neg (by omega)]
    · rw [hg, if_neg (fun hib => by rw [hib, hp] at h1; cases h1)]
/-- What is appended or copied, in the model. -/
theorem source_run {s : Nat} {y : V} {yv : Value} {c : List L} {m : Nat} (hr : Rep φ (hget h) w) (hy : VR φ y yv) (hs : source s y h = some (c, m)) :
    ∃ vs : List Value, CR φ c vs ∧ vs.length = m * s ∧ ∀ w' : World, w'.heap = w.heap → (Builtin.lenOf yv).run P w' = .ok m w' ∧ ∀ k, k ≤ m → (Builtin.firstCells s k yv).run P w' = .ok ⟨vs.take (k * s)⟩ w' := by
  unfold source at hs
  split at hs
  · rename_i b i nn t cc
    obtain ⟨p, cap, hp, rfl, _⟩ := hy
    simp only [beq_nat, cond_eq_ite, decide_eq_true_eq] at hs
    split at hs
    · cases hc : cellsAt h b i (Nat.mul nn s) with
      | none => rw [hc] at hs; cases hs
      | some cs =>
        simp only [hc, Option.some.injEq, Prod.mk.injEq] at hs
        obtain ⟨rfl, rfl⟩ := hs
        obtain ⟨vs, h1, h2, h3⟩ := hr.cells hp hc
        have h1 : vs.length = nn * s := h1
        refine ⟨vs, h2, h1, fun w' hw => ⟨by simp [Builtin.lenOf], fun k hk => ?_⟩⟩
        have hks : k * s ≤ nn * s := Nat.mul_le_mul_right _ hk
        have := run_loadCells_list (P := P) w' ⟨p.b, p.base + i, none⟩ (vs.take (k * s)) (fun j v hj => by
          rw [List.getElem?_take] at hj
          split at hj
          · have := h3 j v hj
            unfold World.cell? at this ⊢
            rw [hw]; exact this
          · cases hj)
        rw [List.length_take, Nat.min_eq_left (by omega)] at this
        simp only [Builtin.firstCells]
        exact this
    · cases hs
  · simp only [Option.some.injEq, Prod.mk.injEq] at hs
    obtain ⟨rfl, rfl⟩ := hs
    have hy : yv = .slice none 0 0 := hy
    subst hy
    exact ⟨[], trivial, by simp, fun w' _ => ⟨by simp [Builtin.lenOf], fun k _ => by simp [Builtin.firstCells]⟩⟩
  · rename_i l
    obtain ⟨str, rfl, rfl⟩ := VR_st hy
    simp only [beq_nat, cond_eq_ite, decide_eq_true_eq, mp_eq, len_eq] at hs
    split at hs
    · rename_i h1; subst h1
      simp only [Option.some.injEq, Prod.mk.injEq] at hs
      obtain ⟨rfl, rfl⟩ := hs
      refine ⟨_, CR_bytes str, ?_, fun w' _ => ⟨?_, fun k hk => ?_⟩⟩
      · rw [List.length_map, bytesOf_len, Nat.mul_one]; rfl
      · rw [bytesOf_len]; simp [Builtin.lenOf]
      · rw [bytesOf_len] at hk
        have : (str.extract 0 k).data.map (fun b => Value.int .u8 (b.toNat : Int)) = ⟨(str.data.toList.map fun b => Value.int .u8 (b.toNat : Int)).take (k * 1)⟩ := by
          apply Array.ext'
          simp
        simp only [Builtin.firstCells, this]
        rfl
    · cases hs
  · cases hs
theorem ok_copy (hT : TOk P T) {t c : TypeId} {i : TI} {ts : Array TypeId} {x y : Operand} (hs : SR φ e a) (hg : GOk φ) (hr : Rep φ (hget h) w) (hd : Dom φ n) (hn : n ≤ 1000001) (h0 : o.op = .call ⟨.builtin .copy, #[x, y], ts⟩)
    (h1 : ts[0]? = some t) (ht : P.underlying t = some (.slice c)) (hc : T c = some i) {v : V} {h' : H} {n' : Nat} (ha : copyV i.size lo (opd (trO x) e) (opd (trO y) e) h n = .ok v h' n') :
    OpOk P a o lo φ (hget h) n w v (hget h') n' := by
  have hx := opd_VR hs hg x
  have hy := opd_VR hs hg y
  have hsz := hT.size hc w
  unfold copyV at ha
  split at ha
  · rename_i cs m hsrc
    obtain ⟨vs, hcr, hvl, hrun⟩ := source_run (P := P) hr hy hsrc
    obtain ⟨hlen, hfc⟩ := hrun w rfl
    split at ha
    · rename_i hq
      rw [hq] at hx
      have hx : a.eval x = .slice none 0 0 := hx
      injection ha with e1 e2 e3
      subst e1; subst e2; subst e3
      have hf := hfc 0 (Nat.zero_le _)
      refine .value (x := goInt 0) (w' := w) ?_ ⟨rfl, by simp [lim]⟩ hr (Stp.refl lo _ w hd)
      rw [call_builtin h0]
      simp [builtin, Builtin.copy_, h1, run_underlying ht, hx, hlen, hsz, hf]
    · rename_i b i' nn t' k hq
      rw [hq] at hx
      obtain ⟨p, cap, hp, hx, _⟩ := hx
      simp only [beq_nat, ble_nat, cond_eq_ite, decide_eq_true_eq, tk_eq] at ha
      split at ha
      · have hmin : (if m ≤ nn then m else nn) = min m nn := by split <;> omega
        rw [hmin] at ha
        have hf := hfc (min m nn) (Nat.min_le_left _ _)
        split at ha
        · rename_i hz
          injection ha with e1 e2 e3
          subst e1; subst e2; subst e3
          refine .value (x := goInt 0) (w' := w) ?_ ⟨rfl, by simp [lim]⟩ hr (Stp.refl lo _ w hd)
          rw [hz] at hf
          rw [call_builtin h0]
          have hz' : Nat.min m nn = 0 := hz
          simp [builtin, Builtin.copy_, h1, run_underlying ht, hx, hlen, hsz, hz', hf, storeCells]
        · split at ha
          · rename_i h2 hw
            injection ha with e1 e2 e3
            subst e1; subst e2; subst e3
            obtain ⟨w', s1, s2, s3⟩ := rep_write (P := P) hr hd hn hp hw (hcr.take (Nat.mul (min m nn) i.size))
            have hv : VR φ (fit .i64 (min m nn)) (goInt ((min m nn : Nat) : Int)) := by
              by_cases hne : fit .i64 (min m nn) = .er
              · rw [hne]; trivial
              · exact fit64 hne
            refine .value (x := goInt ((min m nn : Nat) : Int)) (w' := w') ?_ hv s2 s3
            rw [call_builtin h0]
            have hz' : Nat.min m nn = min m nn := rfl
            have s1 : (storeCells ⟨p.b, p.base + i', none⟩ (List.take (min m nn * i.size) vs)).run P w = .ok () w' := s1
            simp [builtin, Builtin.copy_, h1, run_underlying ht, hx, hlen, hsz, hz', hf, s1]
          · cases ha
      · cases ha
    · cases ha
  · cases ha
end
end Go.Ev
namespace Go.Ev
section
variable {P : Program} {T : TT} {C : CT} {φ : Ph} {w : World} {e : E} {a : Act} {o : Oper} {h : H} {lo n : Nat}
theorem run_append_in {t u c ty : TypeId} {d : TypeDesc} {j : TypeInfo} {base : Option Addr} {sl cap m : Nat} {x : Value} {news : List Value} {w' : World} (ht : P.underlying t = some (.slice c)) (hu : P.underlying u = some d)
    (hd : ∀ k, d ≠ .int k) (hj : P.info? c = some j) (hlen : (Builtin.lenOf x).run P w = .ok m w) (hle : sl + m ≤ cap) (hnew : (Builtin.firstCells j.size m x).run P w = .ok ⟨news⟩ w)
    (hst : ∀ b, base = some b → (storeCells (b.add (sl * j.size)) news).run P w = .ok () w') (hn : base = none → w' = w) :
    (Builtin.append_ #[t, u] ty #[.slice base sl cap, x]).run P w = .ok (.slice base (sl + m) cap) w' := by
  have hsz : (sizeOf c).run P w = .ok j.size w := by simp [sizeOf, typeInfo, hj]
  have hm : (match d with | .int _ => true | _ => false) = false := by cases d <;> first | rfl | exact absurd rfl (hd _)
  cases base with
  | none =>
    have := hn rfl; subst this
    simp [Builtin.append_, run_underlying ht, run_underlying hu, hsz, hm, hlen, hle, hnew]
  | some b =>
    have := hst b rfl
    simp [Builtin.append_, run_underlying ht, run_underlying hu, hsz, hm, hlen, hle, hnew, this]
theorem run_append_new {t u c ty : TypeId} {d : TypeDesc} {j : TypeInfo} {z : Value} {base : Option Addr} {sl cap m : Nat} {x : Value} {olds news : List Value} (ht : P.underlying t = some (.slice c)) (hu : P.underlying u = some d)
    (hd : ∀ k, d ≠ .int k) (hj : P.info? c = some j) (hz : j.zero = some z) (hlen : (Builtin.lenOf x).run P w = .ok m w) (hlt : cap < sl + m) (hb : j.bytes ≠ 0) (hbd : (sl + m) * j.bytes ≤ 1048576)
    (hold : (Builtin.firstCells j.size sl (.slice base sl cap)).run P w.drew = .ok ⟨olds⟩ w.drew) (hnew : (Builtin.firstCells j.size m x).run P w.drew = .ok ⟨news⟩ w.drew) :
    (Builtin.append_ #[t, u] ty #[.slice base sl cap, x]).run P w = .ok (.slice (some ⟨w.heap.size, 0, none⟩) (sl + m) (grownCap w (sl + m) cap c))
      (w.drew.alloc (.cells (⟨olds⟩ ++ ⟨news⟩ ++ Builtin.zeroCells z.cells (grownCap w (sl + m) cap c - (sl + m))) c)) := by
  have hsz : (sizeOf c).run P w = .ok j.size w := by simp [sizeOf, typeInfo, hj]
  have hti : ∀ w, (typeInfo c).run P w = .ok j w := fun w => by simp [typeInfo, hj]
  have hzv : ∀ w, (zeroValue c).run P w = .ok z w := fun w => by simp [zeroValue, typeInfo, hj, hz]
  have hm : (match d with | .int _ => true | _ => false) = false := by cases d <;> first | rfl | exact absurd rfl (hd _)
  have hng : ¬ (sl + m ≤ cap) := by omega
  have hnx := nextslicecap_le hlt
  have hnb : ¬ (281474976710656 < Builtin.nextslicecap (sl + m) cap * j.bytes) := by
    have := Nat.mul_le_mul_right j.bytes hnx
    have e : 2 * (sl + m) * j.bytes = 2 * ((sl + m) * j.bytes) := Nat.mul_assoc ..
    omega
  simp [Builtin.append_, run_underlying ht, run_underlying hu, hsz, hm, hlen, hng, hti, hb, hnb, Question.forced, hold, hnew, hzv, newRow, grownCap]
  congr 2
  apply Array.ext'
  simp
theorem zeroCells_len (z : Array Value) (k : Nat) : (Builtin.zeroCells z k).size = k * z.size := by simp [Builtin.zeroCells]
theorem ok_append (hT : TOk P T) {t u c : TypeId} {i : TI} {d : TypeDesc} {x y : Operand} (hs : SR φ e a) (hg : GOk φ) (hr : Rep φ (hget h) w) (hd : Dom φ n) (hn : n ≤ 1000001)
    (h0 : o.op = .call ⟨.builtin .append, #[x, y], #[t, u]⟩) (ht : P.underlying t = some (.slice c)) (hu : P.underlying u = some d) (hdi : ∀ k, d ≠ .int k) (hc : T c = some i) (hsz0 : i.size ≠ 0) (hby : i.bytes ≠ 0)
    {v : V} {h' : H} {n' : Nat} (ha : appendV c i.size i.bytes lo (opd (trO x) e) (opd (trO y) e) h n = .ok v h' n') : OpOk P a o lo φ (hget h) n w v (hget h') n' := by
  have hx := opd_VR hs hg x
  have hy := opd_VR hs hg y
  obtain ⟨j, z, dd, hj, hjs, hjb, hz, _, _, _, hzc, hzl⟩ := hT.info _ _ hc
  have hzs : z.cells.size = i.size := by rw [← hzl, ← Array.length_toList]; exact (hzc φ).length.symm
  have hexec : ∀ w', (execOp a.eval o).run P w' = ((Builtin.append_ #[t, u] o.type #[a.eval x, a.eval y]).run P w').andThen fun v w => .ok (.value v) w := by
    intro w'
    rw [call_builtin h0]
    simp [builtin]
  unfold appendV at ha
  split at ha
  · rename_i cs m hsrc
    obtain ⟨vs, hcr, hvl, hrun⟩ := source_run (P := P) hr hy hsrc
    obtain ⟨hlen, hfc⟩ := hrun w rfl
    obtain ⟨_, hfd⟩ := hrun w.drew rfl
    have hf := hfc m (Nat.le_refl _)
    have hfd := hfd m (Nat.le_refl _)
    rw [List.take_of_length_le (by omega), ← hjs] at hf hfd
    -- a new array
    have grow : ∀ (base : Option Addr) (sl cap : Nat) (olds : List Value) (oc : List L) (g' : H) (f : Option Nat) (φ0 : Ph), a.eval x = .slice base sl cap → cap < sl + m → (sl + m) * i.bytes ≤ 1048576 →
        (Builtin.firstCells i.size sl (.slice base sl cap)).run P w.drew = .ok ⟨olds⟩ w.drew → CR φ oc olds → olds.length = sl * i.size → Rep φ (hget g') w → Stp lo φ (hget h) n w φ (hget g') n w →
        alloc (.row c false f (oc ++ cs)) (fun b => .sl b 0 (sl + m) i.size none) g' n = .ok v h' n' → OpOk P a o lo φ (hget h) n w v (hget h') n' := by
      intro base sl cap olds oc g' f _ hxe hlt hbd hold hoc hol hr' hst hal
      obtain ⟨rfl, rfl, rfl, hn'⟩ := alloc_some hal
      have hge := grownCap_ge w (sl + m) cap c
      have hr1 := run_append_new (P := P) (w := w) (ty := o.type) (base := base) (x := a.eval y) ht hu hdi hj hz hlen hlt (by rw [hjb]; exact hby) (by rw [hjb]; exact hbd) (by rw [hjs]; exact hold) hfd
      generalize grownCap w (sl + m) cap c = nc at hge hr1
      let row : Array Value := ⟨olds⟩ ++ ⟨vs⟩ ++ Builtin.zeroCells z.cells (nc - (sl + m))
      have hrs : row.size = nc * i.size := by
        have e1 : row.size = olds.length + vs.length + (Builtin.zeroCells z.cells (nc - (sl + m))).size := by simp [row, Nat.add_assoc]
        rw [e1, zeroCells_len, hzs, hol, hvl, ← Nat.add_mul, ← Nat.add_mul]
        congr 1; omega
      have hocl := hoc.length
      have hcl := hcr.length
      obtain ⟨r1, r2⟩ := rep_new (lo := lo) (w' := w.drew.alloc (.cells row c)) (obj := .cells row c) (p := ⟨w.heap.size, 0, row.size⟩) (ob := .row c false f (oc ++ cs)) (g' := hget (hset n (.row c false f (oc ++ cs)) g')) hr' hd hn' rfl rfl (by
        have hle : (oc ++ cs).length = olds.length + vs.length := by rw [List.length_append, hocl, hcl]
        refine OR_row (cs := row.toList) rfl (by simp) ?_ (by rw [hle, Array.length_toList]; show _ ≤ (⟨olds⟩ ++ ⟨vs⟩ ++ Builtin.zeroCells z.cells (nc - (sl + m)) : Array Value).size; simp) (fun hh => by cases hh)
        have e1 : row.toList.take (oc ++ cs).length = olds ++ vs := by
          rw [hle]
          show List.take _ (⟨olds⟩ ++ ⟨vs⟩ ++ Builtin.zeroCells z.cells (nc - (sl + m)) : Array Value).toList = _
          rw [Array.toList_append, Array.toList_append, ← List.length_append]
          exact List.take_left ..
        rw [e1]
        exact CR.mono (upd_sub hd) (All2.append hoc hcr)) (fun k => hget_hset _ g' n k hn')
      refine .value (x := .slice (some ⟨w.heap.size, 0, none⟩) (sl + m) nc) (w' := w.drew.alloc (.cells row c)) ?_ ⟨_, nc, upd_same, rfl, hge, (fun _ => by rw [Nat.zero_add, ← hrs]; exact Nat.le_refl _), (fun k hk => by cases hk)⟩ r1 (hst.trans r2)
      rw [hexec, hxe, hr1]
      rfl
    split at ha
    · -- nil
      rename_i hq
      rw [hq] at hx
      have hxe : a.eval x = .slice none 0 0 := hx
      simp only [beq_nat, ble_nat, cond_eq_ite, decide_eq_true_eq] at ha
      split at ha
      · rename_i hm; subst hm
        injection ha with e1 e2 e3
        subst e1; subst e2; subst e3
        refine .value (x := .slice none 0 0) (w' := w) ?_ (by rw [hq]; rfl) hr (Stp.refl lo _ w hd)
        have := run_append_in (P := P) (w := w) (w' := w) (ty := o.type) (base := none) (sl := 0) (cap := 0) (m := 0) (x := a.eval y) (news := vs) ht hu hdi hj hlen (Nat.le_refl _) hf (fun b hb => by cases hb) (fun _ => rfl)
        rw [hexec, hxe, this]; rfl
      · rename_i hm
        split at ha
        · rename_i hbd
          refine grow none 0 0 [] [] h (some 0) φ hxe (by omega) (by rw [Nat.zero_add]; exact hbd) (by simp [Builtin.firstCells]) trivial (by simp) hr (Stp.refl lo _ w hd) ?_
          rw [Nat.zero_add]
          exact ha
        · cases ha
    · -- a slice
      rename_i b i' sl t' k hq
      rw [hq] at hx
      obtain ⟨p, cap, hp, hxe, hslc, hlim, hkc⟩ := hx
      simp only [beq_nat, ble_nat, len_eq, app_eq, tk_eq, dr_eq, cond_eq_ite, decide_eq_true_eq] at ha
      split at ha
      · rename_i hts; subst hts
        split at ha
        · rename_i hm; subst hm
          injection ha with e1 e2 e3
          subst e1; subst e2; subst e3
          refine .value (x := a.eval x) (w' := w) ?_ (by rw [hxe, hq]; exact ⟨p, cap, hp, rfl, hslc, hlim, hkc⟩) hr (Stp.refl lo _ w hd)
          have hv0 : vs = [] := List.eq_nil_of_length_eq_zero (by omega)
          have := run_append_in (P := P) (w := w) (w' := w) (ty := o.type) (base := some ⟨p.b, p.base + i', none⟩) (sl := sl) (cap := cap) (m := 0) (x := a.eval y) (news := vs) ht hu hdi hj hlen hslc hf
            (fun b hb => by rw [hv0]; simp [storeCells]) (fun hh => by cases hh)
          rw [hexec, hxe, this]; rfl
        · rename_i hm
          split at ha
          · -- the capacity is known
            rename_i kk
            obtain rfl := hkc kk rfl
            split at ha
            · rename_i hle
              have hle : sl + m ≤ cap := hle
              split at ha
              · rename_i h2 hw
                injection ha with e1 e2 e3
                subst e1; subst e2; subst e3
                obtain ⟨w', s1, s2, s3⟩ := rep_write (P := P) hr hd hn hp hw hcr
                refine .value (x := .slice (some ⟨p.b, p.base + i', none⟩) (sl + m) cap) (w' := w') ?_ ⟨p, cap, hp, rfl, hle, (fun hh => by cases hh), fun k hk => by injection hk⟩ s2 s3
                have := run_append_in (P := P) (w := w) (w' := w') (ty := o.type) (base := some ⟨p.b, p.base + i', none⟩) (sl := sl) (cap := cap) (m := m) (x := a.eval y) (news := vs) ht hu hdi hj hlen hle hf
                  (fun b hb => by
                    injection hb with hb; subst hb
                    rw [add_addr, hjs, Nat.add_assoc]; exact s1) (fun hh => by cases hh)
                rw [hexec, hxe, this]; rfl
              · cases ha
            · rename_i hle
              have hle : ¬ (sl + m ≤ cap) := hle
              split at ha
              · rename_i hbd
                split at ha
                · rename_i oc hoc
                  obtain ⟨os, o1, o2, o3⟩ := hr.cells hp hoc
                  have o1 : os.length = sl * i.size := o1
                  have hol := run_loadCells_list (P := P) w.drew ⟨p.b, p.base + i', none⟩ os (fun j v hj => o3 j v hj)
                  rw [o1] at hol
                  exact grow _ sl cap os oc h (some 0) φ hxe (by omega) hbd (by simp only [Builtin.firstCells]; exact hol) o2 o1 hr (Stp.refl lo _ w hd) ha
                · cases ha
              · cases ha
          · -- it is not
            split at ha
            · rename_i hlo
              split at ha
              · rename_i hbd
                split at ha
                · rename_i t2 x2 f r hh
                  split at ha
                  · rename_i ht2; subst ht2
                    split at ha
                    · rename_i hfo
                      split at ha
                      · rename_i hor
                        have hfo : f ≤ i' + sl * i.size := hfo
                        have hor : i' + sl * i.size ≤ r.length := hor
                        obtain ⟨as, fr, g1, g2, g3, g4, g5, g6⟩ := hr.row hp hh
                        have hl := hlim rfl
                        have hne : hget h b ≠ .no := by rw [hh]; simp
                        -- the elements that there are
                        have hoc : cellsAt h b i' (sl * i.size) = some ((r.drop i').take (sl * i.size)) := by
                          unfold cellsAt
                          rw [hh]
                          simp only [ble_nat, len_eq, tk_eq, dr_eq]
                          simp [hor]
                        obtain ⟨os, o1, o2, o3⟩ := hr.cells hp hoc
                        have hbn := hd.le hp
                        obtain ⟨rfl, rfl, rfl, hn'⟩ := alloc_some ha
                        by_cases hle : sl + m ≤ cap
                        · -- in place
                          have hone : ∀ v ∈ vs, v.oneCell' = true := by
                            intro v hv
                            obtain ⟨q, hq⟩ := List.getElem?_of_mem hv
                            have hlt : q < cs.length := by
                              rw [hcr.length]
                              exact (List.getElem?_eq_some_iff.1 hq).1
                            obtain ⟨v', hv', hl⟩ := hcr.get (List.getElem?_eq_getElem hlt)
                            rw [hq] at hv'; injection hv' with hv'; subst hv'
                            exact hl.one
                          have hcs : (sl + m) * i.size ≤ cap * i.size := Nat.mul_le_mul_right _ hle
                          rw [Nat.add_mul] at hcs
                          obtain ⟨w', s1, s2, hio⟩ := run_storeCells (P := P) vs (p.base + i' + sl * i.size) 0 as w g1 (by omega) (fun q h1 _ => g6 f rfl q (by omega)) hone
                          obtain ⟨r1, r2⟩ := rep_move (lo := lo) (w' := w') (hio := hio) (p' := ⟨p.b, p.base + i', p.lim - i'⟩) (ob := .row t2 false (some (f - i')) ((r.drop i').take (sl * i.size) ++ cs))
                            (g' := hget (hset n (.row t2 false (some (f - i')) ((r.drop i').take (sl * i.size) ++ cs)) (hset b .no h))) hr hd hn' hp hlo hne s2 rfl (by
                              have hll : (lay as.toList vs (p.base + i' + sl * i.size + 0)).length = as.size := by simp [lay]; omega
                              have hcl : ((r.drop i').take (sl * i.size) ++ cs).length = sl * i.size + m * i.size := by
                                rw [List.length_append, List.length_take, List.length_drop, hcr.length, hvl]; omega
                              refine ⟨_, fr, rfl, ?_, by rw [hcl]; show _ ≤ p.lim - i'; omega, (fun hh => by cases hh), ?_, ?_, hr.frz hp hh g1⟩
                              · show (lay as.toList vs (p.base + i' + sl * i.size + 0)).length = p.base + i' + (p.lim - i')
                                rw [hll, g2]; omega
                              · rw [hcl]
                                show CR _ _ (((lay as.toList vs (p.base + i' + sl * i.size + 0)).drop (p.base + i')).take (sl * i.size + m * i.size))
                                have e1 : ((lay as.toList vs (p.base + i' + sl * i.size + 0)).drop (p.base + i')).take (sl * i.size + m * i.size) = (as.toList.drop (p.base + i')).take (sl * i.size) ++ vs := by
                                  have hal : as.toList.length = as.size := Array.length_toList
                                  have m1 : min (p.base + i' + sl * i.size) as.toList.length = p.base + i' + sl * i.size := by omega
                                  have m2 : min (sl * i.size) (as.toList.length - (p.base + i')) = sl * i.size := by omega
                                  apply List.ext_getElem?
                                  intro q
                                  simp only [lay, Nat.add_zero, List.getElem?_take, List.getElem?_drop, List.getElem?_append, List.length_take, List.length_drop, m1, m2]
                                  by_cases q1 : q < sl * i.size
                                  · have q2 : q < sl * i.size + m * i.size := by omega
                                    have q3 : p.base + i' + q < p.base + i' + sl * i.size := by omega
                                    simp only [q1, q2, q3, if_true]
                                  · have q3 : ¬ (p.base + i' + q < p.base + i' + sl * i.size) := by omega
                                    have e2 : p.base + i' + q - (p.base + i' + sl * i.size) = q - sl * i.size := by omega
                                    by_cases q4 : q < sl * i.size + m * i.size
                                    · have q5 : q - sl * i.size < vs.length := by omega
                                      simp only [q1, q3, q4, q5, if_true, if_false, e2]
                                    · have q5 : vs.length ≤ q - sl * i.size := by omega
                                      simp only [q1, q4, if_false]
                                      rw [List.getElem?_eq_none q5]
                                rw [e1]
                                refine CR.mono (upd_sub hd) (All2.append ?_ hcr)
                                have := (g5.drop i').take (sl * i.size)
                                have e3 : (List.drop i' (List.take r.length (List.drop p.base as.toList))).take (sl * i.size) = (as.toList.drop (p.base + i')).take (sl * i.size) := by
                                  rw [List.drop_take, List.drop_drop, List.take_take]
                                  congr 1
                                  omega
                                rw [e3] at this
                                exact this
                              · intro k hk q h1
                                injection hk with hk
                                have h1 : p.base + i' + k ≤ q := h1
                                exact g6 f rfl q (by omega)) (fun q => by
                                  rw [hget_hset _ _ n q hn', hget_hset _ _ b q (by omega)])
                          refine .value (x := .slice (some ⟨p.b, p.base + i', none⟩) (sl + m) cap) (w' := w') ?_ ⟨_, cap, upd_same, rfl, hle, fun _ => by show 0 + cap * i.size ≤ p.lim - i'; omega, fun k hk => by cases hk⟩ r1 r2
                          have := run_append_in (P := P) (w := w) (w' := w') (ty := o.type) (base := some ⟨p.b, p.base + i', none⟩) (sl := sl) (cap := cap) (m := m) (x := a.eval y) (news := vs) ht hu hdi hj hlen hle hf
                            (fun b hb => by
                              injection hb with hb; subst hb
                              rw [add_addr, hjs]; exact s1) (fun hh => by cases hh)
                          rw [hexec, hxe, this]; rfl
                        · -- a new array
                          have hol := run_loadCells_list (P := P) w.drew ⟨p.b, p.base + i', none⟩ os (fun j v hj => o3 j v hj)
                          rw [o1] at hol
                          obtain ⟨k1, k2⟩ := rep_kill (lo := lo) (g' := hget (hset b .no h)) hr hd hp hlo (fun q => hget_hset _ h b q (by omega))
                          exact grow _ sl cap os _ (hset b .no h) (some (f - i')) φ hxe (by omega) hbd (by simp only [Builtin.firstCells]; exact hol) o2 o1 k1 k2 ha
                      · cases ha
                    · cases ha
                  · cases ha
                · cases ha
              · cases ha
            · cases ha
      · cases ha
    · cases ha
  · cases ha
end
end Go.Ev
namespace Go.Ev
section
variable {P : Program} {T : TT} {C : CT} {φ : Ph} {w : World} {e : E} {a : Act} {o : Oper} {h : H} {lo n : Nat}
theorem eq1_true {k : EK} {x y : V} {u v : Value} (h : eq1 k x y = some true) (hx : VR φ x u) (hy : VR φ y v) : u = v := by
  cases k with
  | i => obtain ⟨_, i, j, rfl, rfl, hh⟩ := eqI_some hx hy h; simp at hh; rw [hh]
  | s => obtain ⟨i, j, rfl, rfl, hh⟩ := eqS_some hx hy h; simp at hh; rw [hh]
  | b => obtain ⟨i, j, rfl, rfl, hh⟩ := eqB_some hx hy h; simp at hh; rw [hh]
  | p => cases h
  | a l => cases h
  | z q => cases h
theorem eqL_true : ∀ (ks : List EK) (c c' : List L) (xs ys : List Value), eqL ks c c' = some true → CR φ c xs → CR φ c' ys → xs = ys
  | [], [], [], [], [], _, _, _ => rfl
  | [], [], _ :: _, _, _, h, _, _ => by cases h
  | [], _ :: _, _, _, _, h, _, _ => by cases h
  | k :: ks, [], _, _, _, h, _, _ => by cases h
  | k :: ks, _ :: _, [], _, _, h, _, _ => by cases h
  | k :: ks, x :: c, y :: c', u :: xs, v :: ys, h, hx, hy => by
    have h : (match eq1 k x.v y.v with
      | some true => eqL ks c c'
      | some false => some false
      | none => none) = some true := h
    cases h1 : eq1 k x.v y.v with
    | none => rw [h1] at h; cases h
    | some b =>
      rw [h1] at h
      cases b with
      | false => cases h
      | true => rw [eq1_true h1 (L.v_VR hx.1) (L.v_VR hy.1), eqL_true ks c c' xs ys h hx.2 hy.2]
theorem key_true {kt : TypeId} {kk : EK} {k y : V} {u v : Value} (hk : KK P kt kk) (h : eqV kk k y = some true) (hx : VR φ k u) (hy : VR φ y v) : u = v := by
  cases kk with
  | i => exact eq1_true (k := .i) h hx hy
  | s => exact eq1_true (k := .s) h hx hy
  | a l =>
    have h : eqA l k y = some true := h
    unfold eqA at h
    split at h
    · rename_i c _
      obtain ⟨xs, rfl, hc⟩ := hx
      split at h
      · rename_i c' _
        obtain ⟨ys, rfl, hc'⟩ := hy
        rw [eqL_true l c c' xs ys h hc hc']
      · cases h
    · cases h
  | b => exact hk.elim
  | p => exact hk.elim
  | z _ => exact hk.elim
theorem find_true (kk : EK) (k : V) : ∀ (es : List ME) (i j : Nat) (x : ME), find kk k es i = some (some (j, x)) → eqV kk k x.k.v = some true
  | [], i, j, x, h => by cases h
  | y :: es, i, j, x, h => by
    rw [find_cons] at h
    cases he : eqV kk k y.k.v with
    | none => rw [he] at h; cases h
    | some b =>
      rw [he] at h
      cases b with
      | true => simp only [Option.some.injEq, Prod.mk.injEq] at h; rw [← h.2]; exact he
      | false => exact find_true kk k es (i + 1) j x h
theorem run_keyStays (v : Value) (w : World) : ∃ w', (Instr.keyThatStays v v).run P w = .ok v w' ∧ w'.heap = w.heap ∧ w'.os = w.os ∧ w'.output = w.output := by
  unfold Instr.keyThatStays
  split
  · exact ⟨w, by simp, rfl, rfl, rfl⟩
  · refine ⟨w.drew, ?_, rfl, rfl, rfl⟩
    simp [Question.forced]
theorem run_setMap {r : Nat} {es : Array MapEntry} {clock : Nat} (ob : Obj) (hb : w.heap[r]? = some (.map es clock)) : (setObj r ob).run P w = .ok () { w with heap := w.heap.setIfInBounds r ob } := by
  simp [setObj, Sem.run, hb]
theorem All2.setAt {α β : Type} {R : α → β → Prop} : ∀ {l : List α} {m : List β} (i : Nat) {x : α} {f : β → β}, All2 R l m → (∀ y, m[i]? = some y → R x (f y)) → i < l.length → All2 R (l.take i ++ ([x] ++ l.drop (i + 1))) (m.modify i f)
  | [], _, _, _, _, _, _, h => by simp at h
  | _ :: l, y :: m, 0, x, f, ⟨_, h2⟩, hf, _ => by
    simp only [List.take_zero, List.nil_append, List.modify_zero_cons]
    exact ⟨hf y (by simp), by simpa using h2⟩
  | z :: l, y :: m, i + 1, x, f, ⟨h1, h2⟩, hf, hl => by
    simp only [List.take_succ_cons, List.cons_append, List.modify_succ_cons]
    exact ⟨h1, All2.setAt i h2 (fun y hy => hf y (by simpa using hy)) (by simpa using hl)⟩
theorem setME_eq (es : List ME) (i : Nat) (x : ME) : setME es i x = es.take i ++ ([x] ++ es.drop (i + 1)) := by simp [setME]
theorem putM_some {m : V} {K : Nat → List ME → Option (V × Nat × List ME)} {v : V} {h' : H} {n' : Nat} (hp : putM lo m h n K = .ok v h' n') :
    ∃ b ck es ck' es', m = .mp b ∧ lo ≤ b ∧ hget h b = .ob (.mp ck es) ∧ K ck es = some (v, ck', es') ∧ h' = hset b (.ob (.mp ck' es')) h ∧ n' = n := by
  unfold putM at hp
  split at hp
  · rename_i b
    simp only [ble_nat, cond_eq_ite, decide_eq_true_eq] at hp
    split at hp
    · rename_i hlo
      split at hp
      · rename_i ck es hh
        split at hp
        · rename_i v' ck' es' hk
          injection hp with e1 e2 e3
          subst e1; subst e2; subst e3
          exact ⟨b, ck, es, ck', es', rfl, hlo, hh, hk, rfl, rfl⟩
        · cases hp
      · cases hp
    · cases hp
  · cases hp
/-- A map with other entries. -/
theorem rep_map {b ck ck' : Nat} {es es' : List ME} {ms' : List MapEntry} {p : Pl} {w' : World} (hr : Rep φ (hget h) w) (hd : Dom φ n) (hn : n ≤ 1000001) (hp : φ b = some p) (hlo : lo ≤ b) (hh : hget h b = .ob (.mp ck es))
    (hw : w'.heap = w.heap.setIfInBounds p.b (.map ⟨ms'⟩ ck')) (hall : All2 (MR φ) es' ms') (hio : w'.os = w.os ∧ w'.output = w.output := by exact ⟨rfl, rfl⟩) : Rep φ (hget (hset b (.ob (.mp ck' es')) h)) w' ∧ Stp lo φ (hget h) n w φ (hget (hset b (.ob (.mp ck' es')) h)) n w' :=
  rep_set hr hd hp hlo (by rw [hh]; simp) hw (ob' := .ob (.mp ck' es')) ⟨ms', rfl, hall⟩ (fun j => hget_hset _ h b j (by have := hd.le hp; omega)) hio
theorem fit_TR (k : Nat) (φ : Ph) : TR φ ⟨false, (fit .i64 k).c⟩ (goInt k) := by
  by_cases hne : fit .i64 k = .er
  · rw [hne]; trivial
  · have h64 := fit64 (φ := φ) hne
    have := fit_eq .i64 k
    rw [fit_eq] at hne h64 ⊢
    split
    · rename_i hl; simp [hl, sgn] at hne
    · rename_i hl
      simp only [hl, if_false] at h64
      exact h64
theorem ok_update {t c u : TypeId} {kk : EK} {m k x : Operand} (hs : SR φ e a) (hg : GOk φ) (hr : Rep φ (hget h) w) (hd : Dom φ n) (hn : n ≤ 1000001) (h0 : o.op = .mapUpdate t m k x ∨ o.op = .insert t m k x)
    (ht : P.underlying t = some (.map c u)) (hk : KK P c kk) {v : V} {h' : H} {n' : Nat} (ha : updM kk lo (opd (trO m) e) (opd (trO k) e) (opd (trO x) e) h n = .ok v h' n') : OpOk P a o lo φ (hget h) n w v (hget h') n' := by
  have hex : ∀ w, (execOp a.eval o).run P w = ((Instr.mapUpdate t (a.eval m) (a.eval k) (a.eval x)).run P w).andThen fun _ w => .ok .skip w := by
    intro w
    rcases h0 with h0 | h0 <;> simp [execOp, h0]
  have hm := opd_VR hs hg m
  have hkv := opd_VR hs hg k
  have hx := opd_VR hs hg x
  unfold updM at ha
  cases hpl : plainK kk (opd (trO k) e) with
  | false => rw [hpl] at ha; cases ha
  | true =>
    rw [hpl] at ha
    simp only [cond_true] at ha
    obtain ⟨b, ck, es, ck', es', hq, hlo, hh, hK, rfl, rfl⟩ := putM_some ha
    rw [hq] at hm
    obtain ⟨p, hp, hm⟩ := hm
    obtain ⟨ms, hb, hall⟩ := hr.map hp hh
    have hck := run_checkKey_ev hk hpl hkv
    have hget := run_getMap (P := P) hb
    cases hf : find kk (opd (trO k) e) es 0 with
    | none => simp [hf] at hK
    | some r =>
      obtain ⟨s, hs1, hs2⟩ := run_findKey_ev hk hkv w hall hf
      cases r with
      | none =>
        have hs2 : s = none := hs2
        subst hs2
        simp only [hf, Option.some.injEq, Prod.mk.injEq, app_eq] at hK
        obtain ⟨rfl, rfl, rfl⟩ := hK
        obtain ⟨r1, r2⟩ := rep_map (lo := lo) (ck' := ck + 1) (es' := es ++ [⟨(opd (trO k) e).t, (opd (trO x) e).t, ck⟩]) (ms' := ms ++ [⟨a.eval k, a.eval x, ck⟩])
          (w' := { w with heap := w.heap.setIfInBounds p.b (.map (ms.toArray.push ⟨a.eval k, a.eval x, ck⟩) (ck + 1)) }) hr hd hn hp hlo hh
          (by show w.heap.setIfInBounds _ _ = _; congr 2; apply Array.ext'; simp) (All2.append hall ⟨⟨V.t_TR hkv, V.t_TR hx, rfl⟩, trivial⟩)
        refine .skip ?_ r1 r2
        have hset := run_setMap (P := P) (.map (ms.toArray.push ⟨a.eval k, a.eval x, ck⟩) (ck + 1)) hb
        simp only [hex, Instr.mapUpdate, Sem.run_bind, run_underlying ht, Result.andThen_ok, hm, hget, hck, hs1, hset, Sem.run_pure]
      | some q =>
        obtain ⟨j, y⟩ := q
        obtain ⟨j', me, hj, h2, h3, rfl⟩ := hs2
        obtain rfl : j = j' := by omega
        simp only [hf, Option.some.injEq, Prod.mk.injEq] at hK
        obtain ⟨rfl, rfl, rfl⟩ := hK
        obtain ⟨me', hme, hmr⟩ := hall.get h2
        rw [h3] at hme; injection hme with hme; subst hme
        have hkey : a.eval k = me.key := key_true hk (find_true kk _ es 0 j y hf) hkv hmr.1.v
        obtain ⟨w1, hk1, hk2, hkio⟩ := run_keyStays (P := P) (a.eval k) w
        have hb1 : w1.heap[p.b]? = some (.map ⟨ms⟩ ck) := by rw [hk2]; exact hb
        have hlt : j < es.length := (List.getElem?_eq_some_iff.1 h2).1
        obtain ⟨r1, r2⟩ := rep_map (lo := lo) (hio := hkio) (ck' := ck) (es' := setME es j ⟨(opd (trO k) e).t, (opd (trO x) e).t, y.b⟩) (ms' := ms.modify j fun e => { e with key := a.eval k, val := a.eval x })
          (w' := { w1 with heap := w1.heap.setIfInBounds p.b (.map (ms.toArray.modify j fun e => { e with key := a.eval k, val := a.eval x }) ck) }) hr hd hn hp hlo hh
          (by show w1.heap.setIfInBounds _ _ = _; rw [hk2]; congr 2; apply Array.ext'; simp) (by
            rw [setME_eq]
            refine All2.setAt j hall (fun z hz => ?_) hlt
            rw [h3] at hz; injection hz with hz; subst hz
            exact ⟨V.t_TR hkv, V.t_TR hx, hmr.2.2⟩)
        refine .skip ?_ r1 r2
        have hset := run_setMap (P := P) (.map (ms.toArray.modify j fun e => { e with key := a.eval k, val := a.eval x }) ck) hb1
        have hold : ((((⟨ms⟩ : Array MapEntry)[j]?).map (·.key)).getD (a.eval k)) = a.eval k := by
          have : (⟨ms⟩ : Array MapEntry)[j]? = some me := by rw [← h3]; exact List.getElem?_toArray ..
          rw [this, hkey]; rfl
        simp only [hex, Instr.mapUpdate, Sem.run_bind, run_underlying ht, Result.andThen_ok, hm, hget, hck, hs1, hold, hk1, hset, Sem.run_pure]
theorem ok_delete {t c u : TypeId} {kk : EK} {m k : Operand} {ts : Array TypeId} (hs : SR φ e a) (hg : GOk φ) (hr : Rep φ (hget h) w) (hd : Dom φ n) (hn : n ≤ 1000001) (h0 : o.op = .call ⟨.builtin .delete, #[m, k], ts⟩)
    (h1 : ts[0]? = some t) (ht : P.underlying t = some (.map c u)) (hk : KK P c kk) {v : V} {h' : H} {n' : Nat} (ha : delM kk lo (opd (trO m) e) (opd (trO k) e) h n = .ok v h' n') : OpOk P a o lo φ (hget h) n w v (hget h') n' := by
  have hm := opd_VR hs hg m
  have hkv := opd_VR hs hg k
  unfold delM at ha
  cases hpl : plainK kk (opd (trO k) e) with
  | false => rw [hpl] at ha; cases ha
  | true =>
    rw [hpl] at ha
    simp only [cond_true] at ha
    obtain ⟨b, ck, es, ck', es', hq, hlo, hh, hK, rfl, rfl⟩ := putM_some ha
    rw [hq] at hm
    obtain ⟨p, hp, hm⟩ := hm
    obtain ⟨ms, hb, hall⟩ := hr.map hp hh
    have hck := run_checkKey_ev hk hpl hkv
    have hget := run_getMap (P := P) hb
    cases hf : find kk (opd (trO k) e) es 0 with
    | none => simp [hf] at hK
    | some r =>
      obtain ⟨s, hs1, hs2⟩ := run_findKey_ev hk hkv w hall hf
      cases r with
      | none =>
        have hs2 : s = none := hs2
        subst hs2
        simp only [hf, Option.some.injEq, Prod.mk.injEq] at hK
        obtain ⟨rfl, rfl, rfl⟩ := hK
        obtain ⟨r1, r2⟩ := rep_map (lo := lo) (ck' := ck) (es' := es) (ms' := ms) (w' := { w with heap := w.heap.setIfInBounds p.b (.map ⟨ms⟩ ck) }) hr hd hn hp hlo hh rfl hall
        refine .value (x := .tuple #[]) ?_ rfl r1 r2
        have hset := run_setMap (P := P) (.map ⟨ms⟩ ck) hb
        rw [call_builtin h0]
        simp only [builtin, Builtin.delete_, List.map_toArray, List.map_cons, List.map_nil, List.getElem?_toArray, List.getElem?_cons_zero, List.getElem?_cons_succ, h1, Sem.run_bind, run_underlying ht, Result.andThen_ok, hm, hget, hck, hs1, hset, Sem.run_pure]
      | some q =>
        obtain ⟨j, y⟩ := q
        obtain ⟨j', me, hj, h2, h3, rfl⟩ := hs2
        obtain rfl : j = j' := by omega
        simp only [hf, Option.some.injEq, Prod.mk.injEq, app_eq, tk_eq, dr_eq] at hK
        obtain ⟨rfl, rfl, rfl⟩ := hK
        have hlt : j < ms.length := (List.getElem?_eq_some_iff.1 h3).1
        have her : (⟨ms⟩ : Array MapEntry).eraseIdxIfInBounds j = ⟨ms.take j ++ ms.drop (j + 1)⟩ := by
          apply Array.ext'
          rw [Array.eraseIdxIfInBounds]
          have : j < (⟨ms⟩ : Array MapEntry).size := hlt
          simp [hlt, List.eraseIdx_eq_take_drop_succ]
        obtain ⟨r1, r2⟩ := rep_map (lo := lo) (ck' := ck) (es' := es.take j ++ es.drop (j + 1)) (ms' := ms.take j ++ ms.drop (j + 1)) (w' := { w with heap := w.heap.setIfInBounds p.b (.map ⟨ms.take j ++ ms.drop (j + 1)⟩ ck) }) hr hd hn hp hlo hh rfl
          (All2.append (hall.take j) (hall.drop (j + 1)))
        refine .value (x := .tuple #[]) ?_ rfl r1 r2
        have hset := run_setMap (P := P) (.map ⟨ms.take j ++ ms.drop (j + 1)⟩ ck) hb
        rw [call_builtin h0]
        simp only [builtin, Builtin.delete_, List.map_toArray, List.map_cons, List.map_nil, List.getElem?_toArray, List.getElem?_cons_zero, List.getElem?_cons_succ, h1, Sem.run_bind, run_underlying ht, Result.andThen_ok, hm, hget, hck, hs1, her, hset, Sem.run_pure]
theorem ok_entry (hT : TOk P T) {t c u : TypeId} {kk : EK} {z : T0} {m k : Operand} (hs : SR φ e a) (hg : GOk φ) (hr : Rep φ (hget h) w) (hd : Dom φ n) (hn : n ≤ 1000001) (h0 : o.op = .mapEntry t m k)
    (ht : P.underlying t = some (.map c u)) (hk : KK P c kk) (hz : tzero T u = some z) {v : V} {h' : H} {n' : Nat} (ha : entM kk lo z (opd (trO m) e) (opd (trO k) e) h n = .ok v h' n') : OpOk P a o lo φ (hget h) n w v (hget h') n' := by
  have hm := opd_VR hs hg m
  have hkv := opd_VR hs hg k
  obtain ⟨zv, hz1, hz2⟩ := hT.tzero hz φ w
  unfold entM at ha
  cases hpl : plainK kk (opd (trO k) e) with
  | false => rw [hpl] at ha; cases ha
  | true =>
    rw [hpl] at ha
    simp only [cond_true] at ha
    obtain ⟨b, ck, es, ck', es', hq, hlo, hh, hK, rfl, rfl⟩ := putM_some ha
    rw [hq] at hm
    obtain ⟨p, hp, hm⟩ := hm
    obtain ⟨ms, hb, hall⟩ := hr.map hp hh
    have hck := run_checkKey_ev hk hpl hkv
    have hget := run_getMap (P := P) hb
    cases hf : find kk (opd (trO k) e) es 0 with
    | none => simp [hf] at hK
    | some r =>
      obtain ⟨s, hs1, hs2⟩ := run_findKey_ev hk hkv w hall hf
      cases r with
      | none =>
        have hs2 : s = none := hs2
        subst hs2
        simp only [hf, Option.some.injEq, Prod.mk.injEq, app_eq] at hK
        obtain ⟨rfl, rfl, rfl⟩ := hK
        obtain ⟨r1, r2⟩ := rep_map (lo := lo) (ck' := ck + 1) (es' := es ++ [⟨(opd (trO k) e).t, z, ck⟩]) (ms' := ms ++ [⟨a.eval k, zv, ck⟩])
          (w' := { w with heap := w.heap.setIfInBounds p.b (.map (ms.toArray.push ⟨a.eval k, zv, ck⟩) (ck + 1)) }) hr hd hn hp hlo hh
          (by show w.heap.setIfInBounds _ _ = _; congr 2; apply Array.ext'; simp) (All2.append hall ⟨⟨V.t_TR hkv, hz2, rfl⟩, trivial⟩)
        refine .value (x := .tuple #[zv, goInt ck]) ?_ ⟨[zv, goInt ck], rfl, hz2, fit_TR ck φ, trivial⟩ r1 r2
        have hset := run_setMap (P := P) (.map (ms.toArray.push ⟨a.eval k, zv, ck⟩) (ck + 1)) hb
        simp only [execOp, h0, Instr.mapEntry, Sem.run_bind, run_underlying ht, Result.andThen_ok, hm, hget, hck, hs1, hz1, hset, Sem.run_pure]
      | some q =>
        obtain ⟨j, y⟩ := q
        obtain ⟨j', me, hj, h2, h3, rfl⟩ := hs2
        obtain rfl : j = j' := by omega
        simp only [hf, Option.some.injEq, Prod.mk.injEq] at hK
        obtain ⟨rfl, rfl, rfl⟩ := hK
        obtain ⟨me', hme, hmr⟩ := hall.get h2
        rw [h3] at hme; injection hme with hme; subst hme
        have hkey : a.eval k = me.key := key_true hk (find_true kk _ es 0 j y hf) hkv hmr.1.v
        obtain ⟨w1, hk1, hk2, hkio⟩ := run_keyStays (P := P) (a.eval k) w
        have hb1 : w1.heap[p.b]? = some (.map ⟨ms⟩ ck) := by rw [hk2]; exact hb
        have hlt : j < es.length := (List.getElem?_eq_some_iff.1 h2).1
        obtain ⟨r1, r2⟩ := rep_map (lo := lo) (hio := hkio) (ck' := ck) (es' := setME es j ⟨(opd (trO k) e).t, y.v, y.b⟩) (ms' := ms.modify j fun e => { e with key := a.eval k })
          (w' := { w1 with heap := w1.heap.setIfInBounds p.b (.map (ms.toArray.modify j fun e => { e with key := a.eval k }) ck) }) hr hd hn hp hlo hh
          (by show w1.heap.setIfInBounds _ _ = _; rw [hk2]; congr 2; apply Array.ext'; simp) (by
            rw [setME_eq]
            refine All2.setAt j hall (fun z hz => ?_) hlt
            rw [h3] at hz; injection hz with hz; subst hz
            exact ⟨V.t_TR hkv, hmr.2.1, hmr.2.2⟩)
        have hat : (⟨ms⟩ : Array MapEntry)[j]? = some me := by rw [← h3]; exact List.getElem?_toArray ..
        have hvt : TR φ y.v.v.t me.val := V.t_TR hmr.2.1.v
        refine .value (x := .tuple #[me.val, goInt me.born]) (v := V.o (.tu [y.v, ⟨false, (fit .i64 y.b).c⟩])) ?_ ⟨[me.val, goInt me.born], rfl, hmr.2.1, by rw [hmr.2.2]; exact fit_TR y.b φ, trivial⟩ r1 r2
        have hset := run_setMap (P := P) (.map (ms.toArray.modify j fun e => { e with key := a.eval k }) ck) hb1
        have hold : ((((⟨ms⟩ : Array MapEntry)[j]?).map (·.key)).getD (a.eval k)) = a.eval k := by
          rw [hat, hkey]; rfl
        have hborn : ((((⟨ms⟩ : Array MapEntry)[j]?).map (fun x => (x.born : Int))).getD 0) = me.born := by rw [hat]; rfl
        simp only [execOp, h0, Instr.mapEntry, Sem.run_bind, run_underlying ht, Result.andThen_ok, hm, hget, hck, hs1, hold, hk1, hset, hborn, Sem.run_pure]
theorem stampAt_find : ∀ (s : Nat) (es : List ME) (ms : List MapEntry) (i : Nat), All2 (MR φ) es ms → ∀ j x, stampAt s es i = some (j, x) →
    ∃ j' me, j = i + j' ∧ es[j']? = some x ∧ ms[j']? = some me ∧ ms.findIdx? (fun e => (e.born : Int) == (s : Int)) = some j'
  | s, [], [], i, _, j, x, h => by cases h
  | s, y :: es, m :: ms, i, ⟨h1, h2⟩, j, x, h => by
    have h : Bool.rec (motive := fun _ => Option (Nat × ME)) (stampAt s es (Nat.add i 1)) (some (i, y)) (Nat.beq y.b s) = some (j, x) := h
    rw [beq_nat] at h
    by_cases hb : y.b = s
    · simp only [hb, decide_true] at h
      injection h with h
      injection h with h3 h4
      subst h3; subst h4
      refine ⟨0, m, rfl, rfl, rfl, ?_⟩
      have : m.born = s := by rw [h1.2.2, hb]
      simp [List.findIdx?_cons, this]
    · simp only [hb, decide_false] at h
      obtain ⟨j', me, h3, h4, h5, h6⟩ := stampAt_find s es ms (i + 1) h2 j x h
      refine ⟨j' + 1, me, by omega, by simpa using h4, by simpa using h5, ?_⟩
      have : ¬ m.born = s := by rw [h1.2.2]; exact hb
      have hne : ((m.born : Int) == (s : Int)) = false := by simp; omega
      simp [List.findIdx?_cons, hne, h6]
theorem ok_entryStore {t : TypeId} {m s x : Operand} (hs : SR φ e a) (hg : GOk φ) (hr : Rep φ (hget h) w) (hd : Dom φ n) (hn : n ≤ 1000001) (h0 : o.op = .entryStore t m s x)
    {v : V} {h' : H} {n' : Nat} (ha : entS lo (opd (trO m) e) (opd (trO s) e) (opd (trO x) e) h n = .ok v h' n') : OpOk P a o lo φ (hget h) n w v (hget h') n' := by
  have hm := opd_VR hs hg m
  have hsv := opd_VR hs hg s
  have hx := opd_VR hs hg x
  unfold entS at ha
  split at ha
  · rename_i k1 t1 hq1
    rw [hq1] at hsv
    obtain ⟨hsv, _⟩ := hsv
    obtain ⟨b, ck, es, ck', es', hq, hlo, hh, hK, rfl, rfl⟩ := putM_some ha
    rw [hq] at hm
    obtain ⟨p, hp, hm⟩ := hm
    obtain ⟨ms, hb, hall⟩ := hr.map hp hh
    have hget := run_getMap (P := P) hb
    cases hf : stampAt t1 es 0 with
    | none => simp [hf] at hK
    | some q =>
      obtain ⟨j, y⟩ := q
      simp only [hf, Option.some.injEq, Prod.mk.injEq] at hK
      obtain ⟨rfl, rfl, rfl⟩ := hK
      obtain ⟨j', me, hj, h2, h3, h4⟩ := stampAt_find t1 es ms 0 hall j y hf
      obtain rfl : j = j' := by omega
      obtain ⟨me', hme, hmr⟩ := hall.get h2
      rw [h3] at hme; injection hme with hme; subst hme
      have hlt : j < es.length := (List.getElem?_eq_some_iff.1 h2).1
      obtain ⟨r1, r2⟩ := rep_map (lo := lo) (ck' := ck) (es' := setME es j ⟨y.k, (opd (trO x) e).t, y.b⟩) (ms' := ms.modify j fun e => { e with val := a.eval x })
        (w' := { w with heap := w.heap.setIfInBounds p.b (.map (ms.toArray.modify j fun e => { e with val := a.eval x }) ck) }) hr hd hn hp hlo hh
        (by show w.heap.setIfInBounds _ _ = _; congr 2; apply Array.ext'; simp) (by
          rw [setME_eq]
          refine All2.setAt j hall (fun z hz => ?_) hlt
          rw [h3] at hz; injection hz with hz; subst hz
          exact ⟨hmr.1, V.t_TR hx, hmr.2.2⟩)
      refine .skip ?_ r1 r2
      have hset := run_setMap (P := P) (.map (ms.toArray.modify j fun e => { e with val := a.eval x }) ck) hb
      have hfi : (⟨ms⟩ : Array MapEntry).findIdx? (fun e => (e.born : Int) == (t1 : Int)) = some j := by rw [← h4]; simp
      simp only [execOp, h0, Instr.entryStore, Sem.run_bind, Result.andThen_ok, hm, hget, hsv, asInt, asIntOf, Int.ofNat_eq_natCast, hfi, hset, Sem.run_pure]
  · cases ha
end
end Go.Ev
namespace Go.Ev
section
variable {P : Program} {T : TT} {C : CT} {φ : Ph} {w : World} {e : E} {a : Act} {o : Oper} {h : H} {lo n : Nat}
theorem decode_ascii (s : ByteArray) (i : Nat) (c : UInt8) (hc : s[i]? = some c) (hl : c.toNat < 128) : Utf8.decode s i = (c.toNat, 1) := by
  have hlt : i < s.size := by
    rcases Nat.lt_or_ge i s.size with h | h
    · exact h
    · rw [getElem?_neg s i (by omega)] at hc; cases hc
  have hg : s.get! i = c := by
    rw [getElem?_pos s i hlt] at hc
    injection hc with hc
    rw [← hc]
    show s.data[i]! = s.data[i]
    have : i < s.data.size := hlt
    exact getElem!_pos s.data i this
  unfold Utf8.decode
  simp only [Nat.add_zero, hg]
  rw [if_pos hl]
theorem bytes_at {s : ByteArray} {i c : Nat} (h : (bytesOf s)[i]? = some c) : ∃ b, s[i]? = some b ∧ b.toNat = c ∧ i < s.size := by
  simp only [bytesOf, List.getElem?_map, Option.map_eq_some_iff] at h
  obtain ⟨b, hb, rfl⟩ := h
  have hn : i < s.size := by
    have := (List.getElem?_eq_some_iff.1 hb).1
    rw [Array.length_toList] at this
    exact this
  refine ⟨b, ?_, rfl, hn⟩
  have h1 := (List.getElem?_eq_some_iff.1 hb).2
  rw [getElem?_pos s i hn]
  congr 1
theorem ok_nextS {x : Operand} (hs : SR φ e a) (hg : GOk φ) (hr : Rep φ (hget h) w) (hd : Dom φ n) (hn : n ≤ 1000001) (h0 : o.op = .next x true)
    {v : V} {h' : H} {n' : Nat} (ha : nextV true lo (opd (trO x) e) h n = .ok v h' n') : OpOk P a o lo φ (hget h) n w v (hget h') n' := by
  have hx := opd_VR hs hg x
  unfold nextV at ha
  split at ha
  · rename_i b i hq
    rw [hq] at hx
    obtain ⟨p, hp, hx⟩ := hx
    simp only [beq_nat, cond_eq_ite, decide_eq_true_eq] at ha
    split at ha
    · rename_i hi; subst hi
      split at ha
      · rename_i l q hh
        obtain ⟨ob, h1, h2⟩ := hr.obj b p hp
        rw [hh] at h2
        obtain ⟨hb0, s, rfl, rfl⟩ := h2
        rw [hb0] at hx
        have hget1 : (getObj p.b).run P w = .ok (.stringIter s q) w := by simp [getObj, Sem.run, h1]
        rw [dr_eq] at ha
        cases hdr : (bytesOf s).drop q with
        | nil =>
          rw [hdr] at ha
          injection ha with e1 e2 e3
          subst e1; subst e2; subst e3
          have hle : ¬ (q < s.size) := by
            have := congrArg List.length hdr
            rw [List.length_drop, bytesOf_len] at this
            simp at this
            omega
          refine .value (x := .tuple #[.bool false]) (w' := w) ?_ ⟨[.bool false], rfl, rfl, trivial⟩ hr (Stp.refl lo _ w hd)
          simp [execOp, h0, Instr.next, hx, hget1, hle]
        | cons c r =>
          rw [hdr] at ha
          simp only [ble_nat, cond_eq_ite, decide_eq_true_eq] at ha
          split at ha
          · rename_i hlo
            split at ha
            · cases ha
            · rename_i hc
              injection ha with e1 e2 e3
              subst e1; subst e2; subst e3
              obtain ⟨by_, hb1, rfl, hlt⟩ := bytes_at (drop_cons hdr)
              have hdec := decode_ascii s q by_ hb1 (by omega)
              obtain ⟨r1, r2⟩ := rep_set (lo := lo) (b := b) (p := p) (g' := hget (hset b (.ob (.si (bytesOf s) (Nat.add q 1))) h)) (w' := { w with heap := w.heap.setIfInBounds p.b (.stringIter s (q + 1)) }) (ob' := .ob (.si (bytesOf s) (q + 1)))
                hr hd hp hlo (by rw [hh]; simp) rfl ⟨hb0, s, rfl, rfl⟩ (fun j => hget_hset _ h b j (by have := hd.le hp; omega))
              refine .value (x := .tuple #[.bool true, goInt q, .int .i32 by_.toNat]) ?_ ⟨[.bool true, goInt q, .int .i32 by_.toNat], rfl, rfl, fit_TR q φ, ⟨rfl, by simp [lim]; omega⟩, trivial⟩ r1 r2
              have hset : (setObj p.b (.stringIter s (q + 1))).run P w = .ok () { w with heap := w.heap.setIfInBounds p.b (.stringIter s (q + 1)) } := by simp [setObj, Sem.run, h1]
              simp [execOp, h0, Instr.next, hx, hget1, hlt, hdec, hset]
          · cases ha
      · cases ha
    · cases ha
  · cases ha
theorem ok_nextM {x : Operand} (hs : SR φ e a) (hg : GOk φ) (hr : Rep φ (hget h) w) (hd : Dom φ n) (h0 : o.op = .next x false)
    {v : V} {h' : H} {n' : Nat} (ha : nextV false lo (opd (trO x) e) h n = .ok v h' n') : OpOk P a o lo φ (hget h) n w v (hget h') n' := by
  have hx := opd_VR hs hg x
  unfold nextV at ha
  split at ha
  · rename_i b i hq
    rw [hq] at hx
    obtain ⟨p, hp, hx⟩ := hx
    simp only [beq_nat, cond_eq_ite, decide_eq_true_eq] at ha
    split at ha
    · rename_i hi; subst hi
      split at ha
      · rename_i m hh
        split at ha
        · rename_i ck hm
          injection ha with e1 e2 e3
          subst e1; subst e2; subst e3
          obtain ⟨ob, h1, h2⟩ := hr.obj b p hp
          rw [hh] at h2
          obtain ⟨hb0, q, since, hq, rfl⟩ := h2
          rw [hb0] at hx
          obtain ⟨ms, hb, hall⟩ := hr.map hq hm
          cases ms with
          | cons _ _ => exact hall.elim
          | nil =>
            have hget1 : (getObj p.b).run P w = .ok (.mapIter (some q.b) since #[] since) w := by simp [getObj, Sem.run, h1]
            have hget2 := run_getMap (P := P) hb
            refine .value (x := .tuple #[.bool false]) (w' := w) ?_ ⟨[.bool false], rfl, rfl, trivial⟩ hr (Stp.refl lo _ w hd)
            simp [execOp, h0, Instr.next, hx, hget1, hget2, Question.forced]
        · cases ha
      · cases ha
    · cases ha
  · cases ha
theorem run_unsafeString (pt it ty c : TypeId) (hp : P.underlying pt = some (.pointer c)) (b : Addr) (l : List UInt8) (hl : l ≠ []) (hsz : l.length ≤ 9223372036854775807) (k : IntKind)
    (hv : (variablesAt b c l.length).run P w = .ok true w) (hb : (loadBytes b .empty l.length).run P w = .ok ⟨l.toArray⟩ w) :
    (Builtin.unsafeString_ #[pt, it] ty #[.pointer (some b), .int k l.length]).run P w = .ok (.string ⟨l.toArray⟩) (w.freeze b l.length) := by
  have hl0 : l.length ≠ 0 := by simpa using hl
  have hmax : IntKind.i64.max = 9223372036854775807 := rfl
  have h63 : ¬ (9223372036854775807 : Int) < (l.length : Int) := by omega
  have hneg : ¬ (l.length : Int) < 0 := by omega
  refine (congrArg (fun s : Sem Value => s.run P w) (show Builtin.unsafeString_ #[pt, it] ty #[.pointer (some b), .int k l.length] = Bind.bind (asInt (.int k l.length)) _ from rfl)).trans ?_
  simp [asInt, asIntOf, hmax, h63, hneg, hl0, elemOf, run_underlying hp, hv, hb]
theorem run_unsafeString0 (pt it ty : TypeId) (b : Option Addr) (k : IntKind) : (Builtin.unsafeString_ #[pt, it] ty #[.pointer b, .int k 0]).run P w = .ok (.string .empty) w := by
  have hmax : IntKind.i64.max = 9223372036854775807 := rfl
  refine (congrArg (fun s : Sem Value => s.run P w) (show Builtin.unsafeString_ #[pt, it] ty #[.pointer b, .int k 0] = Bind.bind (asInt (.int k 0)) _ from rfl)).trans ?_
  cases b <;> simp [asInt, asIntOf, hmax]
theorem ok_ustr (hT : TOk P T) {t u c : TypeId} {i : TI} {x y : Operand} (hs : SR φ e a) (hg : GOk φ) (hr : Rep φ (hget h) w) (hd : Dom φ n) (hn : n ≤ 1000001) (h0 : o.op = .call ⟨.builtin .unsafeString, #[x, y], #[t, u]⟩)
    (ht : P.underlying t = some (.pointer c)) (hc : P.cellsOf c = 1) {v : V} {h' : H} {n' : Nat} (ha : ustr c lo (opd (trO x) e) (opd (trO y) e) h n = .ok v h' n') :
    OpOk P a o lo φ (hget h) n w v (hget h') n' := by
  have hx := opd_VR hs hg x
  have hy := opd_VR hs hg y
  unfold ustr at ha
  split at ha
  · rename_i m hq
    rw [hq] at hy
    obtain ⟨hy, hmk⟩ := hy
    simp only [beq_nat, cond_eq_ite, decide_eq_true_eq] at ha
    split at ha
    · rename_i hm; subst hm
      have key : ∀ b, a.eval x = .pointer b → R3.ok (.st []) h n = .ok v h' n' → OpOk P a o lo φ (hget h) n w v (hget h') n' := by
        intro b hb ha
        injection ha with e1 e2 e3
        subst e1; subst e2; subst e3
        refine .value (x := .string .empty) (w' := w) ?_ ⟨.empty, rfl, rfl⟩ hr (Stp.refl lo _ w hd)
        rw [call_builtin h0]
        have hy : a.eval y = .int .i64 0 := hy
        simp [builtin, hb, hy, run_unsafeString0]
      split at ha
      · rename_i hq'
        rw [hq'] at hx
        obtain ⟨p, _, hx⟩ := hx
        exact key _ hx ha
      · rename_i hq'
        rw [hq'] at hx
        exact key none hx ha
      · cases ha
    · rename_i hm
      split at ha
      · rename_i b j hq'
        rw [hq'] at hx
        obtain ⟨p, hp, hx⟩ := hx
        simp only [ble_nat, cond_eq_ite, decide_eq_true_eq] at ha
        split at ha
        · rename_i hlo
          split at ha
          · rename_i cs hcs
            split at ha
            · rename_i l hl
              split at ha
              · rename_i t' xx f r hh
                split at ha
                · rename_i htt; subst htt
                  injection ha with e1 e2 e3
                  subst e1; subst e2; subst e3
                  obtain ⟨as, fr, g1, g2, g3, g4, g5, g6⟩ := hr.row hp hh
                  obtain ⟨vs, v1, v2, v3⟩ := hr.cells hp hcs
                  obtain ⟨rfl, hlt⟩ := bytes_some cs l vs hl v2
                  rw [List.length_map] at v1
                  let us : List UInt8 := l.map UInt8.ofNat
                  have husl : us.length = m := by simp [us, v1]
                  have hust : ∀ (q : Nat) (u : UInt8), us[q]? = some u → l[q]? = some u.toNat := by
                    intro q u hu
                    simp only [us, List.getElem?_map, Option.map_eq_some_iff] at hu
                    obtain ⟨z, hz, rfl⟩ := hu
                    have := hlt z (List.mem_of_getElem? hz)
                    rw [hz]; simp [Nat.mod_eq_of_lt this]
                  have hlb := Lib.run_loadBytes (P := P) w us ⟨p.b, p.base + j, none⟩ .empty (fun q u hu => v3 q _ (by rw [List.getElem?_map, hust q u hu]; rfl))
                  have hlb : (loadBytes ⟨p.b, p.base + j, none⟩ .empty us.length).run P w = .ok ⟨us.toArray⟩ w := by
                    rw [hlb]; congr 2; simp
                  obtain ⟨_, _, _, c', hh', hle', _⟩ := cellsAt_some hcs
                  rw [hh] at hh'
                  injection hh' with _ _ _ hh'
                  subst hh'
                  have hva : (variablesAt ⟨p.b, p.base + j, none⟩ t' us.length).run P w = .ok true w := by
                    have := liesAt_row (P := P) (t := t') (i := p.base + j) (k := us.length) (cells := as.size) hc (by omega)
                    simp [variablesAt, World.shape?, g1, this]
                  have hrl : m ≤ r.length := by omega
                  have hrun := run_unsafeString (P := P) (w := w) t u o.type t' ht ⟨p.b, p.base + j, none⟩ us (by intro h0; rw [h0] at husl; exact hm husl.symm) (by rw [husl]; simp [lim] at hmk; omega) .i64 hva hlb
                  rw [husl] at hrun
                  have hfz := hr.frz hp hh g1
                  have ho : OR φ p (.row t' xx (some (if f ≤ Nat.add j m then Nat.add j m else f)) r) (.cells as t' (if fr.1 == fr.2 then (p.base + j, p.base + j + m) else (min fr.1 (p.base + j), max fr.2 (p.base + j + m)))) := by
                    refine ⟨as, _, rfl, g2, g3, g4, g5, ?_, ?_⟩
                    · intro q hq off hoff
                      injection hq with hq
                      have hoff2 : p.base + f ≤ off ∧ p.base + (j + m) ≤ off := by
                        rw [← hq] at hoff
                        split at hoff
                        · rename_i h1; have h1 : f ≤ j + m := h1; have hoff : p.base + (j + m) ≤ off := hoff; omega
                        · rename_i h1; have h1 : ¬ (f ≤ j + m) := h1; omega
                      have h1 := g6 f rfl
                      split
                      · rename_i he; simp; omega
                      · rename_i he
                        have hne : fr.1 ≠ fr.2 := by simpa using he
                        have h2 : fr.2 ≤ p.base + f := by
                          rcases Nat.lt_or_ge (p.base + f) fr.2 with h3 | h3
                          · exact absurd ⟨by omega, by omega⟩ (h1 (fr.2 - 1) (by omega))
                          · exact h3
                        simp; omega
                    · split <;> simp <;> omega
                  obtain ⟨r1, r2⟩ := rep_set (lo := lo) (b := b) (p := p) (g' := hget (hset b (.row t' xx (some (if f ≤ Nat.add j m then Nat.add j m else f)) r) h)) (w' := w.freeze ⟨p.b, p.base + j, none⟩ m) (hio := by unfold World.freeze; split <;> exact ⟨rfl, rfl⟩)
                    (obj' := .cells as t' (if fr.1 == fr.2 then (p.base + j, p.base + j + m) else (min fr.1 (p.base + j), max fr.2 (p.base + j + m)))) (ob' := .row t' xx (some (if f ≤ Nat.add j m then Nat.add j m else f)) r)
                    hr hd hp hlo (by rw [hh]; simp) (by
                      unfold World.freeze
                      rw [if_neg hm]
                      apply Array.ext_getElem?
                      intro q
                      have hbl := Array.getElem?_eq_some_iff.1 g1
                      simp only [Array.getElem?_modify, Array.getElem?_setIfInBounds]
                      by_cases hq : p.b = q
                      · subst hq; rw [if_pos rfl, if_pos rfl, if_pos hbl.1, g1]; rfl
                      · rw [if_neg hq, if_neg hq]) ho (fun q => hget_hset _ h b q (by have := hd.le hp; omega))
                  · refine .value (x := .string ⟨us.toArray⟩) ?_ ⟨⟨us.toArray⟩, rfl, ?_⟩ r1 r2
                    · rw [call_builtin h0]
                      have hy : a.eval y = .int .i64 m := hy
                      simp [builtin, hx, hy, hrun]
                    · show (us.toArray.toList.map (·.toNat)) = l
                      simp only [us]
                      apply List.ext_getElem?
                      intro q
                      simp only [List.getElem?_map]
                      cases hq : l[q]? with
                      | none => simp [hq]
                      | some z =>
                        have := hlt z (List.mem_of_getElem? hq)
                        simp [hq, Nat.mod_eq_of_lt this]
                · cases ha
              · cases ha
            · cases ha
          · cases ha
        · cases ha
      · cases ha
  · cases ha
end
end Go.Ev
namespace Go.Ev
section
variable {P : Program} {T : TT} {C : CT} {φ : Ph} {w : World} {e : E} {a : Act} {o : Oper} {h : H} {lo n : Nat} {I : Itr} {F : Cal} {v : V} {h' : H} {n' : Nat}
theorem gives_eqA {t u : TypeId} {l : List EK} {bop : BinOp} {k : Bool} {x y : Operand} (hs : SR φ e a) (hg : GOk φ) (hb : Eqs bop k) (h : o.op = .binOp bop t x y u) (hE : EqT P 10 t l = true) (hag : aggT P t = true)
    (hgd : P.eqGuardType P.depth t = false) {r : Bool} (hr : eqV (.a l) (opd (trO x) e) (opd (trO y) e) = some r) : Gives P a o φ (.bo (xor r k)) := by
  have hx := opd_VR hs hg x
  have hy := opd_VR hs hg y
  have hr : eqA l (opd (trO x) e) (opd (trO y) e) = some r := hr
  unfold eqA at hr
  split at hr
  · rename_i c hq
    rw [hq] at hx
    obtain ⟨xs, hx, hc⟩ := hx
    split at hr
    · rename_i c' hq'
      rw [hq'] at hy
      obtain ⟨ys, hy, hc'⟩ := hy
      refine gives_equal hb h hx hy (fun w => run_eqGuard_agg w bop t x y _ _ hgd) (fun w => ?_) rfl rfl
      have := run_equal_flat 10 t l hE c c' xs ys r hc hc' (eqL_pre l c c' r hr) 9990 w
      rw [hag] at this
      exact this
    · cases hr
  · cases hr
theorem ok_ret {u : V} (hg : u ≠ .er → OpOk P a o lo φ (hget h) n w u (hget h) n) (hr : ret u h n = .ok v h' n') : OpOk P a o lo φ (hget h) n w v (hget h') n' := by
  obtain ⟨h1, rfl, rfl, rfl⟩ := ret_ok hr
  exact hg h1
/-- A call of the evaluator stands for one of the model. -/
def CallsOk (P : Program) (F : Cal) : Prop := ∀ (f : FuncId) (φ : Ph) (h : H) (n lo : Nat) (w : World) (vs : List V) (xs : List Value) (v : V) (h' : H) (n' : Nat), GOk φ → Rep φ (hget h) w → Dom φ n → lo ≤ n → All2 (VR φ) vs xs →
  F lo (fpath f) vs h n = .ok v h' n' → (∀ args w, (callFunc f args).run P w = .ok (.enter f args) w) ∧
    Calls P f ⟨xs⟩ w fun e w' => ∃ x φ', e = .returned x ∧ VR φ' v x ∧ Rep φ' (hget h') w' ∧ Stp lo φ (hget h) n w φ' (hget h') n' w'
/-- What stands for the functions that the evaluator does not enter. -/
structure CTOk (P : Program) (C : CT) (I : Itr) : Prop where
  itr : ∀ f i, C f = .itr i → ∀ (φ : Ph) (e : E) (a : Act) (o : Oper) (as : Array Operand) (ts : Array TypeId) (h : H) (n lo : Nat) (w : World), o.op = .call ⟨.value (.func f), as, ts⟩ → SR φ e a → GOk φ → Rep φ (hget h) w → Dom φ n →
    I i (args (as.toList.map trO) e) h ≠ .er → OpOk P a o lo φ (hget h) n w (I i (args (as.toList.map trO) e) h) (hget h) n
  mz : ∀ f t, C f = .mz t → ∀ (φ : Ph) (e : E) (a : Act) (o : Oper) (x : Operand) (as : Array Operand) (ts : Array TypeId) (h : H) (n lo : Nat) (w : World) (v : V) (h' : H) (n' : Nat), o.op = .call ⟨.value (.func f), as, ts⟩ → as.toList = [x] → SR φ e a → GOk φ → Rep φ (hget h) w → Dom φ n →
    mzero t (opd (trO x) e) h n = .ok v h' n' → OpOk P a o lo φ (hget h) n w v (hget h') n'
  pure : ∀ f, C f ≠ .pure
theorem args_VR (hs : SR φ e a) (hg : GOk φ) : ∀ (l : List Operand), All2 (VR φ) (args (l.map trO) e) (l.map a.eval)
  | [] => trivial
  | x :: l => ⟨opd_VR hs hg x, args_VR hs hg l⟩
theorem ok_call (hF : CallsOk P F) (hlo : lo ≤ n) {f : FuncId} {as : Array Operand} {ts : Array TypeId} (hs : SR φ e a) (hg : GOk φ) (hr : Rep φ (hget h) w) (hd : Dom φ n) (h0 : o.op = .call ⟨.value (.func f), as, ts⟩)
    (hop : F lo (path 12 f) (args (as.toList.map trO) e) h n = .ok v h' n') : OpOk P a o lo φ (hget h) n w v (hget h') n' := by
  obtain ⟨hcf, hcalls⟩ := hF f φ h n lo w _ (as.toList.map a.eval) v h' n' hg hr hd hlo (args_VR hs hg as.toList) hop
  intro next Q hn
  have hrun : (execOp a.eval o).run P w = .ok (.enter f ⟨as.toList.map a.eval⟩) w := by
    have e1 : as.map a.eval = ⟨as.toList.map a.eval⟩ := Array.ext' (by simp)
    simp [execOp, h0, resolve, Deferred.ofValue, Act.eval, invoke, hcf]
    exact Array.ext' (by simp)
  unfold Oper.wp
  rw [hrun, Oper.upon_enter]
  refine hcalls.mono ?_
  rintro _ w' ⟨x, φ', rfl, h1, h2, h3⟩
  exact hn x φ' w' h1 h2 h3
theorem QR_q : ∀ (c : List Q) (xs : List Value), All2 (QR φ) c xs → All2 (VR φ) (c.map V.q) xs
  | [], [], _ => trivial
  | _ :: c, _ :: xs, ⟨h1, h2⟩ => ⟨h1, QR_q c xs h2⟩
theorem ok_callV (hF : CallsOk P F) (hlo : lo ≤ n) {x : Operand} {as : Array Operand} {ts : Array TypeId} (hs : SR φ e a) (hg : GOk φ) (hr : Rep φ (hget h) w) (hd : Dom φ n) (h0 : o.op = .call ⟨.value x, as, ts⟩)
    (hop : callV F lo (opd (trO x) e) (args (as.toList.map trO) e) h n = .ok v h' n') : OpOk P a o lo φ (hget h) n w v (hget h') n' := by
  have hx := opd_VR hs hg x
  unfold callV at hop
  split at hop
  · rename_i f c hq
    rw [hq] at hx
    obtain ⟨cs, hx, hc⟩ := hx
    rw [app_eq, mp_eq] at hop
    obtain ⟨hcf, hcalls⟩ := hF f φ h n lo w _ (as.toList.map a.eval ++ cs) v h' n' hg hr hd hlo (All2.append (args_VR hs hg as.toList) (QR_q c cs hc)) hop
    intro next Q hn
    have hrun : (execOp a.eval o).run P w = .ok (.enter f ⟨as.toList.map a.eval ++ cs⟩) w := by
      simp [execOp, h0, resolve, Deferred.ofValue, hx, invoke, hcf]
    unfold Oper.wp
    rw [hrun, Oper.upon_enter]
    refine hcalls.mono ?_
    rintro _ w' ⟨x, φ', rfl, h1, h2, h3⟩
    exact hn x φ' w' h1 h2 h3
  · cases hop
theorem trBin_arith {t : TypeId} {bop : BinOp} {x y : Operand} (h1 : bop ≠ .eql) (h2 : bop ≠ .neq) : trBin T bop t x y = (match T t with
    | some ⟨_, _, .int _, _⟩ => match trArith bop with
      | some a => .ar a (trO x) (trO y)
      | none => match trComp bop with
        | some c => .cm c (trO x) (trO y)
        | none => .bad
    | some ⟨_, _, .str, _⟩ => if bop = .add then .cat (trO x) (trO y) else .bad
    | _ => .bad) := by
  cases bop <;> first | rfl | exact absurd rfl h1 | exact absurd rfl h2
theorem TOk.cells1 (hT : TOk P T) {t : TypeId} {i : TI} (h : T t = some i) (hag : i.k.agg = false) : P.cellsOf t = 1 := by
  obtain ⟨j, z, d, hj, hjs, _, hz, _, _, hag', hc, hl⟩ := hT.info _ _ h
  have h1 := (hc fun _ => none).length
  have h2 : z.cells.toList.length = 1 := by
    rw [hag] at hag'
    cases z <;> first | rfl | (simp [isAggV] at hag')
  rw [h2, hl] at h1
  simp [Program.cellsOf, hj, hjs, h1]
section
variable (hT : TOk P T) (hs : SR φ e a) (hg : GOk φ) (hr : Rep φ (hget h) w) (hd : Dom φ n)
include hT hs hg hr hd
theorem ok_eq {t u : TypeId} {bop : BinOp} {k : Bool} {x y : Operand} (hb : Eqs bop k) (h0 : o.op = .binOp bop t x y u) (hop : evOp (trEq T k t (trO x) (trO y) (isNilI y)) I F lo e h n = .ok v h' n') : OpOk P a o lo φ (hget h) n w v (hget h') n' := by
  have fin : ∀ kk, (∀ r, eqV kk (opd (trO x) e) (opd (trO y) e) = some r → Gives P a o φ (.bo (xor r k))) → evOp (.eq kk k (trO x) (trO y)) I F lo e h n = .ok v h' n' → OpOk P a o lo φ (hget h) n w v (hget h') n' := by
    intro kk hk hop
    have hop : ret (oB (eqV kk (opd (trO x) e) (opd (trO y) e)) k) h n = .ok v h' n' := hop
    refine ok_ret (fun hne => ?_) hop
    cases hr' : eqV kk (opd (trO x) e) (opd (trO y) e) with
    | none => rw [hr'] at hne; exact absurd rfl hne
    | some r => exact (hk r hr').reads.ok hr hd
  unfold trEq at hop
  split at hop
  · rename_i ht
    cases hn : isNilI y with
    | false => rw [hn] at hop; cases hop
    | true =>
      rw [hn] at hop
      obtain ⟨ms, hu⟩ := hT.iface ht
      exact fin _ (fun r hr' => gives_eqZi hs hg hb h0 hu hn hr') hop
  · exact fin .i (fun r hr' => gives_eqI hs hg hb h0 hr') hop
  · exact fin .s (fun r hr' => gives_eqS hs hg hb h0 hr') hop
  · rename_i ht; exact fin .b (fun r hr' => gives_eqB hs hg hb h0 (hT.bool ht) hr') hop
  · rename_i ht; exact fin _ (fun r hr' => gives_eqZs hs hg hb h0 (hT.slice ht) hr') hop
  · rename_i ht; exact fin _ (fun r hr' => gives_eqZm hs hg hb h0 (hT.map ht) hr') hop
  · rename_i ht
    obtain ⟨ps, rs, vd, hu⟩ := hT.func ht
    exact fin _ (fun r hr' => gives_eqZf hs hg hb h0 hu hr') hop
  · rename_i l fs z ht
    obtain ⟨f1, f2, f3⟩ := hT.flat _ _ l ht rfl
    exact fin _ (fun r hr' => gives_eqA hs hg hb h0 f1 f2 f3 hr') hop
  · rename_i c z ht
    split at hop
    · rename_i i hi
      simp only [beq_nat, cond_eq_ite, decide_eq_true_eq] at hop
      split at hop
      · cases hop
      · rename_i h1
        exact fin .p (fun r hr' => gives_eqP hs hg hb h0 (hT.ptr ht) ⟨i.size, h1, hT.size hi⟩ hr') hop
    · cases hop
  · cases hop
theorem ok_bin {t u : TypeId} {bop : BinOp} {x y : Operand} (h0 : o.op = .binOp bop t x y u) (hop : evOp (trBin T bop t x y) I F lo e h n = .ok v h' n') : OpOk P a o lo φ (hget h) n w v (hget h') n' := by
  by_cases h1 : bop = .eql
  · subst h1; exact ok_eq hT hs hg hr hd (.inl ⟨rfl, rfl⟩) h0 hop
  · by_cases h2 : bop = .neq
    · subst h2; exact ok_eq hT hs hg hr hd (.inr ⟨rfl, rfl⟩) h0 hop
    · rw [trBin_arith h1 h2] at hop
      split at hop
      · rename_i s b k z ht
        split at hop
        · rename_i p hp
          exact ok_ret (fun hne => (gives_arith hs hg hp h0 hne).reads.ok hr hd) hop
        · split at hop
          · rename_i p hp
            exact ok_ret (fun hne => (gives_comp hs hg hp h0 hne).reads.ok hr hd) hop
          · cases hop
      · by_cases h3 : bop = .add
        · subst h3
          have hop : ret (match opd (trO x) e, opd (trO y) e with | .q (.o (.st a)), .q (.o (.st b)) => bif Nat.ble (Nat.add (len a) (len b)) 4611686018427387904 then .st (app a b) else .er | _, _ => .er) h n = .ok v h' n' := hop
          refine ok_ret (fun hne => ?_) hop
          split at hne
          · rename_i l m hm hn
            simp only [ble_nat, len_eq, cond_eq_ite, decide_eq_true_eq] at hne ⊢
            split at hne
            · rename_i hle
              rw [if_pos hle, app_eq]
              exact (gives_cat hs hg h0 hm hn hle).reads.ok hr hd
            · exact absurd rfl hne
          · exact absurd rfl hne
        · rw [if_neg h3] at hop; cases hop
      · cases hop
theorem ok_conv {s d : TypeId} {x : Operand} (h0 : o.op = .convert s d x) (hop : evOp (trConv T s d x) I F lo e h n = .ok v h' n') : OpOk P a o lo φ (hget h) n w v (hget h') n' := by
  unfold trConv at hop
  split at hop
  · rename_i i j hi hj
    obtain ⟨i1, i2, ik, i4⟩ := i
    obtain ⟨j1, j2, jk, j4⟩ := j
    split at hop
    · rename_i k1 k2 h1 h2
      simp only at h1 h2; subst h1; subst h2
      exact ok_ret (fun hne => (gives_conv hs hg h0 (hT.int hi) (hT.int hj) hne).reads.ok hr hd) hop
    · rename_i c h1 h2
      simp only at h1 h2; subst h1; subst h2
      split at hop
      · rename_i hc
        exact ok_bytes hs hg hr hd h0 (hT.str hi) (hT.slice hj) (hT.int hc) hop
      · cases hop
    · rename_i c h1 h2
      simp only at h1 h2; subst h1; subst h2
      split at hop
      · rename_i hc
        exact ok_ret (fun hne => (reads_toStr hs hg hr h0 (hT.slice hi) (hT.str hj) (hT.int hc) hne).ok hr hd) hop
      · cases hop
    · rename_i c h1 h2
      simp only at h1 h2; subst h1; subst h2
      split at hop
      · rename_i ci hc
        simp only [beq_nat, cond_eq_ite, decide_eq_true_eq] at hop
        split at hop
        · cases hop
        · rename_i hz
          obtain ⟨dd, hdd, hkd⟩ := hT.under hj
          have hu : P.underlying d = some .unsafePointer := by cases dd <;> simp [KR] at hkd; exact hdd
          exact ok_ret (fun hne => (reads_up hs hg hr h0 (hT.ptr hi) hu hz (hT.size hc) hne).ok hr hd) hop
      · cases hop
    · rename_i c h1 h2
      simp only at h1 h2; subst h1; subst h2
      split at hop
      · rename_i ci hc
        simp only [beq_nat, cond_eq_ite, decide_eq_true_eq] at hop
        split at hop
        · cases hop
        · rename_i hz
          obtain ⟨dd, hdd, hkd⟩ := hT.under hi
          have hu : P.underlying s = some .unsafePointer := by cases dd <;> simp [KR] at hkd; exact hdd
          exact ok_ret (fun hne => (reads_pu hT hs hg hr h0 hu (hT.ptr hj) hc hz hne).ok hr hd) hop
      · cases hop
    · cases hop
  · cases hop
theorem ok_builtin {b : Builtin} {ts : Array TypeId} {as : Array Operand} (h0 : o.op = .call ⟨.builtin b, as, ts⟩) (hop : evOp (trBuiltin T b ts.toList as.toList) I F lo e h n = .ok v h' n') : OpOk P a o lo φ (hget h) n w v (hget h') n' := by
  have hn := hd.2
  obtain ⟨as⟩ := as
  obtain ⟨ts⟩ := ts
  unfold trBuiltin at hop
  simp only at hop
  split at hop
  · rename_i t u x y
    split at hop
    · rename_i s1 b1 c z1 ht
      split at hop
      · rename_i j hj
        split at hop
        · rename_i i hi
          cases hk : (i.k.isInt || Nat.beq j.size 0 || Nat.beq j.bytes 0) with
          | true => rw [hk] at hop; cases hop
          | false =>
            rw [hk] at hop
            simp only [Bool.or_eq_false_iff, beq_nat, decide_eq_false_iff_not] at hk
            obtain ⟨i1, i2, ik, i4⟩ := i
            obtain ⟨d, hu, hkd⟩ := hT.under hi
            exact ok_append hT hs hg hr hd hn h0 (hT.slice ht) hu (by
              rintro q rfl
              cases ik <;> simp [KR] at hkd <;> simp [TK.isInt] at hk) hj hk.1.2 hk.2 hop
        · cases hop
      · cases hop
    · cases hop
  · rename_i t tr x y
    split at hop
    · rename_i s1 b1 c z1 ht
      split at hop
      · rename_i j hj
        exact ok_copy hT hs hg hr hd hn h0 (by simp) (hT.slice ht) hj hop
      · cases hop
    · cases hop
  · rename_i t tr x
    split at hop
    · rename_i ht
      exact ok_ret (fun hne => (reads_lenM hs hg hr h0 (by simp) (hT.map ht) hne).ok hr hd) hop
    · rename_i ht
      exact ok_ret (fun hne => (gives_lenS hs hg h0 (by simp) (hT.str ht) hne).reads.ok hr hd) hop
    · rename_i ht
      exact ok_ret (fun hne => (gives_lenL hs hg h0 (by simp) (hT.slice ht) hne).reads.ok hr hd) hop
    · cases hop
  · rename_i t tr x
    split at hop
    · rename_i ht
      exact ok_ret (fun hne => (gives_cap hs hg h0 (by simp) (hT.slice ht) hne).reads.ok hr hd) hop
    · cases hop
  · rename_i x y
    exact ok_ret (fun hne => (gives_minmax (.inl ⟨rfl, rfl⟩) hs hg h0 hne).reads.ok hr hd) hop
  · rename_i x y
    exact ok_ret (fun hne => (gives_minmax (.inr ⟨rfl, rfl⟩) hs hg h0 hne).reads.ok hr hd) hop
  · rename_i t tr m k
    split at hop
    · rename_i q hq
      obtain ⟨c, u, hu, hk⟩ := hT.tmap hq
      exact ok_delete hs hg hr hd hn h0 (by simp) hu hk hop
    · cases hop
  · rename_i t u x y
    split at hop
    · rename_i c z1 ht
      split at hop
      · rename_i hc
        exact ok_ustr (i := default) hT hs hg hr hd hn h0 (hT.ptr ht) (hT.cells1 hc rfl) hop
      · cases hop
    · cases hop
  · rename_i x
    exact ok_ret (fun hne => (reads_sdata hs hg h0 hne).ok hr hd) hop
  · cases hop
theorem gives_field' {s : TypeId} {x : Operand} {f : Nat} (h0 : o.op = .fieldAddr s x f) {sz b : Nat} {q : Option (List EK)} {fs : List (TypeId × Nat)} {z : List L} (ht : T s = some ⟨sz, b, .strct q fs, z⟩) {u : TypeId} {off : Nat} (hf : fs[f]? = some (u, off))
    {i : TI} (hi : T u = some i) (hz : i.size ≠ 0) (hne : fadd off (opd (trO x) e) ≠ .er) : Gives P a o φ (fadd off (opd (trO x) e)) := by
  obtain ⟨fs', hu, hmap, _⟩ := hT.strct ht
  rw [← hmap, List.getElem?_map, Option.map_eq_some_iff] at hf
  obtain ⟨fd, hfd, hfe⟩ := hf
  simp only [Prod.mk.injEq] at hfe
  obtain ⟨rfl, rfl⟩ := hfe
  rw [Array.getElem?_toList] at hfd
  exact gives_field hs hg h0 hu hfd rfl hz (hT.size hi) hne
theorem op_ok (hC : CTOk P C I) (hF : CallsOk P F) (hlo : lo ≤ n) (hop : evOp (trOp T C o.op) I F lo e h n = .ok v h' n') : OpOk P a o lo φ (hget h) n w v (hget h') n' := by
  have hn := hd.2
  cases h0 : o.op with
  | move x => rw [h0] at hop; exact ok_ret (fun hne => (gives_move hs hg (.inl h0)).reads.ok hr hd) hop
  | assign x => rw [h0] at hop; exact ok_ret (fun hne => (gives_move hs hg (.inr h0)).reads.ok hr hd) hop
  | pick c x y => rw [h0] at hop; exact ok_ret (fun hne => (gives_pick hs hg h0 hne).reads.ok hr hd) hop
  | alloc t =>
    rw [h0] at hop
    simp only [trOp] at hop
    split at hop
    · rename_i i hi; exact ok_alloc hT hr hd h0 hi hop
    · cases hop
  | box t x => rw [h0] at hop; exact ok_box hs hg hr hd h0 hop
  | build t ps =>
    rw [h0] at hop
    have hop : evOp (trBuild T t ps.toList) I F lo e h n = .ok v h' n' := hop
    have hb : ∀ z l, trBuild T t ps.toList = .bd z l → OpOk P a o lo φ (hget h) n w v (hget h') n' := by
      intro z l hzl
      rw [hzl] at hop
      exact ok_ret (fun hne => (gives_build hT hs hg h0 hzl hne).reads.ok hr hd) hop
    cases hq : trBuild T t ps.toList with
    | bd z l => exact hb z l hq
    | bad => rw [hq] at hop; cases hop
    | _ =>
      exfalso
      unfold trBuild at hq
      repeat' split at hq
      all_goals cases hq
  | buildSlice t m ps =>
    rw [h0] at hop
    simp only [trOp] at hop
    split at hop
    · rename_i ht
      split at hop
      · rename_i j hj
        split at hop
        · rename_i l hl
          simp only [ble_nat, cond_eq_ite, decide_eq_true_eq] at hop
          split at hop
          · rename_i hm
            exact ok_buildSlice hT hs hg hr hd h0 (hT.slice ht) hj hl hm hop
          · cases hop
        · cases hop
      · cases hop
    · cases hop
  | load t x =>
    rw [h0] at hop
    simp only [trOp] at hop
    split at hop
    · rename_i i hi; exact ok_ret (fun hne => (reads_load hT hs hg hr h0 hi hne).ok hr hd) hop
    · cases hop
  | store t x y =>
    rw [h0] at hop
    simp only [trOp] at hop
    split at hop
    · rename_i i hi
      simp only [beq_nat, cond_eq_ite, decide_eq_true_eq] at hop
      split at hop
      · cases hop
      · rename_i hz; exact ok_store hT hs hg hr hd hn h0 hi hz hop
    · cases hop
  | nilCheck x => rw [h0] at hop; exact ok_ret (fun hne => (gives_nilck hs hg h0 hne).reads.ok hr hd) hop
  | binOp bop t x y u => rw [h0] at hop; exact ok_bin hT hs hg hr hd h0 hop
  | unOp uop t x =>
    rw [h0] at hop
    cases uop with
    | not => exact ok_ret (fun hne => (gives_not hs hg h0 hne).reads.ok hr hd) hop
    | _ => cases hop
  | convert s d x => rw [h0] at hop; exact ok_conv hT hs hg hr hd h0 hop
  | makeFunc f first c =>
    rw [h0] at hop
    cases f with
    | func f =>
      have hop : evOp (match first.toList with
        | [] => IOp.mf f (c.toList.map trO)
        | _ => .bad) I F lo e h n = .ok v h' n' := hop
      split at hop
      · rename_i hf
        have hf : first = #[] := Array.ext' hf
        subst hf
        exact ok_ret (fun hne => (gives_makeFunc hs hg h0 hne).reads.ok hr hd) hop
      · cases hop
    | _ => cases hop
  | makeMap t r =>
    rw [h0] at hop
    cases r with
    | none => exact ok_makeMap hr hd h0 hop
    | some _ => cases hop
  | makeSlice t x y =>
    rw [h0] at hop
    simp only [trOp] at hop
    split at hop
    · rename_i ht
      split at hop
      · rename_i j hj
        simp only [beq_nat, cond_eq_ite, decide_eq_true_eq] at hop
        split at hop
        · cases hop
        · rename_i hz; exact ok_makeSlice hT hs hg hr hd h0 (hT.slice ht) hj hz hop
      · cases hop
    · cases hop
  | slice t x lo' hi mx =>
    rw [h0] at hop
    simp only [trOp] at hop
    split at hop
    · rename_i ht
      cases mx with
      | none => exact ok_ret (fun hne => (gives_cutS hs hg h0 (hT.str ht) hne).reads.ok hr hd) hop
      | some _ => cases hop
    · rename_i ht
      split at hop
      · rename_i j hj
        cases hm : (mx.isSome && hi.isNone) with
        | true => rw [hm] at hop; cases hop
        | false =>
          rw [hm] at hop
          refine ok_ret (fun hne => (gives_cutL hs hg h0 (hT.slice ht) (hT.size hj) (fun h1 h2 => ?_) hne).reads.ok hr hd) hop
          subst h2
          cases mx with
          | none => exact h1 rfl
          | some _ => simp at hm
      · cases hop
    · rename_i ht
      cases mx with
      | some _ => cases hop
      | none =>
        split at hop
        · rename_i j _ hj
          exact ok_ret (fun hne => (gives_cutA hs hg h0 (hT.arr ht) (hT.size hj) hne).reads.ok hr hd) hop
        · cases hop
    · cases hop
  | fieldAddr s x f =>
    rw [h0] at hop
    simp only [trOp] at hop
    split at hop
    · rename_i ht
      split at hop
      · rename_i hf
        split at hop
        · rename_i i hi
          simp only [beq_nat, cond_eq_ite, decide_eq_true_eq] at hop
          split at hop
          · cases hop
          · rename_i hz
            exact ok_ret (fun hne => (gives_field' hT hs hg hr hd h0 ht hf hi hz hne).reads.ok hr hd) hop
        · cases hop
      · cases hop
    · cases hop
  | indexAddr t x i =>
    rw [h0] at hop
    simp only [trOp] at hop
    split at hop
    · rename_i ht
      split at hop
      · rename_i j hj
        exact ok_ret (fun hne => (gives_elem hs hg h0 (hT.slice ht) (hT.size hj) hne).reads.ok hr hd) hop
      · cases hop
    · rename_i ht
      split at hop
      · rename_i j hj
        exact ok_ret (fun hne => (gives_elemA hs hg h0 (hT.arr ht) (hT.size hj) hne).reads.ok hr hd) hop
      · cases hop
    · cases hop
  | index t x i =>
    rw [h0] at hop
    simp only [trOp] at hop
    split at hop
    · rename_i ht
      exact ok_ret (fun hne => (gives_index hs hg h0 (hT.str ht) hne).reads.ok hr hd) hop
    · cases hop
  | lookup t m k okk =>
    rw [h0] at hop
    simp only [trOp] at hop
    split at hop
    · rename_i ht
      split at hop
      · rename_i q z hq hz
        exact ok_ret (fun hne => (reads_lookup hT hs hg hr h0 (hT.map ht) (hT.tkey hq) hz hne).ok hr hd) hop
      · cases hop
    · cases hop
  | mapUpdate t m k x =>
    rw [h0] at hop
    simp only [trOp] at hop
    split at hop
    · rename_i q hq
      obtain ⟨c, u, hu, hk⟩ := hT.tmap hq
      exact ok_update hs hg hr hd hn (.inl h0) hu hk hop
    · cases hop
  | insert t m k x =>
    rw [h0] at hop
    simp only [trOp] at hop
    split at hop
    · rename_i q hq
      obtain ⟨c, u, hu, hk⟩ := hT.tmap hq
      exact ok_update hs hg hr hd hn (.inr h0) hu hk hop
    · cases hop
  | mapEntry t m k =>
    rw [h0] at hop
    simp only [trOp] at hop
    split at hop
    · rename_i ht
      split at hop
      · rename_i q z hq hz
        exact ok_entry hT hs hg hr hd hn h0 (hT.map ht) (hT.tkey hq) hz hop
      · cases hop
    · cases hop
  | entryStore t m s x => rw [h0] at hop; exact ok_entryStore hs hg hr hd hn h0 hop
  | range t x =>
    rw [h0] at hop
    simp only [trOp] at hop
    split at hop
    · rename_i ht; exact ok_rangeS hs hg hr hd h0 (hT.str ht) hop
    · rename_i ht; exact ok_rangeM hs hg hr hd h0 (hT.map ht) hop
    · cases hop
  | next x s =>
    rw [h0] at hop
    cases s with
    | true => exact ok_nextS hs hg hr hd hn h0 hop
    | false => exact ok_nextM hs hg hr hd h0 hop
  | extract x i => rw [h0] at hop; exact ok_ret (fun hne => (gives_extract hs hg h0 hne).reads.ok hr hd) hop
  | call c =>
    obtain ⟨callee, as, ts⟩ := c
    rw [h0] at hop
    cases callee with
    | builtin b => exact ok_builtin hT hs hg hr hd h0 hop
    | invoke _ _ => cases hop
    | value x =>
      cases x with
      | func f =>
        have hop : evOp (match C f with
          | .call => IOp.cf (path 12 f) (as.toList.map trO)
          | .pure => .cq (path 12 f) (as.toList.map trO)
          | .itr i => .xt i (as.toList.map trO)
          | .mz e => match as.toList with
            | [x] => .mz e (trO x)
            | _ => .bad) I F lo e h n = .ok v h' n' := hop
        split at hop
        · exact ok_call hF hlo hs hg hr hd h0 hop
        · rename_i hp; exact absurd hp (hC.pure f)
        · rename_i i hi
          exact ok_ret (fun hne => hC.itr f i hi φ e a o as ts h n lo w h0 hs hg hr hd hne) hop
        · rename_i t ht
          split at hop
          · rename_i x hx
            exact hC.mz f t ht φ e a o x as ts h n lo w v h' n' h0 hx hs hg hr hd hop
          · cases hop
      | tmp t => exact ok_callV hF hlo hs hg hr hd h0 hop
      | const _ => cases hop
      | global _ => cases hop
  | _ => rw [h0] at hop; cases hop
end
end
end Go.Ev
