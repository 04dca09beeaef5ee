/-
  Regions that draw their order: what is known of the operations, of the orders, of rows.
-/
import Derived.Test.YtfihakfjjoednaaGreatDoorEf
set_option linter.all false
namespace Go.Ev
section
variable {I : Itr} {F : Cal} {lo n : Nat} {h : H} {e : E} {v : V} {h' : H} {n' : Nat}
/-- An operation that does not look at the heap. -/
theorem dep_zero (i : IOp) (hi : i.dep = 0) (I : Itr) (F : Cal) (e : E) (n : Nat) : (∃ u, ∀ lo h, evOp i I F lo e h n = ret u h n) ∨ (∃ ob f, ∀ lo h, evOp i I F lo e h n = alloc ob f h n) ∨ (∀ lo h, evOp i I F lo e h n = .no) := by
  cases i with
  | bx t x =>
    have : ∀ lo h, evOp (.bx t x) I F lo e h n = boxV t (opd x e) h n := fun _ _ => rfl
    unfold boxV at this
    cases hc : (opd x e).c with
    | nil => simp only [hc] at this; exact .inr (.inr this)
    | cons a r => simp only [hc] at this; exact .inr (.inl ⟨_, _, this⟩)
  | bl t s m z ps =>
    have : ∀ lo h, evOp (.bl t s m z ps) I F lo e h n = bslice t s m z ps e h n := fun _ _ => rfl
    unfold bslice at this
    cases hc : fill ps e (rep z m) with
    | none => simp only [hc] at this; exact .inr (.inr this)
    | some c => simp only [hc] at this; exact .inr (.inl ⟨_, _, this⟩)
  | ms t s b z l c =>
    have : ∀ lo h, evOp (.ms t s b z l c) I F lo e h n = mslice t s b z (opd l e) (opd c e) h n := fun _ _ => rfl
    unfold mslice at this
    split at this
    · split at this
      · rename_i k1 m1 _ _ k2 m2 _
        cases h1 : Nat.ble m1 m2 with
        | false => simp only [h1, cond_false] at this; exact .inr (.inr this)
        | true =>
          cases h2 : Nat.ble (Nat.mul m2 b) 1048576 with
          | false => simp only [h1, h2, cond_false, cond_true] at this; exact .inr (.inr this)
          | true => simp only [h1, h2, cond_true] at this; exact .inr (.inl ⟨_, _, this⟩)
      · exact .inr (.inr this)
    · exact .inr (.inr this)
  | sb t x =>
    have : ∀ lo h, evOp (.sb t x) I F lo e h n = sbytes t (opd x e) h n := fun _ _ => rfl
    unfold sbytes at this
    split at this
    · rename_i l _
      cases h1 : Nat.ble (len l) 1048576 with
      | false => simp only [h1, cond_false] at this; exact .inr (.inr this)
      | true => simp only [h1, cond_true] at this; exact .inr (.inl ⟨_, _, this⟩)
    · exact .inr (.inr this)
  | mz t x =>
    have : ∀ lo h, evOp (.mz t x) I F lo e h n = mzero t (opd x e) h n := fun _ _ => rfl
    unfold mzero at this
    split at this
    · rename_i k m _
      split at this
      · cases h1 : Nat.ble m 1048576 with
        | false => simp only [h1, cond_false] at this; exact .inr (.inr this)
        | true => simp only [h1, cond_true] at this; exact .inr (.inl ⟨_, _, this⟩)
      · exact .inr (.inr this)
    · exact .inr (.inr this)
  | al t z => exact .inr (.inl ⟨_, _, fun _ _ => rfl⟩)
  | mk => exact .inr (.inl ⟨_, _, fun _ _ => rfl⟩)
  | bad => exact .inr (.inr fun _ _ => rfl)
  | mv x => exact .inl ⟨_, fun _ _ => rfl⟩
  | ar o x y => exact .inl ⟨_, fun _ _ => rfl⟩
  | cm o x y => exact .inl ⟨_, fun _ _ => rfl⟩
  | eq k t x y => exact .inl ⟨_, fun _ _ => rfl⟩
  | cat x y => exact .inl ⟨_, fun _ _ => rfl⟩
  | nt x => exact .inl ⟨_, fun _ _ => rfl⟩
  | pk x y z => exact .inl ⟨_, fun _ _ => rfl⟩
  | ext k x => exact .inl ⟨_, fun _ _ => rfl⟩
  | ix x y => exact .inl ⟨_, fun _ _ => rfl⟩
  | cv k x => exact .inl ⟨_, fun _ _ => rfl⟩
  | ln s x => exact .inl ⟨_, fun _ _ => rfl⟩
  | cp x => exact .inl ⟨_, fun _ _ => rfl⟩
  | mm m x y => exact .inl ⟨_, fun _ _ => rfl⟩
  | fa o x => exact .inl ⟨_, fun _ _ => rfl⟩
  | ia s x y => exact .inl ⟨_, fun _ _ => rfl⟩
  | ja m s x y => exact .inl ⟨_, fun _ _ => rfl⟩
  | s1 x l r => exact .inl ⟨_, fun _ _ => rfl⟩
  | s2 s x l r m => exact .inl ⟨_, fun _ _ => rfl⟩
  | s3 m s x l r => exact .inl ⟨_, fun _ _ => rfl⟩
  | nc x => exact .inl ⟨_, fun _ _ => rfl⟩
  | bd z ps => exact .inl ⟨_, fun _ _ => rfl⟩
  | mf f c => exact .inl ⟨_, fun _ _ => rfl⟩
  | us x => exact .inl ⟨_, fun _ _ => rfl⟩
  | _ => cases hi
/-- A load looks at one row. -/
theorem dep_one (i : IOp) (hi : i.dep = 1) : ∃ g m x, i = .ld g m x := by
  cases i with
  | ld g m x => exact ⟨g, m, x, rfl⟩
  | _ => cases hi
theorem loadV_ptr {g : Bool} {m : Nat} {x : V} (hne : loadV g m x h ≠ .er) : ∃ c o, x = .q (.o (.pt c o)) := by
  unfold loadV at hne
  split at hne
  · exact ⟨_, _, rfl⟩
  · exact absurd rfl hne
theorem loadV_row {g : Bool} {m c o : Nat} {h2 : H} (hr : hget h2 c = hget h c) : loadV g m (.q (.o (.pt c o))) h2 = loadV g m (.q (.o (.pt c o))) h := by
  have e1 : ∀ h, loadV g m (.q (.o (.pt c o))) h = (match g with
    | true => match cellsAt h c o m with
      | some c => .o (.ag c)
      | none => .er
    | false => match hget h c with
      | .row _ _ _ c => List.rec (motive := fun _ => V) .er (fun x _ _ => x.v) (dr c o)
      | _ => .er) := fun _ => rfl
  rw [e1, e1, hr]
  unfold cellsAt
  rw [hr]
/-- The modes: who may turn an old row. -/
theorem unch_spec {u : List Opd} (hu : unch u e h h' = true) : ∀ x ∈ u, ∀ c o, opd x e = .q (.o (.pt c o)) → hget h' c = hget h c := by
  induction u with
  | nil => intro x hx; cases hx
  | cons y u ih =>
    have e1 : unch (y :: u) e h h' = (match opd y e with
      | .q (.o (.pt c _)) => bif decide (hget h c = hget h' c) then unch u e h h' else false
      | _ => false) := rfl
    rw [e1] at hu
    split at hu
    · rename_i c o hy
      rw [cond_eq_ite] at hu
      split at hu
      · rename_i hd
        have hd : hget h c = hget h' c := by simpa using hd
        intro x hx c' o' hxo
        rcases List.mem_cons.1 hx with rfl | hx
        · rw [hy] at hxo; injection hxo with hxo; injection hxo with hxo; injection hxo with hxo; subst hxo; exact hd.symm
        · exact ih hu x hx c' o' hxo
      · cases hu
    · cases hu
theorem evM_cases (hF : Low F) (hlo : lo ≤ n) {m : Md} {i : IOp} (hr : evM I F lo e h n m i = .ok v h' n') :
    ∃ lo', lo ≤ lo' ∧ lo' ≤ n ∧ evOp i I F lo' e h n = .ok v h' n' ∧ (∀ id < n, hget h' id ≠ hget h id → m = .bar ∨ ∃ u, m = .sem true u ∧ unch u e h h' = true) := by
  have ext : evOp i I F n e h n = .ok v h' n' → ∃ lo', lo ≤ lo' ∧ lo' ≤ n ∧ evOp i I F lo' e h n = .ok v h' n' ∧ (∀ id < n, hget h' id ≠ hget h id → m = .bar ∨ ∃ u, m = .sem true u ∧ unch u e h h' = true) := fun hh =>
    ⟨n, hlo, Nat.le_refl _, hh, fun id hid hne => absurd ((evOp_keeps hF (Nat.le_refl _) i e v h' n' hh).2 id hid hid) hne⟩
  cases m with
  | bar => exact ⟨lo, Nat.le_refl _, hlo, hr, fun _ _ _ => .inl rfl⟩
  | ext => exact ext hr
  | sem z u =>
    have hr : (R3.rec (motive := fun _ => R3) (Bool.rec (motive := fun _ => R3) .no (semOp u e h (evOp i I F lo e h n)) z) .ok (evOp i I F n e h n) : R3) = .ok v h' n' := hr
    cases h1 : evOp i I F n e h n with
    | ok v1 h1' n1 => rw [h1] at hr; exact ext (h1.trans hr)
    | no =>
      rw [h1] at hr
      cases z with
      | false => cases hr
      | true =>
        have hr : semOp u e h (evOp i I F lo e h n) = .ok v h' n' := hr
        unfold semOp at hr
        split at hr
        · rename_i v1 h1' n1 h2
          rw [cond_eq_ite] at hr
          split at hr
          · rename_i hu
            injection hr with q1 q2 q3; subst q1; subst q2; subst q3
            exact ⟨lo, Nat.le_refl _, hlo, h2, fun _ _ _ => .inr ⟨u, rfl, hu⟩⟩
          · cases hr
        · cases hr
end
theorem cmpb_comm (b : List Nat) (i j : Nat) : cmpb b i j = cmpb b j i := by unfold cmpb; exact Bool.or_comm _ _
/-- Who may turn an old row stands before or behind each that looks at the heap, but for loads. -/
theorem trMd_spec {b : List Nat} {l : List IOp} {i : Nat} {o : IOp} (hd : o.dep = 2) {u : List Opd} (hm : trMd b l i o = .bar ∨ trMd b l i o = .sem true u) (j : Nat) (p : IOp) (hj : l[j]? = some p) (hij : j ≠ i) (hp : p.dep ≠ 0)
    (hc : cmpb b i j = false) : trMd b l i o = .sem true u ∧ p.dep = 1 ∧ j < i ∧ p.at_ ∈ u := by
  have hmem : (p, j) ∈ l.zipIdx.filter fun (p, j) => j != i && p.dep != 0 && !cmpb b i j := by
    rw [List.mem_filter]
    refine ⟨List.mem_zipIdx_iff_getElem?.2 hj, ?_⟩
    simp [hij, hp, hc]
  unfold trMd at hm ⊢
  rw [hd] at hm ⊢
  simp only at hm ⊢
  split at hm
  · rename_i heq; rw [heq] at hmem; cases hmem
  · split at hm
    · rename_i hall
      simp only [reduceCtorEq, false_or, Md.sem.injEq] at hm
      obtain ⟨h1, h2⟩ := hm
      have ha := List.all_eq_true.1 hall _ hmem
      have hb := List.all_eq_true.1 h1 _ hmem
      simp only [ble_nat, decide_eq_true_eq, beq_iff_eq] at ha hb
      refine ⟨by simp only [h1, h2], ha, by omega, ?_⟩
      rw [← h2, List.mem_map]
      exact ⟨_, hmem, rfl⟩
    · simp at hm
/-- What stands before an operation is done, where its bound edges lead to what is done, and what is done is closed so. -/
theorem before_bit (ops : Array Oper) : ∀ (i : Nat) (t : Nat), ((Region.before ops).toList.getD i 0).testBit t = true → ∃ o, ops[i]? = some o ∧ ∃ ed ∈ o.after, Region.binds .any ed = true ∧ (t = ed.on ∨ ed.on < i ∧ ((Region.before ops).toList.getD ed.on 0).testBit t = true) := by
  have key : (Region.before ops).size = ops.size ∧ ∀ i < ops.size, ∀ t, ((Region.before ops).getD i 0).testBit t = true → ∃ o, ops[i]? = some o ∧ ∃ ed ∈ o.after, Region.binds .any ed = true ∧ (t = ed.on ∨ ed.on < i ∧ ((Region.before ops).getD ed.on 0).testBit t = true) := by
    unfold Region.before
    refine Array.foldl_induction (motive := fun k (acc : Array Nat) => acc.size = k ∧ ∀ i < k, ∀ t, (acc.getD i 0).testBit t = true → ∃ o, ops[i]? = some o ∧ ∃ ed ∈ o.after, Region.binds .any ed = true ∧ (t = ed.on ∨ ed.on < i ∧ (acc.getD ed.on 0).testBit t = true)) ⟨rfl, by omega⟩ ?_
    rintro ⟨k, hk⟩ acc ⟨hs, ih⟩
    replace hs : acc.size = k := hs
    replace ih : ∀ i < k, ∀ t, (acc.getD i 0).testBit t = true → ∃ o, ops[i]? = some o ∧ ∃ ed ∈ o.after, Region.binds .any ed = true ∧ (t = ed.on ∨ ed.on < i ∧ (acc.getD ed.on 0).testBit t = true) := ih
    refine ⟨by simp [hs], ?_⟩
    intro i hi t ht
    have old : ∀ j < k, ∀ x, (acc.push x).getD j 0 = acc.getD j 0 := by
      intro j hj x
      simp only [Array.getD_eq_getD_getElem?, Array.getElem?_push]
      rw [if_neg (by omega)]
    rcases Nat.lt_or_ge i k with hik | hik
    · rw [old i hik] at ht
      obtain ⟨o, h1, ed, h2, h3, h4⟩ := ih i hik t ht
      refine ⟨o, h1, ed, h2, h3, h4.imp id fun h => ⟨h.1, ?_⟩⟩
      rw [old _ (by omega)]; exact h.2
    · have : i = k := by have : i < k + 1 := hi; omega
      subst this
      refine ⟨ops[i], Array.getElem?_eq_getElem hk, ?_⟩
      have hx : ∀ x, (acc.push x).getD i 0 = x := by intro x; rw [Array.getD_eq_getD_getElem?, Array.getElem?_push, if_pos hs.symm]; rfl
      rw [hx] at ht
      rw [← Array.foldl_toList] at ht
      have gen : ∀ (l : List Edge) (s : Nat), (l.foldl (fun s e => if Region.binds .any e then s ||| 2 ^ e.on ||| acc.getD e.on 0 else s) s).testBit t = true → s.testBit t = true ∨ ∃ ed ∈ l, Region.binds .any ed = true ∧ (t = ed.on ∨ (acc.getD ed.on 0).testBit t = true) := by
        intro l
        induction l with
        | nil => intro s hs; exact .inl hs
        | cons ed l ih2 =>
          intro s hs
          rw [List.foldl_cons] at hs
          rcases ih2 _ hs with h | ⟨ed', h1, h2, h3⟩
          · split at h
            · rename_i hb
              simp only [Nat.testBit_or, Bool.or_eq_true, Nat.testBit_two_pow, decide_eq_true_eq] at h
              rcases h with (h | h) | h
              · exact .inl h
              · exact .inr ⟨ed, by simp, hb, .inl h.symm⟩
              · exact .inr ⟨ed, by simp, hb, .inr h⟩
            · exact .inl h
          · exact .inr ⟨ed', List.mem_cons_of_mem _ h1, h2, h3⟩
      rcases gen _ _ ht with h | ⟨ed, h1, h2, h3⟩
      · simp at h
      · refine ⟨ed, by simpa using h1, h2, ?_⟩
        rcases h3 with h3 | h3
        · exact .inl h3
        · right
          rcases Nat.lt_or_ge ed.on i with hl | hl
          · exact ⟨hl, by rw [old _ hl]; exact h3⟩
          · have : acc.getD ed.on 0 = 0 := by simp [Array.getD_eq_getD_getElem?, Array.getElem?_eq_none (by omega : acc.size ≤ ed.on)]
            rw [this] at h3; simp at h3
  have hgd : ∀ i, (Region.before ops).toList.getD i 0 = (Region.before ops).getD i 0 := fun i => by simp [Array.getD_eq_getD_getElem?, List.getD_eq_getElem?_getD]
  intro i t ht
  rw [hgd] at ht
  rcases Nat.lt_or_ge i ops.size with hi | hi
  · obtain ⟨o, h1, ed, h2, h3, h4⟩ := key.2 i hi t ht
    exact ⟨o, h1, ed, h2, h3, by rw [hgd]; exact h4⟩
  · have : (Region.before ops).getD i 0 = 0 := by simp [Array.getD_eq_getD_getElem?, Array.getElem?_eq_none (by omega : (Region.before ops).size ≤ i)]
    rw [this] at ht; simp at ht
/-- Closed under the edges that bind. -/
def Shut (ops : Array Oper) (S : Nat → Prop) : Prop := ∀ j o, ops[j]? = some o → S j → ∀ ed ∈ o.after, Region.binds .any ed = true → S ed.on
theorem Shut.bit {ops : Array Oper} {S : Nat → Prop} (hS : Shut ops S) : ∀ (i : Nat), (∀ o, ops[i]? = some o → ∀ ed ∈ o.after, Region.binds .any ed = true → S ed.on) → ∀ t, ((Region.before ops).toList.getD i 0).testBit t = true → S t := by
  intro i
  induction i using Nat.strongRecOn with
  | ind i ih =>
    intro hi t ht
    obtain ⟨o, h1, ed, h2, h3, h4⟩ := before_bit ops i t ht
    rcases h4 with rfl | ⟨h4, h5⟩
    · exact hi o h1 ed h2 h3
    · exact ih ed.on h4 (fun o' ho' => hS _ o' ho' (hi o h1 ed h2 h3)) t h5
/-- What 'drawOk' says. -/
theorem drawOk_spec {ops : Array Oper} (hd : drawOk ops = true) (i : Nat) (o : Oper) (hi : ops[i]? = some o) :
    (∀ ed ∈ o.after, Region.binds .any ed = true → ed.on < i) ∧
    (∀ t ∈ o.looksAt ops, ∀ j p, ops[j]? = some p → p.dst = some t → (j < i ∧ ((Region.before ops).toList.getD i 0).testBit j = true) ∨ (i ≤ j ∧ (j = i ∨ ((Region.before ops).toList.getD j 0).testBit i = true))) ∧
    (∀ ty t, o.op = .load ty (.tmp t) → ∀ j p, ops[j]? = some p → p.dst = some t → j < i) ∧
    (∀ d, o.dst = some d → ∀ j p, ops[j]? = some p → p.dst = some d → j = i) := by
  have hgd : ∀ i, (Region.before ops).getD i 0 = (Region.before ops).toList.getD i 0 := fun i => by simp [Array.getD_eq_getD_getElem?, List.getD_eq_getElem?_getD]
  have mem : ∀ j p, ops[j]? = some p → (p, j) ∈ ops.toList.zipIdx := fun j p hj => List.mem_zipIdx_iff_getElem?.2 (by simpa using hj)
  unfold drawOk at hd
  have h := List.all_eq_true.1 hd _ (mem i o hi)
  simp only [Bool.and_eq_true, hgd] at h
  obtain ⟨⟨⟨h1, h2⟩, h3⟩, h4⟩ := h
  refine ⟨fun ed he hb => ?_, fun t ht j p hj hp => ?_, fun ty t ho j p hj hp => ?_, fun d hd j p hj hp => ?_⟩
  · rw [Array.all_eq_true_iff_forall_mem] at h1
    have := h1 ed he
    simp only [hb, Bool.not_true, Bool.false_or, ble_nat, decide_eq_true_eq] at this
    omega
  · have := List.all_eq_true.1 (List.all_eq_true.1 h2 t ht) _ (mem j p hj)
    simp only [hp, bne_self_eq_false, Bool.false_or, ble_nat, cond_eq_ite, decide_eq_true_eq] at this
    split at this
    · exact .inl ⟨by omega, this⟩
    · refine .inr ⟨by omega, ?_⟩
      simpa [Bool.or_eq_true, beq_iff_eq] using this
  · rw [ho] at h3
    have := List.all_eq_true.1 h3 _ (mem j p hj)
    simp only [hp, bne_self_eq_false, Bool.or_false, ble_nat, decide_eq_true_eq] at this
    omega
  · rw [hd] at h4
    have := List.all_eq_true.1 h4 _ (mem j p hj)
    simpa [hp, Bool.or_eq_true, beq_iff_eq] using this
end Go.Ev
namespace Go.Ev
def cutP (φ : Ph) (n : Nat) : Ph := fun id => if id < n then φ id else none
theorem cutP_sub (φ : Ph) (n : Nat) : Sub (cutP φ n) φ := fun id p h => by
  unfold cutP at h
  split at h
  · exact h
  · cases h
theorem cutP_mono {φ : Ph} {n m : Nat} (h : n ≤ m) : Sub (cutP φ n) (cutP φ m) := fun id p hp => by
  unfold cutP at hp ⊢
  split at hp
  · rw [if_pos (by omega)]; exact hp
  · cases hp
theorem cutP_ge {φ : Ph} {n id : Nat} (h : n ≤ id) : cutP φ n id = none := by
  unfold cutP
  rw [if_neg (by omega)]
theorem cutP_lt {φ : Ph} {n id : Nat} (h : id < n) : cutP φ n id = φ id := by
  unfold cutP
  rw [if_pos h]
theorem cutP_Sub {φ φ' : Ph} (h : Sub φ φ') (n : Nat) : Sub (cutP φ n) (cutP φ' n) := fun id p hp => by
  unfold cutP at hp ⊢
  split at hp
  · rw [if_pos (by omega)]; exact h _ _ hp
  · cases hp
theorem cutP_some {φ : Ph} {n id : Nat} {p : Pl} (h : cutP φ n id = some p) : id < n ∧ φ id = some p := by
  unfold cutP at h
  split at h
  · exact ⟨by omega, h⟩
  · cases h
section
variable {φ φ2 : Ph} {n : Nat} (hn : ∀ id, n ≤ id → φ id = none)
include hn
theorem num_lt {b : Nat} {p : Pl} (h : φ b = some p) : b < n := by
  rcases Nat.lt_or_ge b n with h' | h'
  · exact h'
  · rw [hn b h'] at h; cases h
theorem Q2R.fit {q : Q2} {x y : Value} (hx : Q2R φ q x) (hy : Q2R φ2 q y) : Q2R (cutP φ2 n) q y := by
  cases q with
  | ng k n => exact hy
  | sl b o n s c =>
    obtain ⟨p, _, h1, _⟩ := hx
    obtain ⟨p2, cap, h2, h3⟩ := hy
    exact ⟨p2, cap, by rw [cutP_lt (num_lt hn h1)]; exact h2, h3⟩
  | mp b =>
    obtain ⟨p, h1, _⟩ := hx
    obtain ⟨p2, h2, h3⟩ := hy
    exact ⟨p2, by rw [cutP_lt (num_lt hn h1)]; exact h2, h3⟩
  | nl z => exact hy
  | uk => exact hy
theorem Q1R.fit {q : Q1} {x y : Value} (hx : Q1R φ q x) (hy : Q1R φ2 q y) : Q1R (cutP φ2 n) q y := by
  cases q with
  | st l => exact hy
  | pt b o =>
    obtain ⟨p, h1, _⟩ := hx
    obtain ⟨p2, h2, h3⟩ := hy
    exact ⟨p2, by rw [cutP_lt (num_lt hn h1)]; exact h2, h3⟩
  | o q => exact Q2R.fit hn hx hy
theorem QR.fit {q : Q} {x y : Value} (hx : QR φ q x) (hy : QR φ2 q y) : QR (cutP φ2 n) q y := by
  cases q with
  | nt k n => exact hy
  | bo b => exact hy
  | o q => exact Q1R.fit hn hx hy
omit hn in
theorem All2.fit {α : Type} {R R2 R3 : α → Value → Prop} (h : ∀ l x y, R l x → R2 l y → R3 l y) : ∀ {c : List α} {xs ys : List Value}, All2 R c xs → All2 R2 c ys → All2 R3 c ys
  | [], [], [], _, _ => trivial
  | [], _ :: _, _, h1, _ => h1.elim
  | [], [], _ :: _, _, h2 => h2.elim
  | _ :: _, [], _, h1, _ => h1.elim
  | _ :: _, _ :: _, [], _, h2 => h2.elim
  | _ :: _, _ :: _, _ :: _, ⟨h1, h1'⟩, ⟨h2, h2'⟩ => ⟨h _ _ _ h1 h2, All2.fit h h1' h2'⟩
theorem FnR.fit {f : FuncId} {c : List Q} {x y : Value} (hx : FnR φ f c x) (hy : FnR φ2 f c y) : FnR (cutP φ2 n) f c y := by
  obtain ⟨cs, _, h1⟩ := hx
  obtain ⟨ds, h2, h3⟩ := hy
  exact ⟨ds, h2, All2.fit (R := QR φ) (R2 := QR φ2) (R3 := QR (cutP φ2 n)) (fun _ _ _ => QR.fit hn) h1 h3⟩
theorem LR.fit {l : L} {x y : Value} (hx : LR φ l x) (hy : LR φ2 l y) : LR (cutP φ2 n) l y := by
  cases l with
  | q q => exact QR.fit hn hx hy
  | fn f c => exact FnR.fit hn hx hy
theorem CR.fit {c : List L} {xs ys : List Value} (hx : CR φ c xs) (hy : CR φ2 c ys) : CR (cutP φ2 n) c ys := All2.fit (R := LR φ) (R2 := LR φ2) (R3 := LR (cutP φ2 n)) (fun _ _ _ => LR.fit hn) hx hy
theorem TR.fit {t : T0} {x y : Value} (hx : TR φ t x) (hy : TR φ2 t y) : TR (cutP φ2 n) t y := by
  obtain ⟨g, c⟩ := t
  cases g with
  | true =>
    obtain ⟨xs, _, h1⟩ := hx
    obtain ⟨ys, h2, h3⟩ := hy
    exact ⟨ys, h2, CR.fit hn h1 h3⟩
  | false =>
    match c with
    | [] => trivial
    | [l] => exact LR.fit (l := l) hn hx hy
    | _ :: _ :: _ => trivial
end
/-- A row that names numbers below 'n' alone. -/
def Fit (n : Nat) (ao : AO) : Prop := ∀ φ2 p y, OR φ2 p ao y → OR (cutP φ2 n) p ao y
theorem Fit.mono {n m : Nat} {ao : AO} (hm : n ≤ m) (h : Fit n ao) : Fit m ao := fun φ2 p y hy => (h φ2 p y hy).mono (cutP_mono hm)
theorem All2M.fit {φ φ2 : Ph} {n : Nat} (hn : ∀ id, n ≤ id → φ id = none) : ∀ {c : List ME} {xs ys : List MapEntry}, All2 (MR φ) c xs → All2 (MR φ2) c ys → All2 (MR (cutP φ2 n)) c ys
  | [], [], [], _, _ => trivial
  | [], _ :: _, _, h1, _ => h1.elim
  | [], [], _ :: _, _, h2 => h2.elim
  | _ :: _, [], _, h1, _ => h1.elim
  | _ :: _, _ :: _, [], _, h2 => h2.elim
  | _ :: _, _ :: _, _ :: _, ⟨h1, h1'⟩, ⟨h2, h2'⟩ => ⟨⟨TR.fit hn h1.1 h2.1, TR.fit hn h1.2.1 h2.2.1, h2.2.2⟩, All2M.fit hn h1' h2'⟩
theorem OR.fit {φ : Ph} {n : Nat} {p : Pl} {ao : AO} {o : Obj} (hn : ∀ id, n ≤ id → φ id = none) (ho : OR φ p ao o) : Fit n ao := by
  intro φ2 p2 y hy
  cases ao with
  | no => trivial
  | row e x f c =>
    obtain ⟨_, _, _, _, _, _, h1, _⟩ := ho
    obtain ⟨cs, fr, g1, g2, g3, g4, g5, g6⟩ := hy
    exact ⟨cs, fr, g1, g2, g3, g4, CR.fit hn h1 g5, g6⟩
  | ob a =>
    cases a with
    | mp ck es =>
      obtain ⟨_, _, h1⟩ := ho
      obtain ⟨xs, g1, g2⟩ := hy
      exact ⟨xs, g1, All2M.fit hn h1 g2⟩
    | si s i => exact hy
    | mi m =>
      obtain ⟨_, q, _, h1, _⟩ := ho
      obtain ⟨g0, q2, since, g1, g2⟩ := hy
      exact ⟨g0, q2, since, by rw [cutP_lt (num_lt hn h1)]; exact g1, g2⟩
theorem Fit.no (n : Nat) : Fit n .no := fun _ _ _ _ => trivial
/- the canonical run -/
section
variable {I : Itr} {F : Cal} {lo n : Nat} {h : H} {e : E} {h' : H} {n' : Nat} {e' : E} {r : Res}
def GY (g : Option (S × Bool)) (e : E) : Prop := ∀ y z : Res, guard g e y z .no = y
def GN (g : Option (S × Bool)) (e : E) : Prop := ∀ y z : Res, guard g e y z .no = z
theorem guard_cases (g : Option (S × Bool)) (e : E) : GY g e ∨ GN g e ∨ ∀ y z : Res, guard g e y z .no = .no := by
  cases g with
  | none => exact .inl fun _ _ => rfl
  | some q =>
    obtain ⟨p, t⟩ := q
    unfold GY GN
    simp only [guard_some]
    split
    · exact .inr (.inr fun _ _ => rfl)
    · rename_i b _
      cases hx : xor b t
      · exact .inl fun _ _ => by simp
      · exact .inr (.inl fun _ _ => by simp)
    · exact .inr (.inl fun _ _ => rfl)
/-- One operation of the canonical run. -/
def St (I : Itr) (F : Cal) (lo : Nat) (im : Im) (e : E) (h : H) (n : Nat) (e' : E) (h' : H) (n' : Nat) : Prop :=
  (GY im.i.g e ∧ ∃ v, evM I F lo e h n im.m im.i.o = .ok v h' n' ∧ e' = put im.i.d v e) ∨ (GN im.i.g e ∧ e' = put im.i.d (.o .un) e ∧ h' = h ∧ n' = n)
theorem evD_run : ∀ (l : List Im) (e : E) (h : H) (n : Nat) (r : Res), evD I F lo l e h n = r → r ≠ .no →
    ∃ (es : Nat → E) (hs : Nat → H) (ns : Nat → Nat), es 0 = e ∧ hs 0 = h ∧ ns 0 = n ∧ r = .ok .nm (es l.length) (hs l.length) (ns l.length) ∧ ns l.length ≤ 1000001 ∧
      ∀ k im, l[k]? = some im → St I F lo im (es k) (hs k) (ns k) (es (k + 1)) (hs (k + 1)) (ns (k + 1))
  | [], e, h, n, r, hr, hne => by
    have hr : (bif Nat.ble n 1000001 then Res.ok .nm e h n else .no) = r := hr
    rw [ble_nat, cond_eq_ite] at hr
    split at hr
    · rename_i hn
      exact ⟨fun _ => e, fun _ => h, fun _ => n, rfl, rfl, rfl, hr.symm, by simpa using hn, fun k im hk => by simp at hk⟩
    · exact absurd hr.symm hne
  | i :: l, e, h, n, r, hr, hne => by
    have fin : ∀ e1 h1 n1, evD I F lo l e1 h1 n1 = r → St I F lo i e h n e1 h1 n1 → ∃ (es : Nat → E) (hs : Nat → H) (ns : Nat → Nat), es 0 = e ∧ hs 0 = h ∧ ns 0 = n ∧ r = .ok .nm (es (l.length + 1)) (hs (l.length + 1)) (ns (l.length + 1)) ∧ ns (l.length + 1) ≤ 1000001 ∧
        ∀ k im, (i :: l)[k]? = some im → St I F lo im (es k) (hs k) (ns k) (es (k + 1)) (hs (k + 1)) (ns (k + 1)) := by
      intro e1 h1 n1 h2 hst
      obtain ⟨es, hs, ns, a1, a2, a3, a4, a6, a5⟩ := evD_run l e1 h1 n1 r h2 hne
      refine ⟨fun k => k.casesOn e es, fun k => k.casesOn h hs, fun k => k.casesOn n ns, rfl, rfl, rfl, a4, a6, ?_⟩
      intro k im hk
      cases k with
      | zero =>
        simp at hk; subst hk
        show St I F lo i e h n (es 0) (hs 0) (ns 0)
        rw [a1, a2, a3]; exact hst
      | succ k => exact a5 k im (by simpa using hk)
    rw [evD_cons] at hr
    rcases guard_cases i.i.g e with hg | hg | hg
    · rw [hg] at hr
      cases ho : evM I F lo e h n i.m i.i.o with
      | no => rw [ho] at hr; exact absurd hr.symm hne
      | ok v h1 n1 => rw [ho] at hr; exact fin _ _ _ hr (.inl ⟨hg, v, ho, rfl⟩)
    · rw [hg] at hr; exact fin _ _ _ hr (.inr ⟨hg, rfl, rfl, rfl⟩)
    · rw [hg] at hr; exact absurd hr.symm hne
end
/-- How many are not done. -/
def cnt (f : Nat → Bool) : Nat → Nat
  | 0 => 0
  | n + 1 => (if f n then 0 else 1) + cnt f n
theorem cnt_set {f g : Nat → Bool} {i : Nat} (hi : f i = false) (hg : ∀ j, g j = if j = i then true else f j) : ∀ n, i < n → cnt f n = cnt g n + 1
  | 0, h => by omega
  | n + 1, h => by
    have same : ∀ m ≤ i, cnt f m = cnt g m := by
      intro m
      induction m with
      | zero => intro _; rfl
      | succ m ih =>
        intro hm
        simp only [cnt]
        have hm' : m ≠ i := by omega
        rw [ih (by omega), hg m, if_neg hm']
    simp only [cnt]
    by_cases hn : n = i
    · subst hn
      rw [hg n, if_pos rfl, hi, same n (Nat.le_refl _)]
      simp; omega
    · rw [cnt_set hi hg n (by omega), hg n, if_neg hn]
      omega
theorem cnt_zero {f : Nat → Bool} : ∀ n, cnt f n = 0 → ∀ i < n, f i = true
  | 0, _, i, hi => by omega
  | n + 1, h, i, hi => by
    simp only [cnt] at h
    have h1 : f n = true := by
      by_cases hf : f n = true
      · exact hf
      · simp [hf] at h
    by_cases hin : i = n
    · subst hin; exact h1
    · exact cnt_zero n (by omega) i (by omega)
end Go.Ev
namespace Go.Ev
def qOf (T : TT) (C : CT) (N : Nat) (ops : Array Oper) : List IOp := (ops.toList.map (trIn T C N ops)).map (·.o)
def imOf (T : TT) (C : CT) (N : Nat) (ops : Array Oper) (k : Nat) (o : Oper) : Im :=
  ⟨trMd (Region.before ops).toList (qOf T C N ops) k (trIn T C N ops o).o, trIn T C N ops o⟩
/-- The canonical run of a region that draws its order. -/
structure Can (T : TT) (C : CT) (N : Nat) (I : Itr) (F : Cal) (lo : Nat) (ops : Array Oper) (es : Nat → E) (hs : Nat → H) (ns : Nat → Nat) : Prop where
  draw : drawOk ops = true
  low : Low F
  lo0 : lo ≤ ns 0
  top : ns ops.size ≤ 1000001
  st : ∀ k o, ops[k]? = some o → St I F lo (imOf T C N ops k o) (es k) (hs k) (ns k) (es (k + 1)) (hs (k + 1)) (ns (k + 1))
/-- An operation turns an old row. -/
def Ch (hs : Nat → H) (k id : Nat) : Prop := hget (hs (k + 1)) id ≠ hget (hs k) id
section
variable {T : TT} {C : CT} {N : Nat} {I : Itr} {F : Cal} {lo : Nat} {ops : Array Oper} {es : Nat → E} {hs : Nat → H} {ns : Nat → Nat}
theorem Can.mono1 (c : Can T C N I F lo ops es hs ns) : ∀ k ≤ ops.size, lo ≤ ns k ∧ ns 0 ≤ ns k ∧ (∀ j, j + 1 = k → ns j ≤ ns k) := by
  intro k
  induction k with
  | zero => intro _; exact ⟨c.lo0, Nat.le_refl _, fun j hj => by omega⟩
  | succ k ih =>
    intro hk
    obtain ⟨h1, h2, _⟩ := ih (by omega)
    have hst := c.st k _ (Array.getElem?_eq_getElem (by omega : k < ops.size))
    have hle : ns k ≤ ns (k + 1) := by
      rcases hst with ⟨_, v, hv, _⟩ | ⟨_, _, _, h4⟩
      · exact (evM_keeps c.low h1 _ _ _ v _ _ hv).1
      · omega
    exact ⟨by omega, by omega, fun j hj => by obtain rfl : j = k := by omega
                                              exact hle⟩
theorem Can.mono (c : Can T C N I F lo ops es hs ns) : ∀ {i j : Nat}, i ≤ j → j ≤ ops.size → ns i ≤ ns j := by
  intro i j hij
  induction j with
  | zero => intro _; obtain rfl : i = 0 := by omega
            exact Nat.le_refl _
  | succ j ih =>
    intro hj
    rcases Nat.lt_or_ge i (j + 1) with h | h
    · exact Nat.le_trans (ih (by omega) (by omega)) ((c.mono1 (j + 1) hj).2.2 j rfl)
    · obtain rfl : i = j + 1 := by omega
      exact Nat.le_refl _
theorem Can.le (c : Can T C N I F lo ops es hs ns) {k : Nat} (hk : k ≤ ops.size) : ns k ≤ 1000001 := Nat.le_trans (c.mono hk (Nat.le_refl _)) c.top
theorem Can.spec (c : Can T C N I F lo ops es hs ns) {k : Nat} {o : Oper} (ho : ops[k]? = some o) :
    dstOk N o = true ∧ (trIn T C N ops o).d = o.dst.map slot ∧ (trIn T C N ops o).o = trOp T C o.op ∧
    ((o.guard = none ∧ (trIn T C N ops o).g = none) ∨ ∃ j w d, o.guard = some (j, w) ∧ (ops[j]?).bind (·.dst) = some d ∧ d ≤ 255 ∧ (trIn T C N ops o).g = some (slot d, w)) := by
  have hk : k < ops.size := (Array.getElem?_eq_some_iff.1 ho).1
  rcases trIn_spec (T := T) (C := C) (N := N) (o := o) (ops := ops) with hb | h
  · exfalso
    rcases c.st k o ho with ⟨_, v, hv, _⟩ | ⟨hg, _⟩
    · obtain ⟨lo', _, _, he, _⟩ := evM_cases c.low (c.mono1 k (by omega)).1 hv
      simp only [imOf, hb] at he
      cases he
    · simp only [imOf, hb] at hg
      have := hg .no (.ok .nm e0 .nil 0)
      cases this
  · exact h
theorem Can.run (c : Can T C N I F lo ops es hs ns) {k : Nat} {o : Oper} (ho : ops[k]? = some o) :
    (GY (trIn T C N ops o).g (es k) ∧ ∃ v lo', lo ≤ lo' ∧ lo' ≤ ns k ∧ evOp (trOp T C o.op) I F lo' (es k) (hs k) (ns k) = .ok v (hs (k + 1)) (ns (k + 1)) ∧ es (k + 1) = put (o.dst.map slot) v (es k) ∧
      (∀ id < ns k, Ch hs k id → (imOf T C N ops k o).m = .bar ∨ ∃ u, (imOf T C N ops k o).m = .sem true u ∧ unch u (es k) (hs k) (hs (k + 1)) = true)) ∨
    (GN (trIn T C N ops o).g (es k) ∧ es (k + 1) = put (o.dst.map slot) (.o .un) (es k) ∧ hs (k + 1) = hs k ∧ ns (k + 1) = ns k) := by
  have hk : k < ops.size := (Array.getElem?_eq_some_iff.1 ho).1
  obtain ⟨s1, s2, s3, s4⟩ := c.spec ho
  rcases c.st k o ho with ⟨hg, v, hv, he⟩ | ⟨hg, he, hh, hn⟩
  · obtain ⟨lo', h1, h2, h3, h4⟩ := evM_cases c.low (c.mono1 k (by omega)).1 hv
    have h3 : evOp (trIn T C N ops o).o I F lo' (es k) (hs k) (ns k) = .ok v (hs (k + 1)) (ns (k + 1)) := h3
    rw [s3] at h3
    have he : es (k + 1) = put (trIn T C N ops o).d v (es k) := he
    rw [s2] at he
    exact .inl ⟨hg, v, lo', h1, h2, h3, he, h4⟩
  · have he : es (k + 1) = put (trIn T C N ops o).d (.o .un) (es k) := he
    rw [s2] at he
    exact .inr ⟨hg, he, hh, hn⟩
theorem qOf_get {k : Nat} {o : Oper} (ho : ops[k]? = some o) : (qOf T C N ops)[k]? = some (trIn T C N ops o).o := by
  unfold qOf
  simp [ho]
theorem dep_le (i : IOp) : i.dep = 0 ∨ i.dep = 1 ∨ i.dep = 2 := by cases i <;> simp [IOp.dep]
/-- Who turns an old row. -/
theorem Can.ch (c : Can T C N I F lo ops es hs ns) {k : Nat} {o : Oper} (ho : ops[k]? = some o) {id : Nat} (hid : id < ns k) (hc : Ch hs k id) :
    (trOp T C o.op).dep = 2 ∧ ∀ j p, ops[j]? = some p → j ≠ k → (trOp T C p.op).dep ≠ 0 → cmpb (Region.before ops).toList k j = false →
      (trOp T C p.op).dep = 1 ∧ j < k ∧ ∀ c o', opd (trOp T C p.op).at_ (es k) = .q (.o (.pt c o')) → hget (hs (k + 1)) c = hget (hs k) c := by
  obtain ⟨s1, s2, s3, s4⟩ := c.spec ho
  rcases c.run ho with ⟨_, v, lo', h1, h2, h3, h4, h5⟩ | ⟨_, _, h, _⟩
  · have hm := h5 id hid hc
    have hd : (trOp T C o.op).dep = 2 := by
      rcases dep_le (trOp T C o.op) with h | h | h
      · exfalso
        have : (imOf T C N ops k o).m = .ext := by
          show trMd _ _ k (trIn T C N ops o).o = _
          rw [s3]; unfold trMd; rw [h]; rfl
        rw [this] at hm
        rcases hm with h | ⟨u, h, _⟩ <;> cases h
      · exfalso
        obtain ⟨g, m, x, hx⟩ := dep_one _ h
        rw [hx] at h3
        have h3 : ret (loadV g m (opd x (es k)) (hs k)) (hs k) (ns k) = .ok v (hs (k + 1)) (ns (k + 1)) := h3
        obtain ⟨_, _, h6, _⟩ := ret_ok h3
        exact hc (by rw [h6])
      · exact h
    refine ⟨hd, fun j p hj hjk hp hcm => ?_⟩
    obtain ⟨t1, t2, t3, t4⟩ := c.spec hj
    have hm' : ∃ u, (trMd (Region.before ops).toList (qOf T C N ops) k (trOp T C o.op) = .bar ∨ trMd (Region.before ops).toList (qOf T C N ops) k (trOp T C o.op) = .sem true u) ∧ (trMd (Region.before ops).toList (qOf T C N ops) k (trOp T C o.op) = .sem true u → unch u (es k) (hs k) (hs (k + 1)) = true) := by
      have e1 : (imOf T C N ops k o).m = trMd (Region.before ops).toList (qOf T C N ops) k (trOp T C o.op) := by
        show trMd _ _ k (trIn T C N ops o).o = _
        rw [s3]
      rw [e1] at hm
      rcases hm with h | ⟨u, h, hu⟩
      · exact ⟨[], .inl h, fun h' => by rw [h] at h'; cases h'⟩
      · exact ⟨u, .inr h, fun _ => hu⟩
    obtain ⟨u, hm1, hm2⟩ := hm'
    obtain ⟨r1, r2, r3, r4⟩ := trMd_spec hd hm1 j (trOp T C p.op) (by rw [qOf_get hj, t3]) hjk hp hcm
    exact ⟨r2, r3, fun c' o' hx => unch_spec (hm2 r1) _ r4 c' o' hx⟩
  · exact absurd (by rw [h]) hc
/-- What stands before stands ahead. -/
theorem Can.bit_lt (c : Can T C N I F lo ops es hs ns) {i t : Nat} (ht : ((Region.before ops).toList.getD i 0).testBit t = true) : t < i :=
  Shut.bit (S := fun j => j < i) (fun j o hj hji ed he hb => by
    have := (drawOk_spec c.draw j o hj).1 ed he hb
    show ed.on < i
    omega) i (fun o ho ed he hb => (drawOk_spec c.draw i o ho).1 ed he hb) t ht
theorem Can.row_chain (_c : Can T C N I F lo ops es hs ns) {i id : Nat} : ∀ {τ : Nat}, i ≤ τ → (∀ k, i ≤ k → k < τ → ¬ Ch hs k id) → hget (hs τ) id = hget (hs i) id := by
  intro τ
  induction τ with
  | zero => intro h _; obtain rfl : i = 0 := by omega
            rfl
  | succ τ ih =>
    intro h hk
    rcases Nat.lt_or_ge i (τ + 1) with h' | h'
    · have := hk τ (by omega) (by omega)
      unfold Ch at this
      rw [Decidable.not_not.1 this]
      exact ih (by omega) fun k h1 h2 => hk k h1 (by omega)
    · obtain rfl : i = τ + 1 := by omega
      rfl
theorem Can.slot_step (c : Can T C N I F lo ops es hs ns) {k : Nat} {o : Oper} (ho : ops[k]? = some o) {t : Nat} (ht : t < 256) (hd : o.dst ≠ some t) : eget (slot t) (es (k + 1)) = eget (slot t) (es k) := by
  obtain ⟨s1, s2, s3, s4⟩ := c.spec ho
  have hput : ∀ v, eget (slot t) (put (o.dst.map slot) v (es k)) = eget (slot t) (es k) := by
    intro v
    cases hdst : o.dst with
    | none => rfl
    | some d =>
      obtain ⟨_, h2⟩ := dstOk_spec s1 d hdst
      show eget (slot t) (eset (slot d) v (es k)) = _
      rw [eget_eset, if_neg]
      intro hh
      exact hd (by rw [hdst, slot_inj ht (Nat.lt_succ_of_le h2) hh])
  rcases c.run ho with ⟨_, v, lo', h1, h2, h3, h4, h5⟩ | ⟨_, h, _, _⟩
  · rw [h4]; exact hput v
  · rw [h]; exact hput _
theorem Can.slot_chain (c : Can T C N I F lo ops es hs ns) {i t : Nat} (ht : t < 256) : ∀ {τ : Nat}, i ≤ τ → τ ≤ ops.size → (∀ k p, i ≤ k → k < τ → ops[k]? = some p → p.dst ≠ some t) → eget (slot t) (es τ) = eget (slot t) (es i) := by
  intro τ
  induction τ with
  | zero => intro h _ _; obtain rfl : i = 0 := by omega
            rfl
  | succ τ ih =>
    intro h hM hk
    rcases Nat.lt_or_ge i (τ + 1) with h' | h'
    · have hget : ops[τ]? = some ops[τ] := Array.getElem?_eq_getElem (by omega)
      rw [c.slot_step hget ht (hk τ _ (by omega) (by omega) hget)]
      exact ih (by omega) (by omega) fun k p h1 h2 => hk k p h1 (by omega)
    · obtain rfl : i = τ + 1 := by omega
      rfl
end
/-- The slots that are looked at, and no others. -/
noncomputable def mask (L : List Nat) (e : E) : E := L.foldr (fun t m => if t < 256 then eset (slot t) (eget (slot t) e) m else m) e0
theorem eget_mask {e : E} {t : Nat} (ht : t < 256) : ∀ (L : List Nat), eget (slot t) (mask L e) = if t ∈ L then eget (slot t) e else .er
  | [] => by simp [mask, eget_e0]
  | s :: L => by
    have ih := eget_mask (e := e) ht L
    show eget (slot t) (if s < 256 then eset (slot s) (eget (slot s) e) (mask L e) else mask L e) = _
    by_cases hs : s < 256
    · rw [if_pos hs, eget_eset]
      by_cases hst : t = s
      · subst hst; simp
      · rw [if_neg (fun hh => hst (slot_inj ht hs hh)), ih]
        simp [hst]
    · rw [if_neg hs, ih]
      have : t ≠ s := by omega
      simp [this]
theorem opd_mask {o : Oper} {ops : Array Oper} {T : TT} {C : CT} {e : E} : ∀ y ∈ (trOp T C o.op).opds, opd y (mask (o.looksAt ops) e) = opd y e := by
  intro y hy
  obtain ⟨x, hx, rfl⟩ := trOp_opds o.op y hy
  cases x with
  | tmp t =>
    simp only [trO, ble_nat, cond_eq_ite, decide_eq_true_eq]
    split
    · rename_i ht
      show eget (slot t) (mask (o.looksAt ops) e) = eget (slot t) e
      rw [eget_mask (by omega), if_pos]
      exact List.mem_append_left _ (List.mem_filterMap.2 ⟨.tmp t, hx, rfl⟩)
    · rfl
  | const v => rfl
  | global g => simp only [trO]; cases Nat.ble g 7 <;> rfl
  | func f => rfl
end Go.Ev
namespace Go.Ev
def Done (listed : Array Bool) (j : Nat) : Prop := listed.getD j false = true
theorem done_set {listed : Array Bool} {i j : Nat} (hi : i < listed.size) : Done (listed.setIfInBounds i true) j ↔ j = i ∨ Done listed j := by
  unfold Done
  by_cases h : j = i
  · subst h
    simp [Array.getD_eq_getD_getElem?, hi]
  · have h' : i ≠ j := fun e => h e.symm
    simp [Array.getD_eq_getD_getElem?, Array.getElem?_setIfInBounds_ne h', h]
/-- What is true between two operations of a region that draws its order. -/
structure Inv (N lo : Nat) (ops : Array Oper) (es : Nat → E) (hs : Nat → H) (ns : Nat → Nat) (φ0 : Ph) (w0 : World) (listed : Array Bool) (φ : Ph) (g : Nat → AO) (a : Act) (w : World) : Prop where
  sz : listed.size = ops.size
  shut : Shut ops (Done listed)
  tsz : a.tmps.size = N
  df : a.defers = []
  dom : ∀ id p, φ id = some p → id < ns 0 ∨ ∃ j, j < ops.size ∧ Done listed j ∧ ns j ≤ id ∧ id < ns (j + 1)
  old : ∀ id < ns 0, φ id = φ0 id
  rep : Rep φ g w
  row : ∀ id, φ id ≠ none → ∀ τ ≤ ops.size, id < ns τ → (∀ k < ops.size, id < ns k → Ch hs k id → (Done listed k ↔ k < τ)) → g id = hget (hs τ) id ∧ Fit (ns τ) (hget (hs τ) id)
  val : ∀ t < 256, ∀ i ≤ ops.size, (∀ j p, ops[j]? = some p → p.dst = some t → (Done listed j ↔ j < i)) → VR (cutP φ (ns i)) (eget (slot t) (es i)) (a.tmps.getD t undef)
  new : ∀ id p, ns 0 ≤ id → φ id = some p → w0.heap.size ≤ p.b ∨ Own lo φ0 (hget (hs 0)) p.b
  dead : ∀ id < ns 0, φ0 id ≠ none → hget (hs 0) id = .no → g id = .no
  abs : ∀ k < ops.size, Done listed k → ∀ id < ns 0, φ0 id = none → ¬ Ch hs k id
  far : ∀ k < ops.size, Done listed k → ∀ i < ops.size, ¬ Done listed i → ∀ id, ns i ≤ id → id < ns (i + 1) → id < ns k → ¬ Ch hs k id
  fr : ∀ b < w0.heap.size, ¬ Own lo φ0 (hget (hs 0)) b → w.heap[b]? = w0.heap[b]?
  szw : w0.heap.size ≤ w.heap.size
  io : w.os = w0.os ∧ w.output = w0.output
section
variable {T : TT} {C : CT} {N : Nat} {I : Itr} {F : Cal} {lo : Nat} {ops : Array Oper} {es : Nat → E} {hs : Nat → H} {ns : Nat → Nat} {φ0 : Ph} {w0 : World} {listed : Array Bool} {φ : Ph} {g : Nat → AO} {a : Act} {w : World}
theorem Inv.clear (c : Can T C N I F lo ops es hs ns) (hv : Inv N lo ops es hs ns φ0 w0 listed φ g a w) {i : Nat} (hi : i < ops.size) (hni : ¬ Done listed i) {id : Nat} (h1 : ns i ≤ id) (h2 : id < ns (i + 1)) : φ id = none := by
  cases hp : φ id with
  | none => rfl
  | some p =>
    exfalso
    rcases hv.dom id p hp with h | ⟨j, hj, hd, h3, h4⟩
    · have := c.mono (Nat.zero_le i) (by omega); omega
    · rcases Nat.lt_trichotomy j i with h | rfl | h
      · have := c.mono (by omega : j + 1 ≤ i) (by omega); omega
      · exact hni hd
      · have := c.mono (by omega : i + 1 ≤ j) (by omega); omega
theorem Inv.own (hv : Inv N lo ops es hs ns φ0 w0 listed φ g a w) {m lo' : Nat} (hlo : lo ≤ lo') {h2 : Nat → AO} (u4 : ∀ id < m, φ id ≠ .none → h2 id ≠ .no → h2 id = g id) {b : Nat} (ho : Own lo' (cutP φ m) h2 b) :
    w0.heap.size ≤ b ∨ Own lo φ0 (hget (hs 0)) b := by
  obtain ⟨id, q, q1, q2, q3, rfl⟩ := ho
  obtain ⟨hlt, hq⟩ := cutP_some q2
  rcases Nat.lt_or_ge id (ns 0) with h0 | h0
  · right
    have hq0 : φ0 id = some q := by rw [← hv.old id h0]; exact hq
    refine ⟨id, q, by omega, hq0, fun hno => q3 ?_, rfl⟩
    rw [u4 id hlt (by rw [hq]; simp) q3]
    exact hv.dead id h0 (by rw [hq0]; simp) hno
  · exact hv.new id q h0 hq
/-- One operation more. -/
theorem Inv.next (c : Can T C N I F lo ops es hs ns) (hv : Inv N lo ops es hs ns φ0 w0 listed φ g a w) {i : Nat} {o : Oper} (ho : ops[i]? = some o) (hni : ¬ Done listed i)
    (hrdy : ∀ ed ∈ o.after, Region.binds .any ed = true → Done listed ed.on) {ψ : Ph} {h2 h2' : Nat → AO} {v : V} {x : Value} {w' : World} {lo' : Nat} (hlo : lo ≤ lo')
    (u1 : VR ψ v x) (u2 : Rep ψ h2' w') (u3 : Stp lo' (cutP φ (ns i)) h2 (ns i) w ψ h2' (ns (i + 1)) w')
    (u4 : ∀ id < ns i, φ id ≠ .none → h2 id ≠ .no → h2 id = g id)
    (u5 : ∀ id, ns i ≤ id → id < ns (i + 1) → h2' id = hget (hs (i + 1)) id)
    (u6 : ∀ id < ns i, φ id ≠ .none → h2 id ≠ .no → h2' id = hget (hs (i + 1)) id ∧ g id = hget (hs i) id)
    (u6b : ∀ id < ns i, φ id ≠ .none → h2 id = .no → ¬ Ch hs i id)
    (u7 : ∀ id < ns i, φ id = .none → ¬ Ch hs i id)
    (hes : es (i + 1) = put (o.dst.map slot) v (es i)) :
    ∃ φ' g', Inv N lo ops es hs ns φ0 w0 (listed.setIfInBounds i true) φ' g' (a.put o.dst x) w' := by
  have hi : i < ops.size := (Array.getElem?_eq_some_iff.1 ho).1
  have hds : ∀ {j}, Done (listed.setIfInBounds i true) j ↔ j = i ∨ Done listed j := fun {j} => done_set (by rw [hv.sz]; exact hi)
  have h0i : ns 0 ≤ ns i := c.mono (Nat.zero_le _) (by omega)
  have hi1 : ns i ≤ ns (i + 1) := c.mono (by omega) (by omega)
  have hψlt : ∀ id < ns i, ψ id = φ id := fun id hid => by rw [u3.old id hid, cutP_lt hid]
  have hψge : ∀ id, ns (i + 1) ≤ id → ψ id = .none := u3.dom.1
  have hnone : ∀ id, ns i ≤ id → id < ns (i + 1) → φ id = .none := fun id h1 h2 => hv.clear c hi hni h1 h2
  let φ' : Ph := fun id => if ns i ≤ id ∧ id < ns (i + 1) then ψ id else φ id
  let g' : Nat → AO := fun id => if (ns i ≤ id ∧ id < ns (i + 1)) ∨ (id < ns i ∧ h2 id ≠ .no) then h2' id else g id
  have hφ1 : ∀ id, ns i ≤ id → id < ns (i + 1) → φ' id = ψ id := fun id h1 h2 => if_pos ⟨h1, h2⟩
  have hφ2 : ∀ id, ¬ (ns i ≤ id ∧ id < ns (i + 1)) → φ' id = φ id := fun id h => if_neg h
  have hg1 : ∀ id, ns i ≤ id → id < ns (i + 1) → g' id = h2' id := fun id h1 h2 => if_pos (.inl ⟨h1, h2⟩)
  have hg2 : ∀ id, id < ns i → h2 id ≠ .no → g' id = h2' id := fun id h1 h2 => if_pos (.inr ⟨h1, h2⟩)
  have hg3 : ∀ id, ¬ (ns i ≤ id ∧ id < ns (i + 1)) → ¬ (id < ns i ∧ h2 id ≠ .no) → g' id = g id := fun id h1 h2 => if_neg (by rintro (h | h); exact h1 h; exact h2 h)
  have hsub : Sub φ φ' := by
    intro id p hp
    by_cases h : ns i ≤ id ∧ id < ns (i + 1)
    · rw [hnone id h.1 h.2] at hp; cases hp
    · rw [hφ2 id h]; exact hp
  have hsubψ : Sub ψ (cutP φ' (ns (i + 1))) := by
    intro id p hp
    have hlt : id < ns (i + 1) := by
      rcases Nat.lt_or_ge id (ns (i + 1)) with h | h
      · exact h
      · rw [hψge id h] at hp; cases hp
    rw [cutP_lt hlt]
    by_cases h : ns i ≤ id
    · rw [hφ1 id h hlt]; exact hp
    · rw [hφ2 id (fun hh => h hh.1), ← hψlt id (by omega)]; exact hp
  have hsubψ' : Sub ψ φ' := fun id p hp => cutP_sub _ _ id p (hsubψ id p hp)
  have hcc : ∀ k id, k < ops.size → i < k → id < ns i → Ch hs i id → Ch hs k id → Done listed k → False := by
    intro k id hk hik hid hci hck hdk
    have hok : ops[k]? = some ops[k] := Array.getElem?_eq_getElem hk
    have hidk : id < ns k := Nat.lt_of_lt_of_le hid (c.mono (by omega) (by omega))
    have ci := c.ch ho hid hci
    have ck := c.ch hok hidk hck
    cases hcm : cmpb (Region.before ops).toList k i with
    | false =>
      have := (ck.2 i o ho (by omega) (by rw [ci.1]; decide) hcm).1
      rw [ci.1] at this; cases this
    | true =>
      unfold cmpb at hcm
      rw [Bool.or_eq_true] at hcm
      rcases hcm with h | h
      · exact hni (hv.shut.bit k (fun o' ho' => hv.shut k o' ho' hdk) i h)
      · have := c.bit_lt h; omega
  refine ⟨φ', g', ⟨by simp [hv.sz], ?_, ?_, ?_, ?_, ?_, ?_, ?_, ?_, ?_, ?_, ?_, ?_, ?_, ?_, ?_⟩⟩
  · -- shut
    intro j p hj hd ed he hb
    rcases hds.1 hd with rfl | hd
    · rw [ho] at hj; injection hj with hj; subst hj
      exact hds.2 (.inr (hrdy ed he hb))
    · exact hds.2 (.inr (hv.shut j p hj hd ed he hb))
  · cases o.dst <;> simp [Act.put, hv.tsz]
  · cases o.dst <;> simp [Act.put, hv.df]
  · -- dom
    intro id p hp
    by_cases h : ns i ≤ id ∧ id < ns (i + 1)
    · exact .inr ⟨i, hi, hds.2 (.inl rfl), h.1, h.2⟩
    · rw [hφ2 id h] at hp
      exact (hv.dom id p hp).imp (fun h => h) fun ⟨j, h1, h2, h3⟩ => ⟨j, h1, hds.2 (.inr h2), h3⟩
  · -- old
    intro id hid
    rw [hφ2 id (fun h => by omega)]
    exact hv.old id hid
  · -- rep
    have alive : ∀ id p, φ' id = some p → g' id ≠ .no → ∃ o', w'.heap[p.b]? = some o' ∧ OR φ' p (g' id) o' := fun id p hp hne => by
      by_cases h : (ns i ≤ id ∧ id < ns (i + 1)) ∨ (id < ns i ∧ h2 id ≠ .no)
      · have hψ : ψ id = some p := by
          rcases h with h | h
          · rw [hφ1 id h.1 h.2] at hp; exact hp
          · rw [hφ2 id (fun hh => by omega)] at hp; rw [hψlt id h.1]; exact hp
        have hg : g' id = h2' id := if_pos h
        obtain ⟨o', h1, h3⟩ := u2.obj id p hψ
        exact ⟨o', h1, by rw [hg]; exact h3.mono hsubψ'⟩
      · have hg : g' id = g id := if_neg h
        have hn : ¬ (ns i ≤ id ∧ id < ns (i + 1)) := fun hh => h (.inl hh)
        rw [hφ2 id hn] at hp
        rw [hg] at hne ⊢
        obtain ⟨o', h1, h3⟩ := hv.rep.obj id p hp
        have hb : p.b < w.heap.size := (Array.getElem?_eq_some_iff.1 h1).1
        refine ⟨o', ?_, h3.mono hsub⟩
        rw [u3.fr p.b hb, h1]
        rintro ⟨id2, q, q1, q2, q3, q4⟩
        obtain ⟨r1, r2⟩ := cutP_some q2
        have hg2 : g id2 ≠ .no := by rw [← u4 id2 r1 (by rw [r2]; simp) q3]; exact q3
        obtain rfl := hv.rep.inj id id2 p q hp r2 hne hg2 q4.symm
        exact h (.inr ⟨r1, q3⟩)
    refine ⟨fun id p hp => ?_, ?_⟩
    · by_cases hne : g' id = .no
      · rw [hne]
        by_cases h : ns i ≤ id ∧ id < ns (i + 1)
        · rw [hφ1 id h.1 h.2] at hp
          obtain ⟨o', h1, _⟩ := u2.obj id p hp
          exact ⟨o', h1, trivial⟩
        · rw [hφ2 id h] at hp
          obtain ⟨o', h1, _⟩ := hv.rep.obj id p hp
          have hb : p.b < w.heap.size := (Array.getElem?_eq_some_iff.1 h1).1
          exact ⟨_, Array.getElem?_eq_getElem (Nat.lt_of_lt_of_le hb u3.sz), trivial⟩
      · exact alive id p hp hne
    · -- inj: kinds of numbers
      have kind : ∀ id p, φ' id = some p → g' id ≠ .no → (ψ id = some p ∧ h2' id ≠ .no ∧ ((ns i ≤ id ∧ id < ns (i + 1)) ∨ (id < ns i ∧ h2 id ≠ .no ∧ φ id = some p ∧ g id ≠ .no))) ∨
          (φ id = some p ∧ g id ≠ .no ∧ ¬ (id < ns i ∧ h2 id ≠ .no)) := by
        intro id p hp hne
        by_cases h : ns i ≤ id ∧ id < ns (i + 1)
        · rw [hφ1 id h.1 h.2] at hp
          rw [hg1 id h.1 h.2] at hne
          exact .inl ⟨hp, hne, .inl h⟩
        · rw [hφ2 id h] at hp
          by_cases h' : id < ns i ∧ h2 id ≠ .no
          · rw [hg2 id h'.1 h'.2] at hne
            exact .inl ⟨by rw [hψlt id h'.1]; exact hp, hne, .inr ⟨h'.1, h'.2, hp, by rw [← u4 id h'.1 (by rw [hp]; simp) h'.2]; exact h'.2⟩⟩
          · rw [hg3 id h h'] at hne
            exact .inr ⟨hp, hne, h'⟩
      have cross : ∀ id id2 p q, ψ id = some p → ((ns i ≤ id ∧ id < ns (i + 1)) ∨ (id < ns i ∧ h2 id ≠ .no ∧ φ id = some p ∧ g id ≠ .no)) → φ id2 = some q → g id2 ≠ .no → ¬ (id2 < ns i ∧ h2 id2 ≠ .no) → p.b = q.b → False := by
        intro id id2 p q hp hk hq hne hnot hb
        rcases hk with ⟨k1, k2⟩ | ⟨k1, k2, k3, k4⟩
        · obtain ⟨o', h1, _⟩ := hv.rep.obj id2 q hq
          have hbq : q.b < w.heap.size := (Array.getElem?_eq_some_iff.1 h1).1
          rcases u3.new id p k1 hp with h | ⟨id3, q3, r1, r2, r3, r4⟩
          · omega
          · obtain ⟨s1, s2⟩ := cutP_some r2
            have hg3' : g id3 ≠ .no := by rw [← u4 id3 s1 (by rw [s2]; simp) r3]; exact r3
            obtain rfl := hv.rep.inj id2 id3 q q3 hq s2 hne hg3' (by rw [r4, hb])
            exact hnot ⟨s1, r3⟩
        · obtain rfl := hv.rep.inj id id2 p q k3 hq k4 hne hb
          exact hnot ⟨k1, k2⟩
      intro id id2 p q hp hq hne hne2 hb
      rcases kind id p hp hne with ⟨a1, a2, a3⟩ | ⟨a1, a2, a3⟩
      · rcases kind id2 q hq hne2 with ⟨b1, b2, b3⟩ | ⟨b1, b2, b3⟩
        · exact u2.inj id id2 p q a1 b1 a2 b2 hb
        · exact (cross id id2 p q a1 a3 b1 b2 b3 hb).elim
      · rcases kind id2 q hq hne2 with ⟨b1, b2, b3⟩ | ⟨b1, b2, b3⟩
        · exact (cross id2 id q p b1 b3 a1 a2 a3 hb.symm).elim
        · exact hv.rep.inj id id2 p q a1 b1 a2 b2 hb
  · -- row
    intro id hid τ hτ hlt hcond
    have fit : ∀ p, ψ id = some p → Fit (ns (i + 1)) (h2' id) := fun p hp => by
      obtain ⟨o', _, h3⟩ := u2.obj id p hp
      exact OR.fit hψge h3
    by_cases hnew : ns i ≤ id ∧ id < ns (i + 1)
    · have hiτ : i + 1 ≤ τ := by
        rcases Nat.lt_or_ge i τ with h | h
        · omega
        · have := c.mono h (by omega); omega
      have hch : hget (hs τ) id = hget (hs (i + 1)) id := c.row_chain hiτ fun k h1 h2 hc => by
        have hidk : id < ns k := Nat.lt_of_lt_of_le hnew.2 (c.mono h1 (by omega))
        have hdk := (hcond k (by omega) hidk hc).2 h2
        rcases hds.1 hdk with rfl | hdk
        · omega
        · exact hv.far k (by omega) hdk i hi hni id hnew.1 hnew.2 hidk hc
      rw [hch, hg1 id hnew.1 hnew.2, ← u5 id hnew.1 hnew.2]
      rw [hφ1 id hnew.1 hnew.2] at hid
      obtain ⟨p, hp⟩ := Option.ne_none_iff_exists'.1 hid
      exact ⟨rfl, (fit p hp).mono (c.mono hiτ hτ)⟩
    · rw [hφ2 id hnew] at hid
      by_cases hch : id < ns i ∧ Ch hs i id
      · have hne : h2 id ≠ .no := fun h => u6b id hch.1 hid h hch.2
        have hiτ : i < τ := (hcond i hi hch.1 hch.2).1 (hds.2 (.inl rfl))
        have hcn : hget (hs τ) id = hget (hs (i + 1)) id := c.row_chain hiτ fun k h1 h2 hc => by
          have hidk : id < ns k := Nat.lt_of_lt_of_le hch.1 (c.mono (by omega) (by omega))
          have hdk := (hcond k (by omega) hidk hc).2 h2
          rcases hds.1 hdk with rfl | hdk
          · omega
          · exact hcc k id (by omega) (by omega) hch.1 hch.2 hc hdk
        rw [hcn, hg2 id hch.1 hne, ← (u6 id hch.1 hid hne).1]
        obtain ⟨p, hp⟩ := Option.ne_none_iff_exists'.1 hid
        exact ⟨rfl, (fit p (by rw [hψlt id hch.1]; exact hp)).mono (c.mono hiτ hτ)⟩
      · have hgg : g' id = g id := by
          by_cases h : id < ns i ∧ h2 id ≠ .no
          · rw [hg2 id h.1 h.2, (u6 id h.1 hid h.2).1, (u6 id h.1 hid h.2).2]
            exact Decidable.not_not.1 fun hc => hch ⟨h.1, hc⟩
          · exact hg3 id hnew h
        rw [hgg]
        refine hv.row id hid τ hτ hlt fun k hk hidk hc => ?_
        have hki : k ≠ i := fun h => hch (by subst h; exact ⟨hidk, hc⟩)
        rw [← hcond k hk hidk hc, hds]
        exact ⟨.inr, fun h => h.resolve_left hki⟩
  · -- val
    intro t ht m hm hcond
    by_cases hd : o.dst = some t
    · have him : i < m := (hcond i o ho hd).1 (hds.2 (.inl rfl))
      have hsl : eget (slot t) (es m) = v := by
        rw [c.slot_chain ht (i := i + 1) him hm fun k p h1 h2 hk hp => by
          have := (drawOk_spec c.draw i o ho).2.2.2 t hd k p hk hp
          omega]
        rw [hes, hd]
        show eget (slot t) (eset (slot t) v (es i)) = v
        rw [eget_eset, if_pos rfl]
      have htm : (a.put o.dst x).tmps.getD t undef = x := by
        rw [hd]
        show (a.tmps.setIfInBounds t x).getD t undef = x
        rw [getD_set _ _ _ _ (by rw [hv.tsz]; exact (dstOk_spec (c.spec ho).1 t hd).1), if_pos rfl]
      rw [hsl, htm]
      exact (u1.mono hsubψ).mono (cutP_mono (c.mono him hm))
    · have htm : (a.put o.dst x).tmps.getD t undef = a.tmps.getD t undef := by
        cases hdst : o.dst with
        | none => rfl
        | some d =>
          have hne : t ≠ d := fun h => hd (by rw [hdst, h])
          show (a.tmps.setIfInBounds d x).getD t undef = _
          rw [getD_set _ _ _ _ (by rw [hv.tsz]; exact (dstOk_spec (c.spec ho).1 d hdst).1), if_neg hne]
      rw [htm]
      refine (hv.val t ht m hm fun j p hj hp => ?_).mono (cutP_Sub hsub _)
      have hji : j ≠ i := fun h => by subst h; rw [ho] at hj; injection hj with hj; subst hj; exact hd hp
      rw [← hcond j p hj hp, hds]
      exact ⟨.inr, fun h => h.resolve_left hji⟩
  · -- new
    intro id p hid hp
    by_cases h : ns i ≤ id ∧ id < ns (i + 1)
    · rw [hφ1 id h.1 h.2] at hp
      rcases u3.new id p h.1 hp with h3 | h3
      · exact .inl (Nat.le_trans hv.szw h3)
      · exact hv.own hlo u4 h3
    · rw [hφ2 id h] at hp
      exact hv.new id p hid hp
  · -- dead
    intro id hid h1 h3
    have hg := hv.dead id hid h1 h3
    have hold : φ id ≠ .none := by rw [hv.old id hid]; exact h1
    rw [hg3 id (fun h => by omega) fun h => h.2 (by rw [u4 id h.1 hold h.2]; exact hg)]
    exact hg
  · -- abs
    intro k hk hdk id hid h0
    rcases hds.1 hdk with rfl | hdk
    · exact u7 id (by omega) (by rw [hv.old id hid]; exact h0)
    · exact hv.abs k hk hdk id hid h0
  · -- far
    intro k hk hdk j hj hnj id h1 h3 h4
    have hnj' : ¬ Done listed j := fun h => hnj (hds.2 (.inr h))
    rcases hds.1 hdk with rfl | hdk
    · exact u7 id h4 (hv.clear c hj hnj' h1 h3)
    · exact hv.far k hk hdk j hj hnj' id h1 h3 h4
  · -- fr
    intro b hb hn
    rw [u3.fr b (Nat.lt_of_lt_of_le hb hv.szw) fun h => by
      rcases hv.own hlo u4 h with h | h
      · omega
      · exact hn h]
    exact hv.fr b hb hn
  · exact Nat.le_trans hv.szw u3.sz
  · exact ⟨u3.io.1.trans hv.io.1, u3.io.2.trans hv.io.2⟩
end
end Go.Ev
