/-
  Code: regions in one order, control, loops.
-/
import Derived.Test.YtfihakfjjoednaaGreatDoorEe
import Derived.Scope
set_option linter.all false
namespace Go.Ev
section
variable {P : Program} {T : TT} {C : CT} {φ : Ph} {w : World} {e : E} {a : Act} {o : Oper} {h : H} {lo n N : Nat} {I : Itr} {F : Cal} {v : V} {h' : H} {n' : Nat}
/-- A frame's slots, and nothing deferred. -/
structure AR (N : Nat) (φ : Ph) (e : E) (a : Act) : Prop where
  sr : SR φ e a
  sz : a.tmps.size = N
  df : a.defers = []
theorem SR.mono {φ' : Ph} (hs : Sub φ φ') (h : SR φ e a) : SR φ' e a := fun t ht => (h t ht).mono hs
theorem AR.mono {φ' : Ph} (hs : Sub φ φ') (h : AR N φ e a) : AR N φ' e a := ⟨h.sr.mono hs, h.sz, h.df⟩
theorem GOk.mono {φ' : Ph} (hs : Sub φ φ') (h : GOk φ) : GOk φ' := fun g hg => let ⟨l, hl⟩ := h g hg; ⟨l, hs _ _ hl⟩
theorem put_none (a : Act) (x : Value) : a.put none x = a := rfl
theorem getD_set (as : Array Value) (d t : Nat) (x : Value) (hd : d < as.size) : (as.setIfInBounds d x).getD t undef = if t = d then x else as.getD t undef := by
  simp only [Array.getD_eq_getD_getElem?, Array.getElem?_setIfInBounds]
  by_cases h : d = t
  · subst h; simp [hd]
  · simp [h, Ne.symm h]
theorem AR.put (h : AR N φ e a) {d : Option Tmp} (hd : ∀ t, d = some t → t < N ∧ t ≤ 255) {x : Value} (hv : VR φ v x) : AR N φ (put (d.map slot) v e) (a.put d x) := by
  cases d with
  | none => exact h
  | some d =>
    obtain ⟨h1, h2⟩ : d < N ∧ d ≤ 255 := hd d rfl
    refine ⟨fun t ht => ?_, by simp [Act.put, h.sz], h.df⟩
    show VR φ (eget (slot t) (eset (slot d) v e)) ((a.tmps.setIfInBounds d x).getD t undef)
    rw [eget_eset, getD_set _ _ _ _ (by rw [h.sz]; exact h1)]
    by_cases htd : t = d
    · subst htd; simp [hv]
    · have : slot t ≠ slot d := fun hh => htd (slot_inj ht (Nat.lt_succ_of_le h2) hh)
      simp only [this, htd, if_false]
      exact h.sr t ht
theorem VR_un (φ : Ph) : VR φ (.o .un) undef := rfl
theorem dstOk_spec (h : dstOk N o = true) : ∀ t, o.dst = some t → t < N ∧ t ≤ 255 := by
  intro t ht
  unfold dstOk at h
  rw [ht] at h
  simp only [ble_nat, Bool.and_eq_true, decide_eq_true_eq] at h
  exact ⟨h.1, h.2⟩
theorem trIn_spec {ops : Array Oper} : (trIn T C N ops o = ⟨none, none, .bad⟩) ∨ (dstOk N o = true ∧ (trIn T C N ops o).d = o.dst.map slot ∧ (trIn T C N ops o).o = trOp T C o.op ∧
    ((o.guard = none ∧ (trIn T C N ops o).g = none) ∨ ∃ j w d, o.guard = some (j, w) ∧ (ops[j]?).bind (·.dst) = some d ∧ d ≤ 255 ∧ (trIn T C N ops o).g = some (slot d, w))) := by
  unfold trIn
  cases hd : dstOk N o with
  | false => exact .inl rfl
  | true =>
    rw [cond_true]
    cases hg : o.guard with
    | none => exact .inr ⟨rfl, rfl, rfl, .inl ⟨rfl, rfl⟩⟩
    | some q =>
      obtain ⟨j, w⟩ := q
      cases hd2 : (ops[j]?).bind (·.dst) with
      | none => simp [hd2]
      | some d =>
        simp only [hd2, ble_nat]
        by_cases h255 : d ≤ 255
        · simp only [h255, decide_true, cond_true]
          exact .inr ⟨trivial, trivial, trivial, .inr ⟨j, w, d, rfl, hd2, h255, rfl⟩⟩
        · simp only [h255, decide_false, cond_false]
          exact .inl trivial
theorem VR_bool {b : Bool} (h : VR φ v (.bool b)) : v = .er ∨ v = .bo b := by
  cases v with
  | er => exact .inl rfl
  | q q =>
    cases q with
    | nt k n => cases h.1
    | bo c =>
      have h : Value.bool b = .bool c := h
      injection h with h
      subst h; exact .inr rfl
    | o q =>
      cases q with
      | st l => obtain ⟨s, hs, _⟩ := h; cases hs
      | pt b o => obtain ⟨p, _, hs⟩ := h; cases hs
      | o q =>
        cases q with
        | ng k n => cases h.1
        | sl b o n s c => obtain ⟨p, cap, _, hs, _⟩ := h; cases hs
        | mp b => obtain ⟨p, _, hs⟩ := h; cases hs
        | nl z => cases z <;> cases h
        | uk => obtain ⟨_, _, hs⟩ := h; cases hs
  | o x =>
    cases x with
    | ag c => obtain ⟨_, hs, _⟩ := h; cases hs
    | tu ts => obtain ⟨_, hs, _⟩ := h; cases hs
    | fn f c => obtain ⟨_, hs, _⟩ := h; cases hs
    | un => cases h
theorem guard_some (p : S) (t : Bool) (e : E) (yes no bad : Res) : guard (some (p, t)) e yes no bad = (match eget p e with
    | .er => bad
    | .q (.bo b) => bif xor b t then no else yes
    | _ => no) := rfl
/-- What a guard says. -/
theorem guard_spec {ops : Array Oper} {g : Option (S × Bool)} (hsr : ∀ j w d, o.guard = some (j, w) → (ops[j]?).bind (·.dst) = some d → VR φ (eget (slot d) e) (a.tmps.getD d undef))
    (hg : (o.guard = none ∧ g = none) ∨ ∃ j w d, o.guard = some (j, w) ∧ (ops[j]?).bind (·.dst) = some d ∧ d ≤ 255 ∧ g = some (slot d, w)) {yes no : Res} {x : Ex} {e' : E} {h' : H} {n' : Nat} (hgd : guard g e yes no .no = .ok x e' h' n') :
    (Region.wanted o (yielded ops a.tmps) = true ∧ guard g e yes no .no = yes) ∨ (Region.wanted o (yielded ops a.tmps) = false ∧ guard g e yes no .no = no) := by
  rcases hg with ⟨h1, rfl⟩ | ⟨j, w, d, h1, h2, h3, rfl⟩
  · exact .inl ⟨by simp [Region.wanted, h1], rfl⟩
  · have hv := hsr j w d h1 h2
    have hy : yielded ops a.tmps j = match a.tmps[d]? with
      | some (.bool b) => some b
      | _ => none := by
      unfold yielded
      rw [h2]; rfl
    have hw : Region.wanted o (yielded ops a.tmps) = (yielded ops a.tmps j == some w) := by simp [Region.wanted, h1]
    cases hb : a.tmps[d]? with
    | none =>
      rw [hb] at hy
      right
      refine ⟨by rw [hw, hy]; rfl, ?_⟩
      have hu : a.tmps.getD d undef = undef := by simp [Array.getD_eq_getD_getElem?, hb]
      rw [hu] at hv
      rw [guard_some] at hgd ⊢
      cases hq : eget (slot d) e with
      | er => simp [hq] at hgd
      | q q =>
        cases q with
        | bo b => rw [hq] at hv; cases hv
        | _ => simp [hq]
      | o _ => simp [hq]
    | some y =>
      have hu : a.tmps.getD d undef = y := by simp [Array.getD_eq_getD_getElem?, hb]
      rw [hu] at hv
      rw [guard_some] at hgd ⊢
      by_cases hyb : ∃ b, y = .bool b
      · obtain ⟨b, rfl⟩ := hyb
        rw [hb] at hy
        rcases VR_bool hv with h4 | h4
        · simp [h4] at hgd
        · rw [h4]
          have hy : yielded ops a.tmps j = some b := hy
          rw [hw, hy]
          cases b <;> cases w <;> simp [V.bo]
      · right
        have hyn : yielded ops a.tmps j = none := by
          rw [hy, hb]
          cases y <;> first | rfl | exact absurd ⟨_, rfl⟩ hyb
        refine ⟨by rw [hw, hyn]; rfl, ?_⟩
        cases hq : eget (slot d) e with
        | er => simp [hq] at hgd
        | q q =>
          cases q with
          | bo b =>
            rw [hq] at hv
            exact absurd ⟨b, hv⟩ hyb
          | _ => simp [hq]
        | o _ => simp [hq]
/-- Where a piece of code leaves to. -/
def Ex.out : Ex → Exit
  | .nm => .normal
  | .ex i => .exit i
  | .rt => .ret
/-- What is known behind a piece of code. -/
def Aft (N lo : Nat) (φ : Ph) (h : H) (n : Nat) (w : World) (r : Res) (x : Exit) (a' : Act) (w' : World) : Prop :=
  ∃ y e' h' n' φ', r = .ok y e' h' n' ∧ x = y.out ∧ AR N φ' e' a' ∧ Rep φ' (hget h') w' ∧ Stp lo φ (hget h) n w φ' (hget h') n' w'
theorem evL_cons (i : In) (l : List In) (e : E) (h : H) (n : Nat) : evL I F lo (i :: l) e h n =
    guard i.g e (R3.rec (motive := fun _ => Res) .no (fun v h' n' => evL I F lo l (put i.d v e) h' n') (evOp i.o I F lo e h n)) (evL I F lo l (put i.d (.o .un) e) h n) .no := by
  have e1 : evL I F lo (i :: l) e h n = guard i.g e (R3.rec (motive := fun _ => Res) .no (fun v h' n' => putD i.d v e fun e => evL I F lo l e h' n') (evOp i.o I F lo e h n)) (putD i.d (.o .un) e fun e => evL I F lo l e h n) .no := rfl
  rw [e1]
  simp only [putD_eq]
theorem ops_ok (hT : TOk P T) (hC : CTOk P C I) (hF : CallsOk P F) {ops : Array Oper} {Q : Exit → Act → World → Prop} (w0 : World) (φ0 : Ph) (h0 : H) (n0 : Nat) (hd0 : Dom φ0 n0) (hlo0 : lo ≤ n0) : ∀ (m k : Nat) (e : E) (h : H) (n : Nat) (φ : Ph) (a : Act) (w : World) (r : Res), k + m = ops.size →
    AR N φ e a → GOk φ → Rep φ (hget h) w → Stp lo φ0 (hget h0) n0 w0 φ (hget h) n w → evL I F lo ((ops.toList.drop k).map (trIn T C N ops)) e h n = r → r ≠ .no →
    (∀ x a' w', Aft N lo φ0 h0 n0 w0 r x a' w' → Q x a' w') → wpOps P ops Q (List.range' k m) a w := by
  intro m
  induction m with
  | zero =>
    intro k e h n φ a w r hk ha hg hr hst hev hne hQ
    rw [List.drop_of_length_le (by rw [Array.length_toList]; omega)] at hev
    exact hQ .normal a w ⟨.nm, e, h, n, φ, hev.symm, rfl, ha, hr, hst⟩
  | succ m ih =>
    intro k e h n φ a w r hk ha hg hr hst hev hne hQ
    have hlt : k < ops.size := by omega
    have hlt' : k < ops.toList.length := by rw [Array.length_toList]; exact hlt
    rw [List.drop_eq_getElem_cons hlt', List.map_cons, evL_cons] at hev
    have hki : ops.toList[k] = ops[k] := by simp
    rw [hki] at hev
    have hget : ops[k]? = some ops[k] := Array.getElem?_eq_getElem hlt
    simp only [List.range'_succ, wpOps, hget]
    cases hres : r with
    | no => exact absurd hres hne
    | ok x e' h' n' =>
      subst hres
      rcases trIn_spec (T := T) (C := C) (N := N) (o := ops[k]) (ops := ops) with hb | ⟨s1, s2, s3, s4⟩
      · rw [hb] at hev; cases hev
      have hgs := guard_spec (a := a) (ops := ops) (o := ops[k]) (fun j w' d hj hd => ha.sr d (by
        rcases s4 with ⟨h1, _⟩ | ⟨j', w'', d', h1, h2, h3, _⟩
        · rw [h1] at hj; cases hj
        · rw [h1] at hj
          simp only [Option.some.injEq, Prod.mk.injEq] at hj
          obtain ⟨rfl, _⟩ := hj
          rw [h2] at hd; injection hd with hd; subst hd; exact Nat.lt_succ_of_le h3)) s4 hev
      rcases hgs with ⟨hw, hq⟩ | ⟨hw, hq⟩
      · rw [hq] at hev
        rw [hw, if_pos rfl]
        left
        cases hop : evOp (trIn T C N ops ops[k]).o I F lo e h n with
        | no => rw [hop] at hev; cases hev
        | ok v h1 n1 =>
          rw [hop] at hev
          rw [s3] at hop
          refine op_ok hT ha.sr hg hr hst.dom hC hF (Nat.le_trans hlo0 hst.le) hop _ _ ?_
          intro y φ1 w1 hv hr1 hs1
          have hsub := hs1.sub hst.dom
          rw [s2] at hev
          exact ih (k + 1) _ h1 n1 φ1 _ w1 _ (by omega) ((ha.mono hsub).put (dstOk_spec s1) hv) (hg.mono hsub) hr1 (hst.trans hs1) hev hne hQ
      · rw [hq, s2] at hev
        rw [hw]
        simp only [Bool.false_eq_true, if_false]
        exact ih (k + 1) _ h n φ _ w _ (by omega) (ha.put (dstOk_spec s1) (VR_un φ)) hg hr hst hev hne hQ
/-- What is known of regions that draw their order. -/
def DrawOk (P : Program) (T : TT) (C : CT) (N : Nat) (I : Itr) (F : Cal) (lo : Nat) : Prop :=
  ∀ (id : Nat) (ops : Array Oper) (Q : Exit → Act → World → Prop) (e : E) (h : H) (n : Nat) (φ : Ph) (a : Act) (w : World) (r : Res), AR N φ e a → GOk φ → Rep φ (hget h) w → Dom φ n → lo ≤ n →
    evC I F lo (trC T C N (.region id ops true)) e h n = r → r ≠ .no → (∀ x a' w', Aft N lo φ h n w r x a' w' → Q x a' w') → (Code.region id ops true).wp P Q a w
theorem Aft.trans {φ1 : Ph} {h1 : H} {n1 : Nat} {w1 : World} (hs : Stp lo φ (hget h) n w φ1 (hget h1) n1 w1) {r : Res} {x : Exit} {a' : Act} {w' : World} (ha : Aft N lo φ1 h1 n1 w1 r x a' w') : Aft N lo φ h n w r x a' w' := by
  obtain ⟨y, e', h', n', φ', h2, h3, h4, h5, h6⟩ := ha
  exact ⟨y, e', h', n', φ', h2, h3, h4, h5, hs.trans h6⟩
/-- The rounds of a loop, at most so many. -/
def Rounds (N lo : Nat) (b : E → H → Nat → Res) (φ0 : Ph) (h0 : H) (n0 : Nat) (w0 : World) (r : Res) (k : Nat) (a : Act) (w : World) : Prop :=
  ∃ e h n φ, AR N φ e a ∧ GOk φ ∧ Rep φ (hget h) w ∧ Stp lo φ0 (hget h0) n0 w0 φ (hget h) n w ∧ loopN k b e h n = r
theorem wp_rounds {c : Code} {Q : Exit → Act → World → Prop} (R : Nat → Act → World → Prop) (k0 : Nat) (h0 : R k0 a w)
    (round : ∀ k a w, R k a w → ∃ k', k = k' + 1 ∧ c.wp P (Exit.then (fun a' w' => R k' a' w') Q) a w) : (Code.loop c).wp P Q a w := by
  intro b k cs
  have key : ∀ m a w, R m a w → ∃ e a' w', Q e a' w' ∧ Arrives P (lone (b.at a (.code c :: .inLoop c :: k)) cs w) b k cs e a' w' := by
    intro m
    induction m with
    | zero => intro a w hR; obtain ⟨k', hk, _⟩ := round 0 a w hR; omega
    | succ m ih =>
      intro a w hR
      obtain ⟨k', hk, hwp⟩ := round _ a w hR
      obtain rfl : m = k' := by omega
      obtain ⟨e, a₁, w₁, hq, harr⟩ := hwp b (.inLoop c :: k) cs
      cases e with
      | normal =>
        obtain ⟨e₂, a₂, w₂, hq₂, harr₂⟩ := ih a₁ w₁ hq
        exact ⟨e₂, a₂, w₂, hq₂, .of_steps (Steps.trans harr (.one step_inLoop)) harr₂⟩
      | exit id => exact ⟨_, a₁, w₁, hq, .pass (x := .inLoop c) rfl (fun _ _ => .inl (by simp)) harr⟩
      | goto l => exact ⟨_, a₁, w₁, hq, .pass (x := .inLoop c) rfl (fun _ _ => .inl (by simp)) harr⟩
      | ret => exact ⟨_, a₁, w₁, hq, .pass (x := .inLoop c) rfl (fun _ _ => .inl (by simp)) harr⟩
      | panic ch => exact ⟨_, a₁, w₁, hq, .pass (x := .inLoop c) rfl (fun _ _ => .inl (by simp)) harr⟩
      | outgrown => exact ⟨_, a₁, w₁, hq, .pass (x := .inLoop c) rfl (fun _ _ => .inl (by simp)) harr⟩
  obtain ⟨e, a', w', hq, harr⟩ := key _ a w h0
  exact ⟨e, a', w', hq, .of_steps (.one step_loop) harr⟩
theorem loopN_succ (k : Nat) (b : E → H → Nat → Res) (e : E) (h : H) (n : Nat) : loopN (k + 1) b e h n = thenN (b e h n) (loopN k b) := rfl
theorem code_ok (hT : TOk P T) (hC : CTOk P C I) (hF : CallsOk P F) (hD : DrawOk P T C N I F lo) : ∀ (c : Code) (Q : Exit → Act → World → Prop) (e : E) (h : H) (n : Nat) (φ : Ph) (a : Act) (w : World) (r : Res),
    AR N φ e a → GOk φ → Rep φ (hget h) w → Dom φ n → lo ≤ n → evC I F lo (trC T C N c) e h n = r → r ≠ .no → (∀ x a' w', Aft N lo φ h n w r x a' w' → Q x a' w') → c.wp P Q a w := by
  intro c
  induction c with
  | skip =>
    intro Q e h n φ a w r ha hg hr hd hlo hev hne hQ
    exact wp_skip (hQ _ _ _ ⟨.nm, e, h, n, φ, hev.symm, rfl, ha, hr, Stp.refl lo _ w hd⟩)
  | label l =>
    intro Q e h n φ a w r ha hg hr hd hlo hev hne hQ
    exact wp_label (hQ _ _ _ ⟨.nm, e, h, n, φ, hev.symm, rfl, ha, hr, Stp.refl lo _ w hd⟩)
  | exit i =>
    intro Q e h n φ a w r ha hg hr hd hlo hev hne hQ
    exact wp_exit (hQ _ _ _ ⟨.ex i, e, h, n, φ, hev.symm, rfl, ha, hr, Stp.refl lo _ w hd⟩)
  | ret =>
    intro Q e h n φ a w r ha hg hr hd hlo hev hne hQ
    exact wp_ret (hQ _ _ _ ⟨.rt, e, h, n, φ, hev.symm, rfl, ha, hr, Stp.refl lo _ w hd⟩)
  | goto l => intro Q e h n φ a w r ha hg hr hd hlo hev hne hQ; exact absurd hev.symm hne
  | rangeFunc f ps x y => intro Q e h n φ a w r ha hg hr hd hlo hev hne hQ; exact absurd hev.symm hne
  | refuse s => intro Q e h n φ a w r ha hg hr hd hlo hev hne hQ; exact absurd hev.symm hne
  | region id ops draw =>
    intro Q e h n φ a w r ha hg hr hd hlo hev hne hQ
    cases draw with
    | true => exact hD id ops Q e h n φ a w r ha hg hr hd hlo hev hne hQ
    | false =>
      refine wp_region ?_
      rw [List.range_eq_range']
      exact ops_ok hT hC hF w φ h n hd hlo ops.size 0 e h n φ a w r (by omega) ha hg hr (Stp.refl lo _ w hd) (by rw [List.drop_zero]; exact hev) hne hQ
  | seq x y ihx ihy =>
    intro Q e h n φ a w r ha hg hr hd hlo hev hne hQ
    have hev : thenN (evC I F lo (trC T C N x) e h n) (evC I F lo (trC T C N y)) = r := hev
    cases hx : evC I F lo (trC T C N x) e h n with
    | no => rw [hx] at hev; exact absurd hev.symm hne
    | ok z e1 h1 n1 =>
      refine wp_seq (ihx _ e h n φ a w _ ha hg hr hd hlo hx (by simp) ?_)
      rintro _ a1 w1 ⟨z', e1', h1', n1', φ1, heq, rfl, ha1, hr1, hs1⟩
      injection heq with q1 q2 q3 q4
      subst q1; subst q2; subst q3; subst q4
      have hsub := hs1.sub hd
      rw [hx] at hev
      cases z with
      | nm =>
        exact ihy Q e1 h1 n1 φ1 a1 w1 r ha1 (hg.mono hsub) hr1 hs1.dom (Nat.le_trans hlo hs1.le) hev hne fun x a' w' hA => hQ x a' w' (hA.trans hs1)
      | ex i => exact hQ _ _ _ ⟨.ex i, e1, h1, n1, φ1, hev.symm, rfl, ha1, hr1, hs1⟩
      | rt => exact hQ _ _ _ ⟨.rt, e1, h1, n1, φ1, hev.symm, rfl, ha1, hr1, hs1⟩
  | cond x y z ihy ihz =>
    intro Q e h n φ a w r ha hg hr hd hlo hev hne hQ
    have hev : test (opd (trO x) e) (evC I F lo (trC T C N y)) (evC I F lo (trC T C N z)) e h n = r := hev
    have hx := opd_VR ha.sr hg x
    unfold test at hev
    split at hev
    · rename_i t hq
      rw [hq] at hx
      cases t with
      | true => exact wp_cond_true hx (ihy Q e h n φ a w r ha hg hr hd hlo hev hne hQ)
      | false => exact wp_cond_false hx (ihz Q e h n φ a w r ha hg hr hd hlo hev hne hQ)
    · exact absurd hev.symm hne
  | block i b ih =>
    intro Q e h n φ a w r ha hg hr hd hlo hev hne hQ
    have hev : atBl i (evC I F lo (trC T C N b) e h n) = r := hev
    cases hx : evC I F lo (trC T C N b) e h n with
    | no => rw [hx] at hev; exact absurd hev.symm hne
    | ok z e1 h1 n1 =>
      refine wp_block (ih _ e h n φ a w _ ha hg hr hd hlo hx (by simp) ?_)
      rintro _ a1 w1 ⟨z', e1', h1', n1', φ1, heq, rfl, ha1, hr1, hs1⟩
      injection heq with q1 q2 q3 q4
      subst q1; subst q2; subst q3; subst q4
      rw [hx] at hev
      cases z with
      | nm => exact hQ _ _ _ ⟨.nm, e1, h1, n1, φ1, hev.symm, rfl, ha1, hr1, hs1⟩
      | rt => exact hQ _ _ _ ⟨.rt, e1, h1, n1, φ1, hev.symm, rfl, ha1, hr1, hs1⟩
      | ex j =>
        have hev : (bif Nat.beq j i then Res.ok .nm e1 h1 n1 else .ok (.ex j) e1 h1 n1) = r := hev
        rw [beq_nat, cond_eq_ite] at hev
        show (if j = i then Q .normal a1 w1 else Q (.exit j) a1 w1)
        by_cases hj : j = i
        · simp only [hj, decide_true, if_true] at hev ⊢
          exact hQ _ _ _ ⟨.nm, e1, h1, n1, φ1, hev.symm, rfl, ha1, hr1, hs1⟩
        · simp only [hj, decide_false, Bool.false_eq_true, if_false] at hev ⊢
          exact hQ _ _ _ ⟨.ex j, e1, h1, n1, φ1, hev.symm, rfl, ha1, hr1, hs1⟩
  | loop b ih =>
    intro Q e h n φ a w r ha hg hr hd hlo hev hne hQ
    have hev : loopN 400 (evC I F lo (trC T C N b)) e h n = r := hev
    refine wp_rounds (Rounds N lo (evC I F lo (trC T C N b)) φ h n w r) 400 ⟨e, h, n, φ, ha, hg, hr, Stp.refl lo _ w hd, hev⟩ ?_
    rintro k a1 w1 ⟨e1, h1, n1, φ1, ha1, hg1, hr1, hs1, hk⟩
    cases k with
    | zero => exact absurd hk.symm hne
    | succ k =>
      refine ⟨k, rfl, ?_⟩
      rw [loopN_succ] at hk
      cases hx : evC I F lo (trC T C N b) e1 h1 n1 with
      | no => rw [hx] at hk; exact absurd hk.symm hne
      | ok z e2 h2 n2 =>
        refine ih _ e1 h1 n1 φ1 a1 w1 _ ha1 hg1 hr1 hs1.dom (Nat.le_trans hlo hs1.le) hx (by simp) ?_
        rintro _ a2 w2 ⟨z', e2', h2', n2', φ2, heq, rfl, ha2, hr2, hs2⟩
        injection heq with q1 q2 q3 q4
        subst q1; subst q2; subst q3; subst q4
        rw [hx] at hk
        cases z with
        | nm => exact ⟨e2, h2, n2, φ2, ha2, hg1.mono (hs2.sub hs1.dom), hr2, hs1.trans hs2, hk⟩
        | ex i => exact hQ _ _ _ ⟨.ex i, e2, h2, n2, φ2, hk.symm, rfl, ha2, hr2, hs1.trans hs2⟩
        | rt => exact hQ _ _ _ ⟨.rt, e2, h2, n2, φ2, hk.symm, rfl, ha2, hr2, hs1.trans hs2⟩
  | scope b ih =>
    intro Q e h n φ a w r ha hg hr hd hlo hev hne hQ
    refine wp_scope_straight (ih _ e h n φ a w r ha hg hr hd hlo hev hne ?_)
    rintro _ a1 w1 ⟨z, e1, h1, n1, φ1, heq, rfl, ha1, hr1, hs1⟩
    have := hQ z.out a1 w1 ⟨z, e1, h1, n1, φ1, heq, rfl, ha1, hr1, hs1⟩
    cases z <;> exact this
end
end Go.Ev
namespace Go.Ev
theorem hget_hsetN_ne (f : Nat) : ∀ (v : AO) (t : H) (i j : Nat), j ≠ i → hget (hsetN f v t i) j = hget t j := by
  induction f with
  | zero => intro v t i j _; rfl
  | succ f ih =>
    intro v t i j hj
    have key : ∀ (u : AO) (l r : H), hget (if i = 0 then .nd v l r else if i % 2 = 1 then .nd u (hsetN f v l (i / 2)) r else .nd u l (hsetN f v r (i / 2 - 1))) j = hget (.nd u l r) j := by
      intro u l r
      by_cases h0 : i = 0
      · subst h0; simp [hget_nd, hj]
      · by_cases h1 : i % 2 = 1
        · simp only [h0, h1, if_true, if_false, hget_nd]
          by_cases hj0 : j = 0
          · simp [hj0]
          · by_cases hj1 : j % 2 = 1
            · have : ¬ j / 2 = i / 2 := by omega
              simp only [hj0, hj1, if_true, if_false]
              exact ih _ _ _ _ this
            · simp [hj0, hj1]
        · simp only [h0, h1, if_false, hget_nd]
          by_cases hj0 : j = 0
          · simp [hj0]
          · by_cases hj1 : j % 2 = 1
            · simp [hj0, hj1]
            · have : ¬ j / 2 - 1 = i / 2 - 1 := by omega
              simp only [hj0, hj1, if_false]
              exact ih _ _ _ _ this
    cases t with
    | nil =>
      rw [hsetN_nil]
      have hn : ∀ j, hget (.nd .no .nil .nil) j = .no := by
        intro j; rw [hget_nd]; split
        · rfl
        · split <;> rfl
      have h2 := key .no .nil .nil
      by_cases h0 : i = 0
      · simp only [h0, if_true]
        rw [h0] at hj
        rw [hget_nd, if_neg hj]
        split <;> rfl
      · simp only [h0, if_false] at h2 ⊢
        rw [h2, hn, hget_nil]
    | nd u l r => rw [hsetN_nd]; exact key u l r
theorem hget_hset_ne (v : AO) (t : H) (i j : Nat) (h : j ≠ i) : hget (hset i v t) j = hget t j := hget_hsetN_ne 40 v t i j h
/-- Numbers grow; rows below 'lo' stay. -/
def Keeps (lo : Nat) (h : H) (n : Nat) (r : R3) : Prop := ∀ v h' n', r = .ok v h' n' → n ≤ n' ∧ ∀ id < n, id < lo → hget h' id = hget h id
def Low (F : Cal) : Prop := ∀ lo p vs h n, lo ≤ n → Keeps lo h n (F lo p vs h n)
section
variable {I : Itr} {F : Cal} {lo n : Nat} {h : H} {v : V} {h' : H} {n' : Nat}
theorem Keeps.no : Keeps lo h n .no := fun _ _ _ h => by cases h
theorem Keeps.same {u : V} : Keeps lo h n (.ok u h n) := fun _ _ _ h => by
  injection h with _ h1 h2
  subst h1; subst h2
  exact ⟨Nat.le_refl _, fun _ _ _ => rfl⟩
theorem Keeps.set {u : V} {b : Nat} {ao : AO} (hb : lo ≤ b) : Keeps lo h n (.ok u (hset b ao h) n) := fun _ _ _ h => by
  injection h with _ h1 h2
  subst h1; subst h2
  exact ⟨Nat.le_refl _, fun id _ h2 => hget_hset_ne _ _ _ _ (by omega)⟩
theorem Keeps.ret {u : V} : Keeps lo h n (ret u h n) := fun _ _ _ hr => by
  obtain ⟨_, _, rfl, rfl⟩ := ret_ok hr
  exact ⟨Nat.le_refl _, fun _ _ _ => rfl⟩
theorem Keeps.alloc {ob : AO} {f : Nat → V} : Keeps lo h n (alloc ob f h n) := fun _ _ _ hr => by
  obtain ⟨_, rfl, rfl, _⟩ := alloc_some hr
  exact ⟨by omega, fun id h1 _ => hget_hset_ne _ _ _ _ (by omega)⟩
theorem Keeps.alloc' {ob : AO} {f : Nat → V} {b : Nat} {ao : AO} (hb : lo ≤ b) : Keeps lo h n (Go.Ev.alloc ob f (hset b ao h) n) := fun _ _ _ hr => by
  obtain ⟨_, rfl, rfl, _⟩ := alloc_some hr
  exact ⟨by omega, fun id h1 h2 => by rw [hget_hset_ne _ _ _ _ (by omega), hget_hset_ne _ _ _ _ (by omega)]⟩
theorem Keeps.write {b i : Nat} {c : List L} {u : V} : Keeps lo h n (match write lo b i c h with
    | some h' => .ok u h' n
    | none => .no) := by
  cases hw : Go.Ev.write lo b i c h with
  | none => exact .no
  | some h1 =>
    obtain ⟨_, _, _, _, _, hlo, _, _, rfl⟩ := write_some hw
    exact .set hlo
theorem Keeps.putM {m : V} {K : Nat → List ME → Option (V × Nat × List ME)} : Keeps lo h n (putM lo m h n K) := fun v h' n' hr => by
  obtain ⟨b, ck, es, ck', es', _, hlo, _, _, rfl, rfl⟩ := putM_some hr
  exact Keeps.set hlo v _ _ rfl
theorem Keeps.bif {c : Bool} {x y : R3} (hx : c = true → Keeps lo h n x) (hy : c = false → Keeps lo h n y) : Keeps lo h n (bif c then x else y) := by
  cases c
  · exact hy rfl
  · exact hx rfl
theorem append_keeps {e : TypeId} {s by_ : Nat} {x y : V} : Keeps lo h n (appendV e s by_ lo x y h n) := by
  unfold appendV
  split
  · split
    · exact .bif (fun _ => .same) fun _ => .bif (fun _ => .alloc) fun _ => .no
    · refine .bif (fun _ => .bif (fun _ => .same) fun _ => ?_) fun _ => .no
      split
      · refine .bif (fun _ => .write) fun _ => .bif (fun _ => ?_) fun _ => .no
        split
        · exact .alloc
        · exact .no
      · refine .bif (fun hlo => .bif (fun _ => ?_) fun _ => .no) fun _ => .no
        have hlo := Nat.le_of_ble_eq_true hlo
        split
        · exact .bif (fun _ => .bif (fun _ => .bif (fun _ => .alloc' hlo) fun _ => .no) fun _ => .no) fun _ => .no
        · exact .no
    · exact .no
  · exact .no
theorem evOp_keeps (hF : Low F) (hlo : lo ≤ n) (i : IOp) (e : E) : Keeps lo h n (evOp i I F lo e h n) := by
  cases i with
  | al t z => exact .alloc
  | bx t x =>
    show Keeps lo h n (boxV t (opd x e) h n)
    unfold boxV
    split
    · exact .no
    · exact .alloc
  | bl t s m z ps =>
    show Keeps lo h n (bslice t s m z ps e h n)
    unfold bslice
    split
    · exact .alloc
    · exact .no
  | ms t s b z l c =>
    show Keeps lo h n (mslice t s b z (opd l e) (opd c e) h n)
    unfold mslice
    split
    · split
      · exact .bif (fun _ => .bif (fun _ => .alloc) fun _ => .no) fun _ => .no
      · exact .no
    · exact .no
  | so m x v =>
    show Keeps lo h n (storeV m lo (opd x e) (opd v e) h n)
    unfold storeV
    split
    · exact .bif (fun _ => .write) fun _ => .no
    · exact .no
  | ap t s b x y => exact append_keeps
  | co s x y =>
    show Keeps lo h n (copyV s lo (opd x e) (opd y e) h n)
    unfold copyV
    split
    · split
      · exact .same
      · exact .bif (fun _ => .bif (fun _ => .same) fun _ => .write) fun _ => .no
      · exact .no
    · exact .no
  | sb t x =>
    show Keeps lo h n (sbytes t (opd x e) h n)
    unfold sbytes
    split
    · exact .bif (fun _ => .alloc) fun _ => .no
    · exact .no
  | mk => exact .alloc
  | mz t x =>
    show Keeps lo h n (mzero t (opd x e) h n)
    unfold mzero
    split
    · split
      · exact .bif (fun _ => .alloc) fun _ => .no
      · exact .no
    · exact .no
  | mu q m k v =>
    show Keeps lo h n (updM q lo (opd m e) (opd k e) (opd v e) h n)
    unfold updM
    exact .bif (fun _ => .putM) fun _ => .no
  | de q m k =>
    show Keeps lo h n (delM q lo (opd m e) (opd k e) h n)
    unfold delM
    exact .bif (fun _ => .putM) fun _ => .no
  | me q z m k =>
    show Keeps lo h n (entM q lo z (opd m e) (opd k e) h n)
    unfold entM
    exact .bif (fun _ => .putM) fun _ => .no
  | es m s v =>
    show Keeps lo h n (entS lo (opd m e) (opd s e) (opd v e) h n)
    unfold entS
    split
    · exact .putM
    · exact .no
  | rg s x =>
    show Keeps lo h n (rangeV s (opd x e) h n)
    unfold rangeV
    split
    · split
      · exact .alloc
      · exact .no
    · split
      · split
        · exact .alloc
        · exact .no
      · exact .no
  | nx s x =>
    show Keeps lo h n (nextV s lo (opd x e) h n)
    unfold nextV
    split
    · rename_i b o _
      refine .bif (fun _ => ?_) fun _ => .no
      split
      · split
        · rename_i l p _
          cases dr l p with
          | nil => exact .same
          | cons c r => exact .bif (fun hlo => .bif (fun _ => .no) fun _ => .set (Nat.le_of_ble_eq_true hlo)) fun _ => .no
        · exact .no
      · split
        · split
          · exact .same
          · exact .no
        · exact .no
    · exact .no
  | ut t x m =>
    show Keeps lo h n (ustr t lo (opd x e) (opd m e) h n)
    unfold ustr
    split
    · refine .bif (fun _ => ?_) fun _ => ?_
      · split
        · exact .same
        · exact .same
        · exact .no
      · split
        · refine .bif (fun hlo => ?_) fun _ => .no
          split
          · split
            · split
              · exact .bif (fun _ => .set (Nat.le_of_ble_eq_true hlo)) fun _ => .no
              · exact .no
            · exact .no
          · exact .no
        · exact .no
    · exact .no
  | cf p a => exact hF lo p _ h n hlo
  | cq p a =>
    show Keeps lo h n (pure3 n (fun m => F m p (args a e) h m) h n)
    unfold pure3
    split
    · exact .bif (fun _ => .same) fun _ => .no
    · exact .no
  | cc x a =>
    show Keeps lo h n (callV F lo (opd x e) (args a e) h n)
    unfold callV
    split
    · exact hF lo _ _ h n hlo
    · exact .no
  | bad => exact .no
  | _ => exact .ret
/- code -/
def KeepsR (lo : Nat) (h : H) (n : Nat) (r : Res) : Prop := ∀ x e' h' n', r = .ok x e' h' n' → n ≤ n' ∧ ∀ id < n, id < lo → hget h' id = hget h id
theorem KeepsR.no : KeepsR lo h n .no := fun _ _ _ _ h => by cases h
theorem KeepsR.same {x : Ex} {e : E} : KeepsR lo h n (.ok x e h n) := fun _ _ _ _ h => by
  injection h with _ _ h1 h2
  subst h1; subst h2
  exact ⟨Nat.le_refl _, fun _ _ _ => rfl⟩
theorem KeepsR.after {h1 : H} {n1 : Nat} {r : Res} (hk : n ≤ n1 ∧ ∀ id < n, id < lo → hget h1 id = hget h id) (hr : KeepsR lo h1 n1 r) : KeepsR lo h n r := fun x e' h' n' hh =>
  let ⟨a, b⟩ := hr x e' h' n' hh
  ⟨Nat.le_trans hk.1 a, fun id h1 h2 => by rw [b id (Nat.lt_of_lt_of_le h1 hk.1) h2, hk.2 id h1 h2]⟩
theorem KeepsR.guard {g : Option (S × Bool)} {e : E} {x y : Res} (hx : KeepsR lo h n x) (hy : KeepsR lo h n y) : KeepsR lo h n (guard g e x y .no) := by
  unfold Go.Ev.guard
  split
  · exact hx
  · split
    · exact .no
    · rename_i b _
      cases h : (xor b _) with
      | true => exact hy
      | false => exact hx
    · exact hy
theorem evL_keeps (hF : Low F) : ∀ (l : List In) (e : E) (h : H) (n : Nat), lo ≤ n → KeepsR lo h n (evL I F lo l e h n)
  | [], e, h, n, _ => .same
  | i :: l, e, h, n, hlo => by
    rw [evL_cons]
    refine .guard ?_ (evL_keeps hF l _ h n hlo)
    cases ho : evOp i.o I F lo e h n with
    | no => exact .no
    | ok v h1 n1 =>
      have hk := evOp_keeps hF hlo i.o e v h1 n1 ho
      exact (evL_keeps hF l _ h1 n1 (Nat.le_trans hlo hk.1)).after hk
theorem Keeps.le {lo' : Nat} {r : R3} (hlo : lo ≤ lo') (hk : Keeps lo' h n r) : Keeps lo h n r := fun v h' n' hr =>
  let ⟨a, b⟩ := hk v h' n' hr
  ⟨a, fun id h1 h2 => b id h1 (Nat.lt_of_lt_of_le h2 hlo)⟩
theorem evM_keeps (hF : Low F) (hlo : lo ≤ n) (e : E) (m : Md) (i : IOp) : Keeps lo h n (evM I F lo e h n m i) := by
  cases m with
  | bar => exact evOp_keeps hF hlo i e
  | ext => exact (evOp_keeps (lo := n) hF (Nat.le_refl _) i e).le hlo
  | sem z u =>
    show Keeps lo h n (R3.rec (motive := fun _ => R3) (Bool.rec (motive := fun _ => R3) .no (semOp u e h (evOp i I F lo e h n)) z) .ok (evOp i I F n e h n))
    cases ho : evOp i I F n e h n with
    | ok v h1 n1 =>
      have := (evOp_keeps (lo := n) (I := I) (h := h) (n := n) hF (Nat.le_refl _) i e).le hlo
      rw [ho] at this
      exact this
    | no =>
      cases z with
      | false => exact .no
      | true =>
        show Keeps lo h n (semOp u e h (evOp i I F lo e h n))
        unfold semOp
        split
        · rename_i v h1 n1 hh
          refine .bif (fun _ => ?_) fun _ => .no
          have := evOp_keeps (lo := lo) (I := I) (h := h) (n := n) hF hlo i e
          rw [hh] at this
          exact this
        · exact .no
theorem evD_cons (i : Im) (l : List Im) (e : E) (h : H) (n : Nat) : evD I F lo (i :: l) e h n =
    guard i.i.g e (R3.rec (motive := fun _ => Res) .no (fun v h' n' => evD I F lo l (put i.i.d v e) h' n') (evM I F lo e h n i.m i.i.o)) (evD I F lo l (put i.i.d (.o .un) e) h n) .no := by
  have e1 : evD I F lo (i :: l) e h n = guard i.i.g e (R3.rec (motive := fun _ => Res) .no (fun v h' n' => putD i.i.d v e fun e => evD I F lo l e h' n') (evM I F lo e h n i.m i.i.o)) (putD i.i.d (.o .un) e fun e => evD I F lo l e h n) .no := rfl
  rw [e1]
  simp only [putD_eq]
theorem evD_keeps (hF : Low F) : ∀ (l : List Im) (e : E) (h : H) (n : Nat), lo ≤ n → KeepsR lo h n (evD I F lo l e h n)
  | [], e, h, n, _ => by
    show KeepsR lo h n (bif Nat.ble n 1000001 then .ok .nm e h n else .no)
    cases Nat.ble n 1000001
    · exact .no
    · exact .same
  | i :: l, e, h, n, hlo => by
    rw [evD_cons]
    refine .guard ?_ (evD_keeps hF l _ h n hlo)
    cases ho : evM I F lo e h n i.m i.i.o with
    | no => exact .no
    | ok v h1 n1 =>
      have hk := evM_keeps hF hlo e i.m i.i.o v h1 n1 ho
      exact (evD_keeps hF l _ h1 n1 (Nat.le_trans hlo hk.1)).after hk
theorem thenN_keeps {r : Res} {K : E → H → Nat → Res} (hlo : lo ≤ n) (hr : KeepsR lo h n r) (hK : ∀ e h n, lo ≤ n → KeepsR lo h n (K e h n)) : KeepsR lo h n (thenN r K) := by
  unfold thenN
  split
  · exact .no
  · rename_i x e1 h1 n1
    have hk := hr x e1 h1 n1 rfl
    split
    · exact (hK e1 h1 n1 (Nat.le_trans hlo hk.1)).after hk
    · exact KeepsR.same.after hk
    · exact KeepsR.same.after hk
theorem evC_keeps (hF : Low F) : ∀ (c : Cd) (e : E) (h : H) (n : Nat), lo ≤ n → KeepsR lo h n (evC I F lo c e h n) := by
  intro c
  induction c with
  | sk => intro e h n _; exact .same
  | rg l => intro e h n hlo; exact evL_keeps hF l e h n hlo
  | rd l => intro e h n hlo; exact evD_keeps hF l e h n hlo
  | sq a b iha ihb => intro e h n hlo; exact thenN_keeps hlo (iha e h n hlo) ihb
  | cn x a b iha ihb =>
    intro e h n hlo
    show KeepsR lo h n (test (opd x e) (evC I F lo a) (evC I F lo b) e h n)
    unfold test
    split
    · split
      · exact iha e h n hlo
      · exact ihb e h n hlo
    · exact .no
  | bl i b ih =>
    intro e h n hlo
    show KeepsR lo h n (atBl i (evC I F lo b e h n))
    have hb := ih e h n hlo
    unfold atBl
    split
    · exact .no
    · rename_i x e1 h1 n1 hh
      have hk := hb x e1 h1 n1 hh
      split
      · exact KeepsR.same.after hk
      · rename_i j
        cases Nat.beq j i with
        | true => exact KeepsR.same.after hk
        | false => exact KeepsR.same.after hk
      · exact KeepsR.same.after hk
  | lp b ih =>
    intro e h n hlo
    show KeepsR lo h n (loopN 400 (evC I F lo b) e h n)
    generalize 400 = m
    induction m generalizing e h n with
    | zero => exact .no
    | succ m ihm => exact thenN_keeps hlo (ih e h n hlo) ihm
  | ex i => intro e h n _; exact .same
  | rt => intro e h n _; exact .same
  | bad => intro e h n _; exact .no
theorem enter_keeps {K : E → Res} (hK : ∀ e, KeepsR lo h n (K e)) : ∀ (a : List V) (p : List S) (e : E), KeepsR lo h n (enter a p e K)
  | [], _, e => hK e
  | _ :: _, [], _ => .no
  | v :: a, q :: p, e => by
    have e1 : enter (v :: a) (q :: p) e K = esetK q v e fun e => enter a p e K := rfl
    rw [e1, esetK_eq]
    exact enter_keeps hK a p _
theorem evF_keeps (T : FT) : ∀ d, Low (evF I T d)
  | 0 => fun _ _ _ _ _ _ => .no
  | d + 1 => by
    intro lo p a h n hlo
    show Keeps lo h n (evFn I (evF I T d) (fget p T) lo a h n)
    unfold evFn
    split
    · exact .no
    · rename_i f _
      refine .bif (fun _ => ?_) fun _ => .no
      have hk := enter_keeps (lo := lo) (h := h) (n := n) (fun e => evC_keeps (I := I) (evF_keeps T d) f.b e h n hlo) a pth e0
      unfold leave
      split
      · exact .no
      · rename_i x e1 h1 n1 hh
        have h2 := hk x e1 h1 n1 hh
        have hr : Keeps lo h n (ret (results f.r e1 h1) h1 n1) := fun v h' n' hr => by
          obtain ⟨_, _, rfl, rfl⟩ := ret_ok hr
          exact h2
        split
        · exact hr
        · exact hr
        · exact .no
end
end Go.Ev
namespace Go.Ev
def IOp.opds : IOp → List Opd
  | .mv x | .nt x | .ext _ x | .cv _ x | .ln _ x | .cp x | .fa _ x | .nc x | .ld _ _ x | .lm x | .bs x | .us x | .up x | .pu _ _ x | .bx _ x | .sb _ x | .mz _ x | .rg _ x | .nx _ x => [x]
  | .ar _ x y | .cm _ x y | .eq _ _ x y | .cat x y | .ix x y | .mm _ x y | .ia _ x y | .ja _ _ x y | .lk _ _ _ x y | .ms _ _ _ _ x y | .so _ x y | .ap _ _ _ x y | .co _ x y | .de _ x y | .me _ _ x y | .ut _ x y => [x, y]
  | .pk x y z | .mu _ x y z | .es x y z => [x, y, z]
  | .s1 x lo hi => x :: (lo.toList ++ hi.toList)
  | .s2 _ x lo hi mx => x :: (lo.toList ++ hi.toList ++ mx.toList)
  | .s3 _ _ x lo hi => x :: (lo.toList ++ hi.toList)
  | .bd _ ps | .bl _ _ _ _ ps => ps.map (·.2.2)
  | .mf _ c | .cf _ c | .cq _ c | .xt _ c => c
  | .cc x c => x :: c
  | .al _ _ | .mk | .bad => []
section
variable {I : Itr} {F : Cal} {lo n : Nat} {h : H} {e e2 : E}
theorem bnd_congr {x : Option Opd} (hx : ∀ y ∈ x.toList, opd y e = opd y e2) (d : Nat) (K : Nat → V) : bnd x e d K = bnd x e2 d K := by
  cases x with
  | none => rfl
  | some y =>
    have : opd y e = opd y e2 := hx y (by simp)
    simp only [bnd, this]
theorem fill_congr : ∀ (ps : List (Nat × Nat × Opd)) (z : List L), (∀ y ∈ ps.map (·.2.2), opd y e = opd y e2) → fill ps e z = fill ps e2 z
  | [], z, _ => rfl
  | (o, k, x) :: ps, z, hp => by
    have hx : opd x e = opd x e2 := hp x (by simp)
    rw [fill_cons, fill_cons, hx]
    split
    · split
      · exact fill_congr ps _ fun y hy => hp y (by simp at hy ⊢; exact .inr hy)
      · rfl
    · rfl
theorem caps_congr : ∀ (c : List Opd), (∀ y ∈ c, opd y e = opd y e2) → caps c e = caps c e2
  | [], _ => rfl
  | x :: c, hc => by
    have e1 : ∀ e, caps (x :: c) e = (match opd x e with
      | .q a => match caps c e with
        | some r => some (a :: r)
        | none => none
      | _ => none) := fun _ => rfl
    rw [e1, e1, hc x (List.mem_cons_self ..), caps_congr c fun y hy => hc y (List.mem_cons_of_mem _ hy)]
theorem args_congr {c : List Opd} (hc : ∀ y ∈ c, opd y e = opd y e2) : args c e = args c e2 := by
  unfold args
  rw [mp_eq, mp_eq]
  exact List.map_congr_left hc
theorem evOp_congr (i : IOp) (hi : ∀ y ∈ i.opds, opd y e = opd y e2) : evOp i I F lo e h n = evOp i I F lo e2 h n := by
  have one : ∀ {x : Opd}, i.opds = [x] → opd x e = opd x e2 := fun hx => hi _ (by rw [hx]; simp)
  have two : ∀ {x y : Opd}, i.opds = [x, y] → opd x e = opd x e2 ∧ opd y e = opd y e2 := fun hx => ⟨hi _ (by rw [hx]; simp), hi _ (by rw [hx]; simp)⟩
  have three : ∀ {x y z : Opd}, i.opds = [x, y, z] → opd x e = opd x e2 ∧ opd y e = opd y e2 ∧ opd z e = opd z e2 := fun hx => ⟨hi _ (by rw [hx]; simp), hi _ (by rw [hx]; simp), hi _ (by rw [hx]; simp)⟩
  cases i with
  | mv x => show ret (opd x e) h n = ret (opd x e2) h n; rw [one rfl]
  | nt x => show ret (notV (opd x e)) h n = ret (notV (opd x e2)) h n; rw [one rfl]
  | ext k x => show ret (ext k (opd x e)) h n = ret (ext k (opd x e2)) h n; rw [one rfl]
  | cv k x => show ret (conv k (opd x e)) h n = ret (conv k (opd x e2)) h n; rw [one rfl]
  | ln s x => show ret (lenV s (opd x e)) h n = ret (lenV s (opd x e2)) h n; rw [one rfl]
  | cp x => show ret (capV (opd x e)) h n = ret (capV (opd x e2)) h n; rw [one rfl]
  | fa o x => show ret (fadd o (opd x e)) h n = ret (fadd o (opd x e2)) h n; rw [one rfl]
  | nc x => show ret (nilck (opd x e)) h n = ret (nilck (opd x e2)) h n; rw [one rfl]
  | ld g m x => show ret (loadV g m (opd x e) h) h n = ret (loadV g m (opd x e2) h) h n; rw [one rfl]
  | lm x => show ret (lenM (opd x e) h) h n = ret (lenM (opd x e2) h) h n; rw [one rfl]
  | bs x => show ret (toStr (opd x e) h) h n = ret (toStr (opd x e2) h) h n; rw [one rfl]
  | us x => show ret (sdata (opd x e)) h n = ret (sdata (opd x e2)) h n; rw [one rfl]
  | up x => show ret (upV (opd x e) h) h n = ret (upV (opd x e2) h) h n; rw [one rfl]
  | pu t m x => show ret (puV t m (opd x e) h) h n = ret (puV t m (opd x e2) h) h n; rw [one rfl]
  | bx t x => show boxV t (opd x e) h n = boxV t (opd x e2) h n; rw [one rfl]
  | sb t x => show sbytes t (opd x e) h n = sbytes t (opd x e2) h n; rw [one rfl]
  | mz t x => show mzero t (opd x e) h n = mzero t (opd x e2) h n; rw [one rfl]
  | rg s x => show rangeV s (opd x e) h n = rangeV s (opd x e2) h n; rw [one rfl]
  | nx s x => show nextV s lo (opd x e) h n = nextV s lo (opd x e2) h n; rw [one rfl]
  | ar o x y => show ret (arith o (opd x e) (opd y e)) h n = ret (arith o (opd x e2) (opd y e2)) h n; rw [(two rfl).1, (two rfl).2]
  | cm o x y => show ret (comp o (opd x e) (opd y e)) h n = ret (comp o (opd x e2) (opd y e2)) h n; rw [(two rfl).1, (two rfl).2]
  | eq k t x y => show ret (oB (eqV k (opd x e) (opd y e)) t) h n = ret (oB (eqV k (opd x e2) (opd y e2)) t) h n; rw [(two rfl).1, (two rfl).2]
  | cat x y =>
    show ret (match opd x e, opd y e with | .q (.o (.st a)), .q (.o (.st b)) => bif Nat.ble (Nat.add (len a) (len b)) 4611686018427387904 then .st (app a b) else .er | _, _ => .er) h n =
      ret (match opd x e2, opd y e2 with | .q (.o (.st a)), .q (.o (.st b)) => bif Nat.ble (Nat.add (len a) (len b)) 4611686018427387904 then .st (app a b) else .er | _, _ => .er) h n
    rw [(two rfl).1, (two rfl).2]
  | ix x y => show ret (index (opd x e) (opd y e)) h n = ret (index (opd x e2) (opd y e2)) h n; rw [(two rfl).1, (two rfl).2]
  | mm m x y => show ret (minmax m (opd x e) (opd y e)) h n = ret (minmax m (opd x e2) (opd y e2)) h n; rw [(two rfl).1, (two rfl).2]
  | ia s x y => show ret (iadd s (opd x e) (opd y e)) h n = ret (iadd s (opd x e2) (opd y e2)) h n; rw [(two rfl).1, (two rfl).2]
  | ja m s x y => show ret (jadd m s (opd x e) (opd y e)) h n = ret (jadd m s (opd x e2) (opd y e2)) h n; rw [(two rfl).1, (two rfl).2]
  | lk q ok z x y => show ret (lookV q ok z (opd x e) (opd y e) h) h n = ret (lookV q ok z (opd x e2) (opd y e2) h) h n; rw [(two rfl).1, (two rfl).2]
  | ms t s b z x y => show mslice t s b z (opd x e) (opd y e) h n = mslice t s b z (opd x e2) (opd y e2) h n; rw [(two rfl).1, (two rfl).2]
  | so m x y => show storeV m lo (opd x e) (opd y e) h n = storeV m lo (opd x e2) (opd y e2) h n; rw [(two rfl).1, (two rfl).2]
  | ap t s b x y => show appendV t s b lo (opd x e) (opd y e) h n = appendV t s b lo (opd x e2) (opd y e2) h n; rw [(two rfl).1, (two rfl).2]
  | co s x y => show copyV s lo (opd x e) (opd y e) h n = copyV s lo (opd x e2) (opd y e2) h n; rw [(two rfl).1, (two rfl).2]
  | de q x y => show delM q lo (opd x e) (opd y e) h n = delM q lo (opd x e2) (opd y e2) h n; rw [(two rfl).1, (two rfl).2]
  | me q z x y => show entM q lo z (opd x e) (opd y e) h n = entM q lo z (opd x e2) (opd y e2) h n; rw [(two rfl).1, (two rfl).2]
  | ut t x y => show ustr t lo (opd x e) (opd y e) h n = ustr t lo (opd x e2) (opd y e2) h n; rw [(two rfl).1, (two rfl).2]
  | pk x y z => show ret (pick (opd x e) (opd y e) (opd z e)) h n = ret (pick (opd x e2) (opd y e2) (opd z e2)) h n; rw [(three rfl).1, (three rfl).2.1, (three rfl).2.2]
  | mu q x y z => show updM q lo (opd x e) (opd y e) (opd z e) h n = updM q lo (opd x e2) (opd y e2) (opd z e2) h n; rw [(three rfl).1, (three rfl).2.1, (three rfl).2.2]
  | es x y z => show entS lo (opd x e) (opd y e) (opd z e) h n = entS lo (opd x e2) (opd y e2) (opd z e2) h n; rw [(three rfl).1, (three rfl).2.1, (three rfl).2.2]
  | s1 x l r =>
    have hx : opd x e = opd x e2 := hi x (by simp [IOp.opds])
    have hl : ∀ d K, bnd l e d K = bnd l e2 d K := bnd_congr fun y hy => hi y (by simp [IOp.opds] at hy ⊢; simp [hy])
    have hr : ∀ d K, bnd r e d K = bnd r e2 d K := bnd_congr fun y hy => hi y (by simp [IOp.opds] at hy ⊢; simp [hy])
    show ret (slS (opd x e) l r e) h n = ret (slS (opd x e2) l r e2) h n
    unfold slS
    simp only [hx, hl, hr]
  | s2 s x l r m =>
    have hx : opd x e = opd x e2 := hi x (by simp [IOp.opds])
    have hl : ∀ d K, bnd l e d K = bnd l e2 d K := bnd_congr fun y hy => hi y (by simp [IOp.opds] at hy ⊢; simp [hy])
    have hr : ∀ d K, bnd r e d K = bnd r e2 d K := bnd_congr fun y hy => hi y (by simp [IOp.opds] at hy ⊢; simp [hy])
    have hm : ∀ d K, bnd m e d K = bnd m e2 d K := bnd_congr fun y hy => hi y (by simp [IOp.opds] at hy ⊢; simp [hy])
    show ret (slL s (opd x e) l r m e) h n = ret (slL s (opd x e2) l r m e2) h n
    unfold slL
    simp only [hx, hl, hr, hm]
  | s3 m s x l r =>
    have hx : opd x e = opd x e2 := hi x (by simp [IOp.opds])
    have hl : ∀ d K, bnd l e d K = bnd l e2 d K := bnd_congr fun y hy => hi y (by simp [IOp.opds] at hy ⊢; simp [hy])
    have hr : ∀ d K, bnd r e d K = bnd r e2 d K := bnd_congr fun y hy => hi y (by simp [IOp.opds] at hy ⊢; simp [hy])
    show ret (slA m s (opd x e) l r e) h n = ret (slA m s (opd x e2) l r e2) h n
    unfold slA
    simp only [hx, hl, hr]
  | bd z ps => show ret (build z ps e) h n = ret (build z ps e2) h n; unfold build; rw [fill_congr ps z hi]
  | bl t s m z ps => show bslice t s m z ps e h n = bslice t s m z ps e2 h n; unfold bslice; rw [fill_congr ps _ hi]
  | mf f c => show ret (mkFn f c e) h n = ret (mkFn f c e2) h n; unfold mkFn; rw [caps_congr c hi]
  | cf p a => show F lo p (args a e) h n = F lo p (args a e2) h n; rw [args_congr (c := a) hi]
  | cq p a => show pure3 n (fun m => F m p (args a e) h m) h n = pure3 n (fun m => F m p (args a e2) h m) h n; rw [args_congr (c := a) hi]
  | xt i a => show ret (I i (args a e) h) h n = ret (I i (args a e2) h) h n; rw [args_congr (c := a) hi]
  | cc x a =>
    have hx : opd x e = opd x e2 := hi x (by simp [IOp.opds])
    show callV F lo (opd x e) (args a e) h n = callV F lo (opd x e2) (args a e2) h n
    rw [hx, args_congr (c := a) fun y hy => hi y (by simp [IOp.opds]; exact .inr hy)]
  | al t z => rfl
  | mk => rfl
  | bad => rfl
end
/- the operands that the translation names -/
theorem trParts_opds {f : Nat → Option (Nat × Nat)} : ∀ (ps : List (Nat × Operand)) (l : List (Nat × Nat × Opd)), trParts f ps = some l → ∀ y ∈ l.map (·.2.2), ∃ x ∈ ps.map (·.2), y = trO x
  | [], l, h, y, hy => by
    have h : some [] = some l := h
    injection h with h; subst h; simp at hy
  | (i, x) :: ps, l, h, y, hy => by
    simp only [trParts] at h
    split at h
    · rename_i o k s hf hr
      rw [beq_nat, cond_eq_ite] at h
      split at h
      · cases h
      · injection h with h; subst h
        simp only [List.map_cons, List.mem_cons] at hy
        rcases hy with rfl | hy
        · exact ⟨x, by simp, rfl⟩
        · obtain ⟨x', h1, h2⟩ := trParts_opds ps s hr y hy
          exact ⟨x', by simp only [List.map_cons, List.mem_cons]; exact .inr h1, h2⟩
    · cases h
theorem bif_mem {c : Bool} {p q : IOp} {y : Opd} (h : y ∈ (bif c then p else q).opds) : y ∈ p.opds ∨ y ∈ q.opds := by cases c; exact .inr h; exact .inl h
theorem trEq_opds {T : TT} {k : Bool} {t : TypeId} {x y : Opd} {i : Bool} : ∀ z ∈ (trEq T k t x y i).opds, z = x ∨ z = y := by
  intro z hz
  unfold trEq at hz
  repeat' split at hz
  all_goals first
    | (simp [IOp.opds] at hz; done)
    | (simp [IOp.opds] at hz; exact hz)
    | (rcases bif_mem hz with hz | hz <;> simp [IOp.opds] at hz <;> exact hz)
theorem trBin_opds {T : TT} {b : BinOp} {t : TypeId} {x y : Operand} : ∀ z ∈ (trBin T b t x y).opds, z = trO x ∨ z = trO y := by
  intro z hz
  by_cases h1 : b = .eql
  · subst h1; exact trEq_opds z hz
  · by_cases h2 : b = .neq
    · subst h2; exact trEq_opds z hz
    · rw [trBin_arith h1 h2] at hz
      repeat' split at hz
      all_goals (simp [IOp.opds] at hz; try exact hz)
theorem trBuiltin_opds {T : TT} {b : Builtin} {ts : List TypeId} {l : List Operand} : ∀ y ∈ (trBuiltin T b ts l).opds, ∃ x ∈ l, y = trO x := by
  intro y hy
  unfold trBuiltin at hy
  repeat' split at hy
  all_goals first
    | (simp [IOp.opds] at hy; done)
    | (simp [IOp.opds] at hy; simp [hy]; done)
    | (simp [IOp.opds] at hy; rcases hy with rfl | rfl <;> simp; done)
    | (rcases bif_mem hy with hy | hy <;> simp [IOp.opds] at hy; rcases hy with rfl | rfl <;> simp; done)
theorem trOp_opds {T : TT} {C : CT} (o : Op) : ∀ y ∈ (trOp T C o).opds, ∃ x ∈ o.operands.toList, y = trO x := by
  intro y hy
  have pts : ∀ {f : Nat → Option (Nat × Nat)} {ps : Array (Nat × Operand)} {l : List (Nat × Nat × Opd)}, trParts f ps.toList = some l → y ∈ l.map (·.2.2) → ∃ x ∈ ((ps.toList.map (·.2)).toArray).toList, y = trO x :=
    fun h hy => trParts_opds _ _ h y hy
  cases o with
  | binOp b t u v s =>
    rcases trBin_opds y hy with h | h
    · exact ⟨u, by simp [Op.operands], h⟩
    · exact ⟨v, by simp [Op.operands], h⟩
  | build t ps =>
    simp only [trOp, trBuild] at hy
    repeat' split at hy
    all_goals first
      | (rename_i h; exact pts h hy)
      | (simp [IOp.opds] at hy; done)
  | buildSlice t n ps =>
    simp only [trOp] at hy
    repeat' split at hy
    all_goals first
      | (simp [IOp.opds] at hy; done)
      | (rename_i h; rcases bif_mem hy with hy | hy
         · exact pts h hy
         · simp [IOp.opds] at hy)
  | slice t x lo hi mx =>
    have key : ∀ {l : List Opd}, (∀ z ∈ l, z = trO x ∨ z ∈ (lo.map trO).toList ∨ z ∈ (hi.map trO).toList ∨ z ∈ (mx.map trO).toList) → y ∈ l → ∃ x' ∈ (Op.slice t x lo hi mx).operands.toList, y = trO x' := by
      intro l hl hy
      rcases hl y hy with h | h | h | h
      · exact ⟨x, by simp [Op.operands], h⟩
      · simp at h; obtain ⟨a, h1, h2⟩ := h; exact ⟨a, by simp [Op.operands, h1], h2.symm⟩
      · simp at h; obtain ⟨a, h1, h2⟩ := h; exact ⟨a, by simp [Op.operands, h1], h2.symm⟩
      · simp at h; obtain ⟨a, h1, h2⟩ := h; exact ⟨a, by simp [Op.operands, h1], h2.symm⟩
    simp only [trOp] at hy
    repeat' split at hy
    all_goals first
      | (simp [IOp.opds] at hy; done)
      | (refine key ?_ hy; intro z hz; simp only [IOp.opds, List.mem_cons, List.mem_append] at hz ⊢; (first | exact hz.imp id fun h => h.imp id .inl | (rcases hz with h | (h | h) | h; exact .inl h; exact .inr (.inl h); exact .inr (.inr (.inl h)); exact .inr (.inr (.inr h)))); done)
      | (rcases bif_mem hy with hy | hy
         · simp [IOp.opds] at hy
         · refine key ?_ hy; intro z hz; simp only [IOp.opds, List.mem_cons, List.mem_append] at hz ⊢; rcases hz with h | (h | h) | h; exact .inl h; exact .inr (.inl h); exact .inr (.inr (.inl h)); exact .inr (.inr (.inr h)))
  | makeFunc f a c =>
    cases f <;> simp only [trOp] at hy
    all_goals (try split at hy)
    all_goals first
      | (simp [IOp.opds] at hy; done)
      | (simp only [IOp.opds, List.mem_map] at hy
         obtain ⟨x, h1, h2⟩ := hy
         exact ⟨x, by simp only [Op.operands, Array.toList_append, List.mem_append]; exact .inr h1, h2.symm⟩)
  | call c =>
    obtain ⟨cal, as, ts⟩ := c
    cases cal with
    | builtin b =>
      obtain ⟨x, h1, h2⟩ := trBuiltin_opds y hy
      exact ⟨x, by simp only [Op.operands, Call.operands, Array.toList_append, List.mem_append]; exact .inr h1, h2⟩
    | invoke r m => simp [trOp, IOp.opds] at hy
    | value f =>
      have all : ∀ {y}, y ∈ as.toList.map trO → ∃ x ∈ (Op.call ⟨.value f, as, ts⟩).operands.toList, y = trO x := by
        intro y hy
        obtain ⟨x, h1, h2⟩ := List.mem_map.1 hy
        exact ⟨x, by simp only [Op.operands, Call.operands, Array.toList_append, List.mem_append]; exact .inr h1, h2.symm⟩
      cases f with
      | tmp t =>
        simp only [trOp, IOp.opds, List.mem_cons] at hy
        rcases hy with h | h
        · exact ⟨.tmp t, by simp [Op.operands, Call.operands], h⟩
        · exact all h
      | func f =>
        simp only [trOp] at hy
        split at hy
        · exact all hy
        · exact all hy
        · exact all hy
        · split at hy
          · rename_i x hx
            simp only [IOp.opds, List.mem_singleton] at hy
            exact ⟨x, by simp only [Op.operands, Call.operands, Array.toList_append, List.mem_append, hx]; simp, hy⟩
          · simp [IOp.opds] at hy
      | const v => simp [trOp, IOp.opds] at hy
      | global g => simp [trOp, IOp.opds] at hy
  | convert s d x =>
    simp only [trOp, trConv] at hy
    have : y = trO x := by
      repeat' split at hy
      all_goals first
        | (simp [IOp.opds] at hy; done)
        | (simp [IOp.opds] at hy; exact hy)
        | (rcases bif_mem hy with hy | hy <;> simp [IOp.opds] at hy <;> exact hy)
    exact ⟨x, by simp [Op.operands], this⟩
  | unOp u t x =>
    cases u <;> simp [trOp, IOp.opds] at hy
    exact ⟨x, by simp [Op.operands], hy⟩
  | makeMap t r => cases r <;> simp [trOp, IOp.opds] at hy
  | _ =>
    simp only [trOp] at hy
    repeat' split at hy
    all_goals first
      | (simp [IOp.opds] at hy; done)
      | (simp [IOp.opds] at hy; simp [Op.operands]; exact hy)
      | (replace hy := bif_mem hy; simp [IOp.opds] at hy; simp [Op.operands]; exact hy)
end Go.Ev
