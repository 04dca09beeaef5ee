/-
  Regions that draw their order: each order ends where the canonical one does.
-/
import Derived.Test.YtfihakfjjoednaaGreatDoorEg
import Derived.Test.YtfihakfjjoednaaGreatDoorEa
import Derived.Lib.Bytealg
import Derived.Lib.MakeNoZero
set_option linter.all false
namespace Go.Ev
theorem hget_hset_self (v : AO) (t : H) {i : Nat} (h : i ≤ 1000000) : hget (hset i v t) i = v := by rw [hget_hset _ _ _ _ h, if_pos rfl]
theorem ret_ne {v : V} {h : H} {n : Nat} (hv : v ≠ .er) : ret v h n = .ok v h n := by
  cases v with
  | er => exact absurd rfl hv
  | q x => exact ret_q x h n
  | o x => rfl
theorem dep_bif {c : Bool} {p q : IOp} (h : (bif c then p else q).dep = 1) : p.dep = 1 ∨ q.dep = 1 := by cases c; exact .inr h; exact .inl h
theorem trOp_ld {T : TT} {C : CT} (o : Op) (h : (trOp T C o).dep = 1) : ∃ ty A, o = .load ty A ∧ (trOp T C o).at_ = trO A := by
  cases o with
  | load t a =>
    refine ⟨t, a, rfl, ?_⟩
    simp only [trOp] at h ⊢
    split at h
    · rename_i i hi; simp only [IOp.at_]
    · cases h
  | binOp b t u v s =>
    exfalso
    have heq : ∀ k i, (trEq T k t (trO u) (trO v) i).dep = 1 → False := by
      intro k i h
      unfold trEq at h
      repeat' split at h
      all_goals first
        | (simp [IOp.dep] at h; done)
        | (rcases dep_bif h with h | h <;> simp [IOp.dep] at h)
    by_cases h1 : b = .eql
    · subst h1; exact heq _ _ h
    · by_cases h2 : b = .neq
      · subst h2; exact heq _ _ h
      · have h : (trBin T b t u v).dep = 1 := h
        rw [trBin_arith h1 h2] at h
        repeat' split at h
        all_goals (simp [IOp.dep] at h)
  | build t ps =>
    exfalso
    simp only [trOp, trBuild] at h
    repeat' split at h
    all_goals (simp [IOp.dep] at h)
  | makeFunc f a c =>
    exfalso
    cases f <;> simp only [trOp] at h
    all_goals (try split at h)
    all_goals (simp [IOp.dep] at h)
  | call c =>
    exfalso
    obtain ⟨cal, as, ts⟩ := c
    cases cal with
    | builtin b =>
      have h : (trBuiltin T b ts.toList as.toList).dep = 1 := h
      unfold trBuiltin at h
      repeat' split at h
      all_goals first
        | (simp [IOp.dep] at h; done)
        | (rcases dep_bif h with h | h <;> simp [IOp.dep] at h)
    | invoke r m => simp [trOp, IOp.dep] at h
    | value f =>
      cases f with
      | tmp t => simp [trOp, IOp.dep] at h
      | func f =>
        simp only [trOp] at h
        split at h
        · simp [IOp.dep] at h
        · simp [IOp.dep] at h
        · simp [IOp.dep] at h
        · split at h <;> simp [IOp.dep] at h
      | const v => simp [trOp, IOp.dep] at h
      | global g => simp [trOp, IOp.dep] at h
  | convert s d x =>
    exfalso
    simp only [trOp, trConv] at h
    repeat' split at h
    all_goals first
      | (simp [IOp.dep] at h; done)
      | (rcases dep_bif h with h | h <;> simp [IOp.dep] at h)
  | unOp u t x => exfalso; cases u <;> simp [trOp, IOp.dep] at h
  | makeMap t r => exfalso; cases r <;> simp [trOp, IOp.dep] at h
  | _ =>
    exfalso
    simp only [trOp] at h
    repeat' split at h
    all_goals first
      | (simp [IOp.dep] at h; done)
      | (rcases dep_bif h with h | h <;> simp [IOp.dep] at h)
section
variable {P : Program} {T : TT} {C : CT} {N : Nat} {I : Itr} {F : Cal} {lo : Nat} {ops : Array Oper} {es : Nat → E} {hs : Nat → H} {ns : Nat → Nat} {φ0 : Ph} {w0 : World} {listed : Array Bool} {φ : Ph} {g : Nat → AO} {a : Act} {w : World}
  {K : Act → World → Prop} {Q : Exit → Act → World → Prop}
/-- Who turned a row that an operation looks at. -/
theorem Inv.turned (c : Can T C N I F lo ops es hs ns) (hv : Inv N lo ops es hs ns φ0 w0 listed φ g a w) {i : Nat} {o : Oper} (ho : ops[i]? = some o) (hni : ¬ Done listed i)
    (hrdy : ∀ ed ∈ o.after, Region.binds .any ed = true → Done listed ed.on) {id : Nat}
    (hd : (trOp T C o.op).dep ≠ 0) (hun : ∀ k q, i < k → ops[k]? = some q → (trOp T C o.op).dep = 1 → (∀ c o', opd (trOp T C o.op).at_ (es k) = .q (.o (.pt c o')) → hget (hs (k + 1)) c = hget (hs k) c) → ¬ Ch hs k id) :
    ∀ k < ops.size, id < ns k → Ch hs k id → (Done listed k ↔ k < i) := by
  intro k hk hidk hc
  have hok : ops[k]? = some ops[k] := Array.getElem?_eq_getElem hk
  rcases Nat.lt_trichotomy k i with h | rfl | h
  · refine ⟨fun _ => h, fun _ => ?_⟩
    have ck := c.ch hok hidk hc
    cases hcm : cmpb (Region.before ops).toList k i with
    | false => have := (ck.2 i o ho (by omega) hd hcm).2.1; omega
    | true =>
      unfold cmpb at hcm
      rw [Bool.or_eq_true] at hcm
      rcases hcm with hb | hb
      · have := c.bit_lt hb; omega
      · exact hv.shut.bit i (fun o' ho' => by rw [ho] at ho'; injection ho' with ho'; subst ho'; exact hrdy) k hb
  · exact ⟨fun h => absurd h hni, fun h => by omega⟩
  · refine ⟨fun hdk => ?_, fun h' => by omega⟩
    exfalso
    have ck := c.ch hok hidk hc
    cases hcm : cmpb (Region.before ops).toList k i with
    | false =>
      obtain ⟨r1, _, r3⟩ := ck.2 i o ho (by omega) hd hcm
      exact hun k _ h hok r1 r3 hc
    | true =>
      unfold cmpb at hcm
      rw [Bool.or_eq_true] at hcm
      rcases hcm with hb | hb
      · exact hni (hv.shut.bit k (fun o' ho' => hv.shut k o' ho' hdk) i hb)
      · have := c.bit_lt hb; omega
theorem Inv.sr (c : Can T C N I F lo ops es hs ns) (hv : Inv N lo ops es hs ns φ0 w0 listed φ g a w) {i : Nat} {o : Oper} (ho : ops[i]? = some o) (hni : ¬ Done listed i)
    (hrdy : ∀ ed ∈ o.after, Region.binds .any ed = true → Done listed ed.on) : ∀ t ∈ o.looksAt ops, t < 256 → VR (cutP φ (ns i)) (eget (slot t) (es i)) (a.tmps.getD t undef) := by
  have hi : i < ops.size := (Array.getElem?_eq_some_iff.1 ho).1
  intro t ht h256
  refine hv.val t h256 i (by omega) fun j p hj hp => ?_
  rcases (drawOk_spec c.draw i o ho).2.1 t ht j p hj hp with ⟨h1, h2⟩ | ⟨h1, rfl | h2⟩
  · exact ⟨fun _ => h1, fun _ => hv.shut.bit i (fun o' ho' => by rw [ho] at ho'; injection ho' with ho'; subst ho'; exact hrdy) j h2⟩
  · exact ⟨fun h => absurd h hni, fun h => by omega⟩
  · exact ⟨fun h => absurd (hv.shut.bit j (fun o' ho' => hv.shut j o' ho' h) i h2) hni, fun h => by omega⟩
theorem Inv.op (hT : TOk P T) (hC : CTOk P C I) (hF : CallsOk P F) (hg0 : GOk φ0) (hg8 : 8 ≤ ns 0) (c : Can T C N I F lo ops es hs ns) (hv : Inv N lo ops es hs ns φ0 w0 listed φ g a w) {i : Nat} {o : Oper} (ho : ops[i]? = some o) (hni : ¬ Done listed i)
    (hrdy : ∀ ed ∈ o.after, Region.binds .any ed = true → Done listed ed.on) (hK : ∀ φ' g' a' w', Inv N lo ops es hs ns φ0 w0 (listed.setIfInBounds i true) φ' g' a' w' → K a' w') : wpOp P ops Q i K a w := by
  have hi : i < ops.size := (Array.getElem?_eq_some_iff.1 ho).1
  have hsr := hv.sr c ho hni hrdy
  have hdom : Dom (cutP φ (ns i)) (ns i) := ⟨fun id h => cutP_ge h, c.le (by omega)⟩
  have h0i : ns 0 ≤ ns i := c.mono (Nat.zero_le _) (by omega)
  obtain ⟨s1, s2, s3, s4⟩ := c.spec ho
  have hgs : ∀ {x e' h' n'} (yes no : Res), guard (trIn T C N ops o).g (es i) yes no .no = .ok x e' h' n' → _ := fun {x e' h' n'} yes no hh =>
    guard_spec (φ := cutP φ (ns i)) (a := a) (o := o) (ops := ops) (fun j w' d hj hd => hsr d (by
      refine List.mem_append_right _ ?_
      rw [hj]; simp [hd]) (by
      rcases s4 with ⟨h1, _⟩ | ⟨j', w'', d', h1, h2, h3, _⟩
      · rw [h1] at hj; cases hj
      · rw [h1] at hj
        simp only [Option.some.injEq, Prod.mk.injEq] at hj
        obtain ⟨rfl, _⟩ := hj
        rw [h2] at hd; injection hd with hd; subst hd; exact Nat.lt_succ_of_le h3)) s4 hh
  unfold wpOp
  simp only [ho]
  have hnorep : ∀ b, ¬ Own lo (cutP φ (ns i)) (fun _ => AO.no) b := fun b ⟨_, _, _, _, h, _⟩ => h rfl
  have hobj : ∀ id p, cutP φ (ns i) id = some p → ∃ o', w.heap[p.b]? = some o' := fun id p hp =>
    let ⟨o', h1, _⟩ := hv.rep.obj id p (cutP_some hp).2; ⟨o', h1⟩
  rcases c.run ho with ⟨hgy, v, lo', hl1, hl2, hop, hes, _⟩ | ⟨hgn, hes, hh, hn⟩
  · -- carried out
    have hw : Region.wanted o (yielded ops a.tmps) = true := by
      rcases hgs (.ok .nm e0 .nil 0) (.ok .rt e0 .nil 0) (hgy _ _) with ⟨h, _⟩ | ⟨_, h⟩
      · exact h
      · rw [hgy] at h; cases h
    rw [hw, if_pos rfl]
    left
    rw [evOp_congr (e := es i) (e2 := mask (o.looksAt ops) (es i)) _ fun y hy => (opd_mask y hy).symm] at hop
    have hS : SR (cutP φ (ns i)) (mask (o.looksAt ops) (es i)) a := by
      intro t ht
      rw [eget_mask ht]
      split
      · rename_i hm; exact hsr t hm ht
      · trivial
    have hG : GOk (cutP φ (ns i)) := fun q hq => by
      obtain ⟨l, hl⟩ := hg0 q hq
      exact ⟨l, by rw [cutP_lt (by omega), hv.old q (by omega)]; exact hl⟩
    have fin : ∀ (k1 k2 : H), evOp (trOp T C o.op) I F lo' (mask (o.looksAt ops) (es i)) k1 (ns i) = .ok v k2 (ns (i + 1)) → Rep (cutP φ (ns i)) (hget k1) w →
        (∀ id < ns i, φ id ≠ none → hget k1 id ≠ .no → hget k1 id = g id) →
        (∀ id, ns i ≤ id → id < ns (i + 1) → hget k2 id = hget (hs (i + 1)) id) →
        (∀ id < ns i, φ id ≠ none → hget k1 id ≠ .no → hget k2 id = hget (hs (i + 1)) id ∧ g id = hget (hs i) id) →
        ((∀ id < ns i, ¬ Ch hs i id) ∨ (k1 = hs i ∧ k2 = hs (i + 1))) → o.wp P a w K Q := by
      intro k1 k2 hev hrep u4 u5 u6 u7
      refine op_ok hT hS hG hrep hdom hC hF hl2 hev K Q ?_
      intro x ψ w1 hx hr1 hs1
      obtain ⟨φ', g', hinv⟩ := hv.next c ho hni hrdy (lo' := lo') (h2 := hget k1) (h2' := hget k2) hl1 hx hr1 hs1 u4 u5 u6 (fun id hid hne hno => by
        rcases u7 with h | ⟨h1, h2⟩
        · exact h id hid
        · intro hc
          apply hc
          have hd := hs1.dead id hid hno
          rw [← h1, ← h2, hno, hd]) (fun id hid hno => by
        rcases u7 with h | ⟨h1, h2⟩
        · exact h id hid
        · intro hc
          apply hc
          rw [← h1, ← h2]
          exact hs1.abs id hid (by rw [cutP_lt hid]; exact hno)) hes
      exact hK _ _ _ _ hinv
    rcases dep_le (trOp T C o.op) with hd | hd | hd
    · -- no heap
      rcases dep_zero _ hd I F (mask (o.looksAt ops) (es i)) (ns i) with ⟨u, hu⟩ | ⟨ob, f, hu⟩ | hu
      · rw [hu] at hop
        obtain ⟨q1, q2, q3, q4⟩ := ret_ok hop
        refine fin .nil .nil ?_ ⟨fun id p hp => ?_, fun i j p q _ _ h => absurd (hget_nil i) h⟩ (fun id _ _ h => absurd (hget_nil id) h) (fun id h1 h2 => by omega) (fun id _ _ h => absurd (hget_nil id) h) (.inl fun id _ hc => hc (by rw [q3]))
        · rw [hu, q4, ret_ne q1, q2]
        · obtain ⟨o', h1⟩ := hobj id p hp
          exact ⟨o', h1, by rw [hget_nil]; trivial⟩
      · rw [hu] at hop
        obtain ⟨q1, q2, q3, q4⟩ := alloc_some hop
        refine fin .nil (hset (ns i) ob .nil) ?_ ⟨fun id p hp => ?_, fun i j p q _ _ h => absurd (hget_nil i) h⟩ (fun id _ _ h => absurd (hget_nil id) h) (fun id h1 h2 => ?_) (fun id _ _ h => absurd (hget_nil id) h) (.inl fun id hid hc => hc ?_)
        · rw [hu]
          have : alloc ob f .nil (ns i) = .ok (f (ns i)) (hset (ns i) ob .nil) (ns i + 1) := by
            unfold alloc
            rw [fN_eq, ble_nat, cond_eq_ite, if_pos (by simpa using q4)]
          rw [this, q1, q3]
        · obtain ⟨o', h1⟩ := hobj id p hp
          exact ⟨o', h1, by rw [hget_nil]; trivial⟩
        · obtain rfl : id = ns i := by omega
          rw [q2, hget_hset_self _ _ (by omega), hget_hset_self _ _ (by omega)]
        · rw [q2, hget_hset_ne _ _ _ _ (by omega)]
      · rw [hu] at hop; cases hop
    · -- a load
      obtain ⟨ty, A, hA, hat⟩ := trOp_ld o.op hd
      obtain ⟨gg, m, x, hx⟩ := dep_one _ hd
      have hatx : x = trO A := by rw [hx] at hat; exact hat
      rw [hx] at hop
      have hop : ret (loadV gg m (opd x (mask (o.looksAt ops) (es i))) (hs i)) (hs i) (ns i) = .ok v (hs (i + 1)) (ns (i + 1)) := hop
      obtain ⟨q1, q2, q3, q4⟩ := ret_ok hop
      obtain ⟨cc, oo, hco⟩ := loadV_ptr q1
      have hxi : opd x (es i) = .q (.o (.pt cc oo)) := by
        rw [← hco]
        exact (opd_mask x (by rw [hx]; simp [IOp.opds])).symm
      obtain ⟨pc, hpc, _⟩ : VR (cutP φ (ns i)) (.q (.o (.pt cc oo))) (a.eval A) := by
        rw [← hco, hatx]; exact opd_VR hS hG A
      obtain ⟨hclt, hpc'⟩ := cutP_some hpc
      have hrow := hv.row cc (by rw [hpc']; simp) i (by omega) hclt (hv.turned c ho hni hrdy (by rw [hd]; decide) fun k q hik hk _ hun hc => by
        refine hc (hun cc oo ?_)
        have : opd (trO A) (es k) = opd (trO A) (es i) := by
          cases A with
          | tmp t =>
            simp only [trO, ble_nat, cond_eq_ite, decide_eq_true_eq]
            split
            · exact c.slot_chain (by omega) (by omega) (by have := (Array.getElem?_eq_some_iff.1 hk).1; omega) fun k' p h1 h2 hk' hp => by
                have := (drawOk_spec c.draw i o ho).2.2.1 ty t hA k' p hk' hp
                omega
            · rfl
          | const v => rfl
          | global q => simp only [trO]; cases Nat.ble q 7 <;> rfl
          | func f => rfl
        rw [hat, this, ← hatx]; exact hxi)
      have hlive : ∀ id, hget (hset cc (hget (hs i) cc) .nil) id ≠ .no → id = cc := fun id h => by
        by_cases hid : id = cc
        · exact hid
        · exact absurd (by rw [hget_hset_ne _ _ _ _ hid]; exact hget_nil id) h
      have hself : hget (hset cc (hget (hs i) cc) .nil) cc = hget (hs i) cc := hget_hset_self _ _ (by have := c.le (k := i) (by omega); omega)
      refine fin (hset cc (hget (hs i) cc) .nil) (hset cc (hget (hs i) cc) .nil) ?_ ⟨fun id p hp => ?_, fun id j p q _ _ h1 h2 _ => by rw [hlive id h1, hlive j h2]⟩ (fun id _ _ h => ?_) (fun id h1 h2 => by omega) (fun id _ _ h => ?_) (.inl fun id _ hc => hc (by rw [q3]))
      · rw [hx]
        show ret (loadV gg m (opd x (mask (o.looksAt ops) (es i))) _) _ (ns i) = _
        rw [hco] at q1 q2 ⊢
        rw [loadV_row (h := hs i) hself, ret_ne q1, q2, q4]
      · by_cases hid : id = cc
        · subst hid
          rw [hself]
          obtain ⟨o', h1, h2⟩ := hv.rep.obj id p (cutP_some hp).2
          exact ⟨o', h1, hrow.2 _ _ _ (by rw [← hrow.1]; exact h2)⟩
        · obtain ⟨o', h1⟩ := hobj id p hp
          exact ⟨o', h1, by rw [hget_hset_ne _ _ _ _ hid, hget_nil]; trivial⟩
      · obtain rfl := hlive id h
        rw [hself, hrow.1]
      · obtain rfl := hlive id h
        rw [hself, q3]
        exact ⟨rfl, hrow.1⟩
    · -- the heap
      have hrow := fun id (h1 : id < ns i) (h2 : φ id ≠ none) => hv.row id h2 i (by omega) h1 (hv.turned c ho hni hrdy (by rw [hd]; decide) fun k q _ _ h => by rw [hd] at h; cases h)
      refine fin (hs i) (hs (i + 1)) hop ⟨fun id p hp => ?_, fun id j p q h1 h2 h3 h4 h5 => ?_⟩ (fun id h1 h2 _ => (hrow id h1 h2).1.symm) (fun _ _ _ => rfl) (fun id h1 h2 _ => ⟨rfl, (hrow id h1 h2).1⟩) (.inr ⟨rfl, rfl⟩)
      · obtain ⟨r1, r2⟩ := cutP_some hp
        obtain ⟨o', h1, h2⟩ := hv.rep.obj id p r2
        obtain ⟨r3, r4⟩ := hrow id r1 (by rw [r2]; simp)
        exact ⟨o', h1, r4 _ _ _ (by rw [← r3]; exact h2)⟩
      · obtain ⟨r1, r2⟩ := cutP_some h1
        obtain ⟨t1, t2⟩ := cutP_some h2
        refine hv.rep.inj id j p q r2 t2 ?_ ?_ h5
        · rw [(hrow id r1 (by rw [r2]; simp)).1]; exact h3
        · rw [(hrow j t1 (by rw [t2]; simp)).1]; exact h4
  · -- left out
    have hw : Region.wanted o (yielded ops a.tmps) = false := by
      rcases hgs (.ok .rt e0 .nil 0) (.ok .nm e0 .nil 0) (hgn _ _) with ⟨_, h⟩ | ⟨h, _⟩
      · rw [hgn] at h; cases h
      · exact h
    rw [hw]
    simp only [Bool.false_eq_true, if_false]
    obtain ⟨φ', g', hinv⟩ := hv.next c ho hni hrdy (lo' := lo) (ψ := cutP φ (ns i)) (h2 := fun _ => .no) (h2' := fun _ => .no) (v := .o .un) (x := undef) (w' := w) (Nat.le_refl _) (VR_un _)
      ⟨fun id p hp => (hobj id p hp).imp fun _ h => ⟨h, trivial⟩, fun _ _ _ _ _ _ h => absurd rfl h⟩ (by rw [hn]; exact Stp.refl lo _ w hdom) (fun _ _ _ h => absurd rfl h) (fun id h1 h2 => by omega) (fun _ _ _ h => absurd rfl h)
      (fun id _ _ _ hc => hc (by rw [hh])) (fun id _ _ hc => hc (by rw [hh])) hes
    exact hK _ _ _ _ hinv
end
end Go.Ev
namespace Go.Ev
section
variable {P : Program} {T : TT} {C : CT} {N : Nat} {I : Itr} {F : Cal} {lo : Nat} {ops : Array Oper} {es : Nat → E} {hs : Nat → H} {ns : Nat → Nat} {φ0 : Ph} {w0 : World} {listed : Array Bool} {φ : Ph} {g : Nat → AO} {a : Act} {w : World}
  {Q : Exit → Act → World → Prop}
/-- Behind the last operation. -/
theorem Inv.last (c : Can T C N I F lo ops es hs ns) (hv : Inv N lo ops es hs ns φ0 w0 listed φ g a w) (hall : ∀ j < ops.size, Done listed j)
    (hlow : ∀ id < ns 0, id < lo → hget (hs ops.size) id = hget (hs 0) id) :
    AR N φ (es ops.size) a ∧ Rep φ (hget (hs ops.size)) w ∧ Stp lo φ0 (hget (hs 0)) (ns 0) w0 φ (hget (hs ops.size)) (ns ops.size) w := by
  have hle : ns 0 ≤ ns ops.size := c.mono (Nat.zero_le _) (Nat.le_refl _)
  have hlt : ∀ id p, φ id = some p → id < ns ops.size := fun id p hp => by
    rcases hv.dom id p hp with h | ⟨j, hj, _, _, h⟩
    · omega
    · exact Nat.lt_of_lt_of_le h (c.mono hj (Nat.le_refl _))
  have hrow : ∀ id p, φ id = some p → g id = hget (hs ops.size) id := fun id p hp =>
    (hv.row id (by rw [hp]; simp) ops.size (Nat.le_refl _) (hlt id p hp) fun k hk _ _ => ⟨fun _ => hk, fun _ => hall k hk⟩).1
  have habs : ∀ id < ns 0, φ0 id = none → hget (hs ops.size) id = hget (hs 0) id := fun id hid h0 =>
    c.row_chain (Nat.zero_le _) fun k _ hk => hv.abs k hk (hall k hk) id hid h0
  refine ⟨⟨fun t ht => (hv.val t ht ops.size (Nat.le_refl _) fun j p hj _ => ?_).mono (cutP_sub _ _), hv.tsz, hv.df⟩, ⟨fun id p hp => ?_, fun id j p q h1 h2 h3 h4 h5 => ?_⟩,
    hle, hv.szw, hv.old, ⟨fun id hid => ?_, c.top⟩, hv.new, fun id hid h0 => ?_, hlow, habs, hv.fr, hv.io⟩
  · have hlt := (Array.getElem?_eq_some_iff.1 hj).1
    exact ⟨fun _ => hlt, fun _ => hall j hlt⟩
  · rw [← hrow id p hp]; exact hv.rep.obj id p hp
  · exact hv.rep.inj id j p q h1 h2 (by rw [hrow id p h1]; exact h3) (by rw [hrow j q h2]; exact h4) h5
  · cases hp : φ id with
    | none => rfl
    | some p => have := hlt id p hp; omega
  · cases hp : φ0 id with
    | none => rw [habs id hid hp, h0]
    | some p =>
      have hp' : φ id = some p := by rw [hv.old id hid]; exact hp
      rw [← hrow id p hp']
      exact hv.dead id hid (by rw [hp]; simp) h0
theorem not_done {j : Nat} (h : ¬ Done listed j) (hj : j < listed.size) : listed.getD j true = false := by
  unfold Done at h
  simp only [Array.getD_eq_getD_getElem?, Array.getElem?_eq_getElem hj, Option.getD_some] at h ⊢
  simpa using h
theorem Inv.any (hT : TOk P T) (hC : CTOk P C I) (hF : CallsOk P F) (hg0 : GOk φ0) (hg8 : 8 ≤ ns 0) (c : Can T C N I F lo ops es hs ns)
    (hQ : ∀ listed φ g a w, Inv N lo ops es hs ns φ0 w0 listed φ g a w → (∀ j < ops.size, Done listed j) → Q .normal a w) : ∀ (fuel : Nat) (listed : Array Bool) (φ : Ph) (g : Nat → AO) (a : Act) (w : World),
    Inv N lo ops es hs ns φ0 w0 listed φ g a w → cnt (fun j => listed.getD j false) ops.size = fuel → wpAny P .any ops Q fuel listed a w := by
  intro fuel
  induction fuel with
  | zero =>
    intro listed φ g a w hv hc
    have hall : ∀ j < ops.size, Done listed j := fun j hj => cnt_zero _ hc j hj
    refine ⟨List.eq_nil_iff_forall_not_mem.2 fun j hj => ?_, hQ _ _ _ _ _ hv hall⟩
    rw [mem_ready] at hj
    obtain ⟨h0, o, ho, _⟩ := hj
    have hlt := (Array.getElem?_eq_some_iff.1 ho).1
    have := hall j hlt
    unfold Done at this
    have hsz : j < listed.size := by rw [hv.sz]; exact hlt
    simp only [Array.getD_eq_getD_getElem?, Array.getElem?_eq_getElem hsz, Option.getD_some] at h0 this
    rw [h0] at this; cases this
  | succ fuel ih =>
    intro listed φ g a w hv hc
    refine ⟨fun h0 => hQ _ _ _ _ _ hv fun j => ?_, fun i hi => ?_⟩
    · induction j using Nat.strongRecOn with
      | ind j ihj =>
        intro hj
        refine Classical.byContradiction fun hn => ?_
        have hget : ops[j]? = some ops[j] := Array.getElem?_eq_getElem hj
        have hm : j ∈ Region.ready .any ops listed := mem_ready.2 ⟨not_done hn (by rw [hv.sz]; exact hj), ops[j], hget, fun ed he hb => by
          have := (drawOk_spec c.draw j _ hget).1 ed he hb
          exact ihj ed.on this (by omega)⟩
        rw [h0] at hm; cases hm
    · rw [mem_ready] at hi
      obtain ⟨h0, o, ho, hrdy⟩ := hi
      have hlt := (Array.getElem?_eq_some_iff.1 ho).1
      have hsz : i < listed.size := by rw [hv.sz]; exact hlt
      have hni : ¬ Done listed i := by
        unfold Done
        simp only [Array.getD_eq_getD_getElem?, Array.getElem?_eq_getElem hsz, Option.getD_some] at h0 ⊢
        rw [h0]; simp
      refine hv.op hT hC hF hg0 hg8 c ho hni hrdy fun φ' g' a' w' hv' => ih _ φ' g' a' w' hv' ?_
      have := cnt_set (f := fun j => listed.getD j false) (g := fun j => (listed.setIfInBounds i true).getD j false) (i := i) (by unfold Done at hni; simpa using hni) (fun j => ?_) ops.size hlt
      · omega
      · by_cases hj : j = i
        · subst hj
          simp [hsz]
        · have h' : i ≠ j := fun e => hj e.symm
          simp [Array.getElem?_setIfInBounds_ne h', hj]
/-- The start. -/
theorem Inv.first (c : Can T C N I F lo ops es hs ns) (ha : AR N φ0 (es 0) a) (hr : Rep φ0 (hget (hs 0)) w0) (hd : Dom φ0 (ns 0)) : Inv N lo ops es hs ns φ0 w0 (Array.replicate ops.size false) φ0 (hget (hs 0)) a w0 := by
  have hnd : ∀ j, ¬ Done (Array.replicate ops.size false) j := fun j h => by
    unfold Done at h
    simp [Array.getD_eq_getD_getElem?, Array.getElem?_replicate] at h
    split at h <;> simp at h
  have hcut : ∀ i ≤ ops.size, Sub φ0 (cutP φ0 (ns i)) := fun i hi id p hp => by
    have := num_lt hd.1 hp
    rw [cutP_lt (Nat.lt_of_lt_of_le this (c.mono (Nat.zero_le _) hi))]; exact hp
  refine ⟨by simp, fun j o _ h => absurd h (hnd j), ha.sz, ha.df, fun id p hp => .inl (num_lt hd.1 hp), fun _ _ => rfl, hr, fun id hid τ hτ hlt hcond => ?_, fun t ht i hi hcond => ?_, fun id p hid hp => ?_, fun _ _ _ h => h,
    fun k _ h => absurd h (hnd k), fun k _ h => absurd h (hnd k), fun _ _ _ => rfl, Nat.le_refl _, ⟨rfl, rfl⟩⟩
  · obtain ⟨p, hp⟩ := Option.ne_none_iff_exists'.1 hid
    have hid0 := num_lt hd.1 hp
    have := c.row_chain (i := 0) (id := id) (τ := τ) (Nat.zero_le _) fun k _ hk hc =>
      hnd k ((hcond k (by omega) (Nat.lt_of_lt_of_le hid0 (c.mono (Nat.zero_le _) (by omega))) hc).2 hk)
    rw [this]
    obtain ⟨o, _, h1⟩ := hr.obj id p hp
    exact ⟨rfl, (OR.fit hd.1 h1).mono (c.mono (Nat.zero_le _) hτ)⟩
  · rw [c.slot_chain ht (Nat.zero_le _) hi fun k p _ h2 hk hp => hnd k ((hcond k p hk hp).2 h2)]
    exact (ha.sr t ht).mono (hcut i hi)
  · rw [hd.1 id hid] at hp; cases hp
end
section
variable {P : Program} {T : TT} {C : CT} {N : Nat} {I : Itr} {F : Cal} {lo : Nat}
theorem Stp.drew {φ φ' : Ph} {g g' : Nat → AO} {n n' : Nat} {w w' : World} {d : Nat} (s : Stp lo φ g n { w with drawn := d } φ' g' n' w') : Stp lo φ g n w φ' g' n' w' :=
  ⟨s.le, s.sz, s.old, s.dom, s.new, s.dead, s.low, s.abs, s.fr, s.io⟩
theorem draw_ok (hT : TOk P T) (hC : CTOk P C I) (hF : CallsOk P F) (hL : Low F) (hm : P.follows .mixedOrders = true) : DrawOk P T C N I F lo := by
  intro id ops Q e h n φ a w r ha hg hr hd hlo hev hne hQ
  have hev : (bif drawOk ops then evC I F lo (.rd ((ops.toList.map (trIn T C N ops)).zipIdx.map fun (i, k) => ⟨trMd (Region.before ops).toList (qOf T C N ops) k i.o, i⟩)) else evC I F lo .bad) e h n = r := by
    rw [← hev]
    have e1 : trC T C N (.region id ops true) = (bif drawOk ops then .rd ((ops.toList.map (trIn T C N ops)).zipIdx.map fun (i, k) => ⟨trMd (Region.before ops).toList (qOf T C N ops) k i.o, i⟩) else .bad) := rfl
    rw [e1]
    cases drawOk ops <;> rfl
  cases hdr : drawOk ops with
  | false => rw [hdr] at hev; exact absurd hev.symm hne
  | true =>
    rw [hdr] at hev
    have hev : evD I F lo ((ops.toList.map (trIn T C N ops)).zipIdx.map fun (i, k) => ⟨trMd (Region.before ops).toList (qOf T C N ops) k i.o, i⟩) e h n = r := hev
    have hlow := evD_keeps (I := I) (lo := lo) hL ((ops.toList.map (trIn T C N ops)).zipIdx.map fun (i, k) => ⟨trMd (Region.before ops).toList (qOf T C N ops) k i.o, i⟩) e h n hlo
    obtain ⟨es, hs, ns, rfl, rfl, rfl, hres, htop, hst⟩ := evD_run _ e h n r hev hne
    rw [hev] at hlow
    have hlen : ((ops.toList.map (trIn T C N ops)).zipIdx.map fun (i, k) => (⟨trMd (Region.before ops).toList (qOf T C N ops) k i.o, i⟩ : Im)).length = ops.size := by simp
    rw [hlen] at hres htop
    have c : Can T C N I F lo ops es hs ns := ⟨hdr, hL, hlo, htop, fun k o ho => hst k _ (by simp [ho, imOf])⟩
    have hlow := (hlow _ _ _ _ hres).2
    refine wp_region_any hm ?_
    have hr' : Rep φ (hget (hs 0)) { w with drawn := w.drawn + 1 } := ⟨hr.obj, hr.inj⟩
    have hg8 : 8 ≤ ns 0 := by
      obtain ⟨l, hl⟩ := hg 7 (by omega)
      have := num_lt hd.1 hl
      omega
    have hv0 := Inv.first (lo := lo) c ha hr' hd
    refine Inv.any (φ0 := φ) (w0 := { w with drawn := w.drawn + 1 }) hT hC hF hg hg8 c (fun listed φ' g' a' w' hv hall => ?_) ops.size _ _ _ _ _ hv0 ?_
    · obtain ⟨h1, h2, h3⟩ := hv.last c hall hlow
      exact hQ .normal a' w' ⟨.nm, _, _, _, φ', hres, rfl, h1, h2, h3.drew⟩
    · have : ∀ m, cnt (fun j => (Array.replicate ops.size false).getD j false) m = m := by
        intro m
        induction m with
        | zero => rfl
        | succ m ih =>
          have hf : (Array.replicate ops.size false).getD m false = false := by
            simp [Array.getD_eq_getD_getElem?, Array.getElem?_replicate]
            split <;> simp
          simp only [cnt, hf]
          rw [ih]; simp; omega
      exact this _
end
end Go.Ev
namespace Go.Ev
section
variable {P : Program} {T : TT} {C : CT} {φ : Ph} {w : World} {e : E} {a : Act} {h : H} {lo n N : Nat} {I : Itr}
theorem load_run (hT : TOk P T) {t : TypeId} {i : TI} {xv : V} {x : Value} (hx : VR φ xv x) (hr : Rep φ (hget h) w) (ht : T t = some i) (hne : loadV i.k.agg i.size xv h ≠ .er) :
    ∃ ad y, x = .pointer (some ad) ∧ (loadVar t ad).run P w = .ok y w ∧ VR φ (loadV i.k.agg i.size xv h) y := by
  have hag := hT.isAgg ht w
  have hsz := hT.size ht w
  unfold loadV at hne ⊢
  split at hne
  · rename_i b oo
    obtain ⟨p, hp, hx⟩ := hx
    cases hagg : i.k.agg
    · simp only [hagg] at hne hag ⊢
      cases hh : hget h b with
      | row t' x' f c =>
        simp only [hh, dr_eq] at hne ⊢
        cases hd : c.drop oo with
        | nil => simp [hd] at hne
        | cons l r =>
          obtain ⟨v, hv, hlv⟩ := hr.cell hp hh (drop_cons hd)
          exact ⟨_, v, hx, by simp [loadVar, hag, hv], L.v_VR hlv⟩
      | no => simp [hh] at hne
      | ob _ => simp [hh] at hne
    · simp only [hagg] at hne hag ⊢
      cases hc : cellsAt h b oo i.size with
      | none => simp [hc] at hne
      | some cs =>
        obtain ⟨vs, h1, h2, h3⟩ := hr.cells hp hc
        refine ⟨_, .agg vs.toArray, hx, ?_, ⟨vs, rfl, h2⟩⟩
        have := run_loadCells_list (P := P) w ⟨p.b, p.base + oo, none⟩ vs h3
        rw [h1] at this
        simp [loadVar, hag, hsz, this]
  · exact absurd rfl hne
/-- One result. -/
def oneRes (tmps : Array Value) : ResultVar → Sem Value
  | .tmp t => pure (tmps.getD t undef)
  | .cell a t => do loadVar t (← asAddr (tmps.getD a undef))
theorem results_eq (fn : Func) (tmps : Array Value) : Go.results fn tmps = (do let vs ← fn.results.mapM (oneRes tmps); pure (if h : vs.size = 1 then vs[0] else .tuple vs)) := by
  unfold Go.results
  congr 1
theorem res1_run (hT : TOk P T) (hs : SR φ e a) (hr : Rep φ (hget h) w) {rv : ResultVar} {x : RV} (hx : trR T rv = some x) (hne : res1 x e h ≠ .er) : ∃ y, (oneRes a.tmps rv).run P w = .ok y w ∧ VR φ (res1 x e h) y := by
  cases rv with
  | tmp t =>
    simp only [trR, ble_nat, cond_eq_ite, decide_eq_true_eq] at hx
    split at hx
    · injection hx with hx; subst hx
      exact ⟨_, rfl, hs t (by omega)⟩
    · cases hx
  | cell ad t =>
    simp only [trR] at hx
    split at hx
    · rename_i i hi
      rw [ble_nat, cond_eq_ite] at hx
      split at hx
      · rename_i h255
        have h255 : ad < 256 := Nat.lt_succ_of_le (by simpa using h255)
        injection hx with hx; subst hx
        obtain ⟨b, y, h1, h2, h3⟩ := load_run (h := h) hT (hs ad h255) hr hi hne
        refine ⟨y, ?_, h3⟩
        simp only [oneRes, h1]
        show (loadVar t b).run P w = .ok y w
        exact h2
      · cases hx
    · cases hx
theorem resL_run (hT : TOk P T) (hs : SR φ e a) (hr : Rep φ (hget h) w) : ∀ (rvs : List ResultVar) (xs : List RV) (ts : List T0), rvs.mapM (trR T) = some xs → resL xs e h = some ts → ∃ ys, (rvs.mapM (oneRes a.tmps)).run P w = .ok ys w ∧ All2 (TR φ) ts ys
  | [], xs, ts, hx, ht => by
    simp at hx; subst hx
    have ht : some [] = some ts := ht
    injection ht with ht; subst ht
    exact ⟨[], rfl, trivial⟩
  | rv :: rvs, xs, ts, hx, ht => by
    rw [List.mapM_cons] at hx
    cases h1 : trR T rv with
    | none => simp [h1] at hx
    | some x =>
      cases h2 : rvs.mapM (trR T) with
      | none => simp [h1, h2] at hx
      | some xs' =>
        simp [h1, h2] at hx
        subst hx
        have e1 : resL (x :: xs') e h = (match res1 x e h with
          | .er => none
          | v => match resL xs' e h with
            | some t => some (v.t :: t)
            | none => none) := rfl
        rw [e1] at ht
        cases h3 : resL xs' e h with
        | none => rw [h3] at ht; split at ht <;> cases ht
        | some ts' =>
          have hne : res1 x e h ≠ .er := fun hh => by rw [hh] at ht; cases ht
          have ht : some ((res1 x e h).t :: ts') = some ts := by
            rw [h3] at ht
            rw [← ht]
            split
            · rename_i hh; exact absurd hh hne
            · rfl
          injection ht with ht; subst ht
          obtain ⟨y, g1, g2⟩ := res1_run hT hs hr h1 hne
          obtain ⟨ys, g3, g4⟩ := resL_run hT hs hr rvs xs' ts' h2 h3
          refine ⟨y :: ys, ?_, V.t_TR g2, g4⟩
          rw [List.mapM_cons]
          simp [g1, g3]
theorem results_run (hT : TOk P T) (hs : SR φ e a) (hr : Rep φ (hget h) w) {fn : Func} {r : List RV} (hx : fn.results.toList.mapM (trR T) = some r) (hne : results r e h ≠ .er) : ∃ y, (Go.results fn a.tmps).run P w = .ok y w ∧ VR φ (results r e h) y := by
  rw [results_eq, Array.mapM_eq_mapM_toList]
  have tup : ∀ ts, resL r e h = some ts → r.length ≠ 1 → ∃ y, (do let vs ← List.toArray <$> fn.results.toList.mapM (oneRes a.tmps); pure (if h : vs.size = 1 then vs[0] else .tuple vs) : Sem Value).run P w = .ok y w ∧ VR φ (.o (.tu ts)) y := by
    intro ts ht hlen
    obtain ⟨ys, g1, g2⟩ := resL_run hT hs hr _ _ ts hx ht
    refine ⟨.tuple ys.toArray, ?_, ⟨ys, rfl, g2⟩⟩
    have hl : ys.length ≠ 1 := by
      rw [← g2.length]
      have : ∀ (xs : List RV) ts, resL xs e h = some ts → ts.length = xs.length := by
        intro xs
        induction xs with
        | nil => intro ts ht; have ht : some [] = some ts := ht
                 injection ht with ht; subst ht; rfl
        | cons x xs ih =>
          intro ts ht
          have e1 : resL (x :: xs) e h = (match res1 x e h with
            | .er => none
            | v => match resL xs e h with
              | some t => some (v.t :: t)
              | none => none) := rfl
          rw [e1] at ht
          split at ht
          · cases ht
          · split at ht
            · rename_i h2; injection ht with ht; subst ht; simp [ih _ h2]
            · cases ht
      rw [this _ _ ht]; exact hlen
    simp [g1, hl]
  match r, hx, hne, tup with
  | [x], hx, hne, _ =>
    have hne : res1 x e h ≠ .er := hne
    cases hl : fn.results.toList with
    | nil => rw [hl] at hx; simp at hx
    | cons rv rvs =>
      rw [hl, List.mapM_cons] at hx
      cases h1 : trR T rv with
      | none => simp [h1] at hx
      | some x' =>
        cases h2 : rvs.mapM (trR T) with
        | none => simp [h1, h2] at hx
        | some xs' =>
          simp [h1, h2] at hx
          obtain ⟨rfl, rfl⟩ := hx
          have : rvs = [] := by
            cases rvs with
            | nil => rfl
            | cons rv2 rvs =>
              exfalso
              rw [List.mapM_cons] at h2
              cases h3 : trR T rv2 with
              | none => simp [h3] at h2
              | some x2 =>
                cases h4 : rvs.mapM (trR T) with
                | none => simp [h3, h4] at h2
                | some x3 => simp [h3, h4] at h2
          subst this
          obtain ⟨y, g1, g2⟩ := res1_run hT hs hr h1 hne
          refine ⟨y, ?_, g2⟩
          simp [g1]
  | [], hx, hne, tup =>
    exact tup [] rfl (by simp)
  | x :: y :: r, hx, hne, tup =>
    have e1 : results (x :: y :: r) e h = (match resL (x :: y :: r) e h with
      | some t => .o (.tu t)
      | none => .er) := rfl
    rw [e1] at hne ⊢
    cases h1 : resL (x :: y :: r) e h with
    | none => rw [h1] at hne; exact absurd rfl hne
    | some ts => exact tup ts h1 (by simp)
/- the arguments' slots -/
theorem enter_some {K : E → Res} {r : Res} (hne : r ≠ .no) : ∀ (vs : List V) (k m : Nat) (e : E), k + m ≤ 256 → enter vs ((List.range' k m).map slot) e K = r →
    ∃ e1, K e1 = r ∧ vs.length ≤ m ∧ ∀ t < 256, eget (slot t) e1 = if k ≤ t ∧ t < k + vs.length then vs.getD (t - k) .er else eget (slot t) e
  | [], k, m, e, _, hr => ⟨e, hr, by simp, fun t _ => by rw [if_neg (by simp; try omega)]⟩
  | v :: vs, k, 0, e, _, hr => absurd hr.symm hne
  | v :: vs, k, m + 1, e, hk, hr => by
    have e1 : enter (v :: vs) ((List.range' k (m + 1)).map slot) e K = esetK (slot k) v e fun e => enter vs ((List.range' (k + 1) m).map slot) e K := rfl
    rw [e1, esetK_eq] at hr
    obtain ⟨e2, g1, g2, g3⟩ := enter_some hne vs (k + 1) m _ (by omega) hr
    refine ⟨e2, g1, by simp; omega, fun t ht => ?_⟩
    rw [g3 t ht, eget_eset]
    by_cases h1 : k + 1 ≤ t ∧ t < k + 1 + vs.length
    · rw [if_pos h1, if_pos (by simp; omega)]
      have : t - k = (t - (k + 1)) + 1 := by omega
      rw [this]; rfl
    · rw [if_neg h1]
      by_cases h2 : t = k
      · subst h2
        rw [if_pos rfl, if_pos (by simp)]
        simp
      · have : slot t ≠ slot k := fun hh => h2 (slot_inj ht (by omega) hh)
        rw [if_neg this, if_neg (by simp; omega)]
theorem pth_eq : pth = (List.range' 0 24).map slot := by decide
/-- The functions that may be called. -/
def TabOk (P : Program) (T : TT) (C : CT) (ft : FT) : Prop := ∀ (f : FuncId) (fn : Fn), fget (fpath f) ft = some fn → ∃ fu, P.funcs[f]? = some fu ∧ (fu.name == "runtime.NumGoroutine") = false ∧ trF T C fu = some fn
/-- One level of calls over another. -/
noncomputable def evG (I : Itr) (ft : FT) (F : Cal) : Cal := fun lo p a h n => evFn I F (fget p ft) lo a h n
theorem calls_step (hT : TOk P T) (hC : CTOk P C I) (hm : P.follows .mixedOrders = true) {ft : FT} (htab : TabOk P T C ft) {F : Cal} (hF : CallsOk P F) (hL : Low F) : CallsOk P (evG I ft F) := by
  intro f φ h n lo w vs xs v h' n' hg hr hd hlo hvs hev
  have hev : evFn I F (fget (fpath f) ft) lo vs h n = .ok v h' n' := hev
  cases hf : fget (fpath f) ft with
  | none => rw [hf] at hev; cases hev
  | some fn =>
    rw [hf] at hev
    obtain ⟨fu, hfu, hname, htr⟩ := htab f fn hf
    have hev : (bif Nat.beq (len vs) fn.k then leave fn.r (enter vs pth e0 fun e => evC I F lo fn.b e h n) else .no) = .ok v h' n' := hev
    rw [beq_nat, cond_eq_ite, len_eq] at hev
    split at hev
    · rename_i hk
      have hk : vs.length = fn.k := by simpa using hk
      unfold trF at htr
      cases hb : fu.body with
      | none => rw [hb] at htr; cases htr
      | some c =>
        rw [hb] at htr
        simp only at htr
        cases hres : fu.results.toList.mapM (trR T) with
        | none => rw [hres] at htr; cases htr
        | some rs =>
          rw [hres] at htr
          simp only [ble_nat, cond_eq_ite, decide_eq_true_eq] at htr
          split at htr
          · rename_i hN
            injection htr with htr
            subst htr
            simp only at hk hev
            refine ⟨fun args w => ?_, ?_⟩
            · unfold callFunc
              have hname' : ¬ fu.name = "runtime.NumGoroutine" := by simpa using hname
              simp [hfu, hb, hname']
            · cases hbody : enter vs pth e0 fun e => evC I F lo (trC T C fu.ntmps c) e h n with
              | no => rw [hbody] at hev; cases hev
              | ok x e2 h2 n2 =>
                rw [hbody] at hev
                rw [pth_eq] at hbody
                obtain ⟨e1, g1, g2, g3⟩ := enter_some (r := .ok x e2 h2 n2) (by simp) vs 0 24 e0 (by omega) hbody
                have hlen := hvs.length
                have hA : AR fu.ntmps φ e1 { tmps := (⟨xs⟩ : Array Value) ++ Array.replicate (fu.ntmps - (⟨xs⟩ : Array Value).size) undef, defers := [] } := by
                  refine ⟨fun t ht => ?_, ?_, rfl⟩
                  · rw [g3 t ht]
                    by_cases h1 : t < vs.length
                    · rw [if_pos (by omega)]
                      obtain ⟨y, hy, hvy⟩ := hvs.get (List.getElem?_eq_getElem h1)
                      have e1 : vs.getD (t - 0) .er = vs[t] := by simp [h1]
                      have e2 : ((⟨xs⟩ : Array Value) ++ Array.replicate (fu.ntmps - (⟨xs⟩ : Array Value).size) undef).getD t undef = y := by
                        rw [Array.getD_eq_getD_getElem?, Array.getElem?_append_left (by simp; omega)]
                        simp [hy]
                      rw [e1]
                      show VR φ vs[t] (((⟨xs⟩ : Array Value) ++ Array.replicate (fu.ntmps - (⟨xs⟩ : Array Value).size) undef).getD t undef)
                      rw [e2]; exact hvy
                    · rw [if_neg (by omega), eget_e0]; trivial
                  · simp; omega
                refine calls_of_wp hfu hb ?_
                refine code_ok hT hC hF (draw_ok hT hC hF hL hm) c _ e1 h n φ _ w _ hA hg hr hd hlo g1 (by simp) ?_
                rintro _ a' w' ⟨z, e2', h2', n2', φ', heq, rfl, ha', hr', hs'⟩
                injection heq with q1 q2 q3 q4
                subst q1; subst q2; subst q3; subst q4
                have fin : ret (results rs e2 h2) h2 n2 = .ok v h' n' → a'.defers = [] ∧ ∃ u, (Go.results fu a'.tmps).run P w' = .ok u w' ∧ ∃ x φ', Ending.returned u = .returned x ∧ VR φ' v x ∧ Rep φ' (hget h') w' ∧ Stp lo φ (hget h) n w φ' (hget h') n' w' := by
                  intro hret
                  obtain ⟨p1, p2, p3, p4⟩ := ret_ok hret
                  subst p2; subst p3; subst p4
                  obtain ⟨y, hy1, hy2⟩ := results_run hT ha'.sr hr' hres p1
                  exact ⟨ha'.df, y, hy1, y, φ', rfl, hy2, hr', hs'⟩
                cases x with
                | nm => exact fin hev
                | rt => exact fin hev
                | ex i => cases hev
          · cases htr
    · cases hev
theorem evF_calls (hT : TOk P T) (hC : CTOk P C I) (hm : P.follows .mixedOrders = true) {ft : FT} (htab : TabOk P T C ft) : ∀ d, CallsOk P (evF I ft d) := by
  intro d
  induction d with
  | zero => intro f φ h n lo w vs xs v h' n' _ _ _ _ _ hev; cases hev
  | succ d ih => exact calls_step hT hC hm htab ih (evF_keeps ft d)
end
end Go.Ev
namespace Go.Ev
section
variable {P : Program} {T : TT} {C : CT} {φ : Ph} {w : World} {e : E} {a : Act} {o : Oper} {h : H} {lo n : Nat} {f : FuncId} {as : Array Operand} {ts : Array TypeId}
/-- A function that a row of the model stands for. -/
def ExtOk (P : Program) (f : FuncId) (row : Array Value → Sem Value) : Prop :=
  ∃ fu, P.funcs[f]? = some fu ∧ (fu.name == "runtime.NumGoroutine") = false ∧ fu.body.isNone = true ∧ (Extern.findNext fu).isNone = true ∧ Extern.find fu = some row
theorem ext_run {row : Array Value → Sem Value} (hx : ExtOk P f row) (h0 : o.op = .call ⟨.value (.func f), as, ts⟩) {x : Value} {w' : World} (hrow : (row ⟨as.toList.map a.eval⟩).run P w = .ok x w') :
    (execOp a.eval o).run P w = .ok (.value x) w' := by
  obtain ⟨fu, h1, h2, h3, h4, h5⟩ := hx
  have h2' : ¬ fu.name = "runtime.NumGoroutine" := by simpa using h2
  have h4' : Extern.findNext fu = none := by simpa using h4
  have h3' : fu.body = none := by simpa using h3
  have hc : (callFunc f ⟨as.toList.map a.eval⟩).run P w = .ok (.value x) w' := by
    unfold callFunc
    simp [h1, h2', h3', h4', h5, hrow]
  have e1 : as.map a.eval = ⟨as.toList.map a.eval⟩ := Array.ext' (by simp)
  simp [execOp, h0, resolve, Deferred.ofValue, Act.eval, invoke]
  rw [show as.map (fun x => a.eval x) = ⟨as.toList.map a.eval⟩ from e1] at *
  simpa using hc
theorem args_cons (x : Opd) (l : List Opd) (e : E) : args (x :: l) e = opd x e :: args l e := rfl
theorem reads_id (hx : ExtOk P f Extern.AbiNoEscape.same) (hs : SR φ e a) (hg : GOk φ) (h0 : o.op = .call ⟨.value (.func f), as, ts⟩) (hne : itrId (args (as.toList.map trO) e) ≠ .er) :
    Reads P a o φ w (itrId (args (as.toList.map trO) e)) := by
  cases hl : as.toList with
  | nil => rw [hl] at hne; exact absurd rfl hne
  | cons x l =>
    cases l with
    | nil =>
      refine ⟨a.eval x, ext_run hx h0 ?_, opd_VR hs hg x⟩
      rw [hl]; rfl
    | cons y l => rw [hl] at hne; exact absurd rfl hne
theorem asByte_run {c : Nat} {x : Value} (hx : VR φ (.q (.nt .u8 c)) x) : (Extern.Bytes.asByte x).run P w = .ok c.toUInt8 w := by
  obtain ⟨rfl, _⟩ := hx
  rfl
theorem byte_beq {b : UInt8} {c : Nat} (hc : c < 256) : (b == c.toUInt8) = Nat.beq b.toNat c := by
  have : (b = c.toUInt8) ↔ b.toNat = c := by
    constructor
    · rintro rfl; simp [Nat.toUInt8, UInt8.toNat_ofNat']; omega
    · intro h; subst h; simp [Nat.toUInt8]
  rw [beq_nat]
  by_cases h : b = c.toUInt8
  · rw [decide_eq_true (this.1 h), h]; simp
  · rw [decide_eq_false (fun hh => h (this.2 hh))]; simpa using h
theorem itrB_some {g : List Nat → Nat → V} (hne : itrB g (args (as.toList.map trO) e) ≠ .er) : ∃ x y l c, as.toList = [x, y] ∧ opd (trO x) e = .q (.o (.st l)) ∧ opd (trO y) e = .q (.nt .u8 c) ∧ itrB g (args (as.toList.map trO) e) = g l c := by
  generalize hA : args (as.toList.map trO) e = A at hne ⊢
  unfold itrB at hne ⊢
  split at hne
  · rename_i l k c
    cases hl : as.toList with
    | nil =>
      rw [hl] at hA
      have hA : ([] : List V) = _ := hA
      cases hA
    | cons x r =>
      cases r with
      | nil =>
        rw [hl] at hA
        have hA : [opd (trO x) e] = _ := hA
        injection hA with _ h2
        cases h2
      | cons y r =>
        cases r with
        | cons z r =>
          rw [hl] at hA
          have hA : opd (trO x) e :: opd (trO y) e :: opd (trO z) e :: args (r.map trO) e = _ := hA
          injection hA with _ h2
          injection h2 with _ h2
          cases h2
        | nil =>
          rw [hl] at hA
          have hA : [opd (trO x) e, opd (trO y) e] = _ := hA
          injection hA with h1 h2
          injection h2 with h2 _
          split at hne
          · exact ⟨x, y, l, c, rfl, h1, h2, rfl⟩
          · exact absurd rfl hne
  · exact absurd rfl hne
theorem cntB_cons (c x : Nat) (l : List Nat) : cntB c (x :: l) = if x = c then cntB c l + 1 else cntB c l := by
  have : cntB c (x :: l) = Bool.rec (motive := fun _ => Nat) (cntB c l) (Nat.add (cntB c l) 1) (Nat.beq x c) := rfl
  rw [this, beq_nat]
  by_cases h : x = c <;> simp [h]
theorem cntB_count {c : Nat} (hc : c < 256) : ∀ (l : List UInt8), Go.Lib.countByte l c.toUInt8 = cntB c (l.map (·.toNat))
  | [] => rfl
  | x :: l => by
    have ih := cntB_count hc l
    unfold Go.Lib.countByte at ih ⊢
    rw [List.count_cons, ih, List.map_cons, cntB_cons, byte_beq hc, beq_nat]
    by_cases h : x.toNat = c <;> simp [h]
theorem reads_cnt (hx : ExtOk P f Extern.BytealgCount.count) (hs : SR φ e a) (hg : GOk φ) (h0 : o.op = .call ⟨.value (.func f), as, ts⟩) (hne : itrB (fun l c => fit .i64 (cntB c l)) (args (as.toList.map trO) e) ≠ .er) :
    Reads P a o φ w (itrB (fun l c => fit .i64 (cntB c l)) (args (as.toList.map trO) e)) := by
  obtain ⟨x, y, l, c, h1, h2, h3, h4⟩ := itrB_some hne
  rw [h4] at hne ⊢
  have hvx := opd_VR hs hg x
  have hvy := opd_VR hs hg y
  rw [h2] at hvx
  rw [h3] at hvy
  obtain ⟨str, hsx, rfl⟩ := VR_st hvx
  obtain ⟨hvy, hc⟩ := hvy
  refine ⟨goInt (cntB c (bytesOf str)), ext_run hx h0 ?_, fit64 hne⟩
  rw [h1]
  show (Extern.BytealgCount.count #[a.eval x, a.eval y]).run P w = _
  have e1 : (Int.ofNat c).toNat.toUInt8 = c.toUInt8 := rfl
  rw [hsx, hvy, Go.Lib.run_countString, e1, cntB_count hc]
  rfl
theorem findB_cons (c x : Nat) (l : List Nat) (i : Nat) : findB c (x :: l) i = if x = c then fit .i64 i else findB c l (i + 1) := by
  have : findB c (x :: l) i = Bool.rec (motive := fun _ => V) (findB c l (Nat.add i 1)) (fit .i64 i) (Nat.beq x c) := rfl
  rw [this, beq_nat]
  by_cases h : x = c <;> simp [h]
theorem findB_VR {c : Nat} (hc : c < 256) : ∀ (l : List UInt8) (i : Nat), findB c (l.map (·.toNat)) i ≠ .er → VR φ (findB c (l.map (·.toNat)) i) (.int .i64 (if Go.Lib.indexByte l c.toUInt8 = -1 then -1 else Go.Lib.indexByte l c.toUInt8 + i))
  | [], i, _ => ⟨rfl, by decide, rfl⟩
  | x :: l, i, hne => by
    rw [List.map_cons, findB_cons] at hne ⊢
    unfold Go.Lib.indexByte
    rw [byte_beq hc, beq_nat]
    by_cases h : x.toNat = c
    · simp only [h, if_true, decide_true] at hne ⊢
      have := fit64 (φ := φ) hne
      simpa [goInt] using this
    · simp only [h, if_false, decide_false, Bool.false_eq_true] at hne ⊢
      have ih := findB_VR hc l (i + 1) hne
      have hge := Go.Lib.indexByte_ge l c.toUInt8
      by_cases h1 : Go.Lib.indexByte l c.toUInt8 = -1
      · simpa [h1] using ih
      · have h2 : ¬ Go.Lib.indexByte l c.toUInt8 + 1 = -1 := by omega
        have h3 : (Go.Lib.indexByte l c.toUInt8 == -1) = false := by simpa using h1
        simp only [h1, h2, h3, if_false, Bool.false_eq_true] at ih ⊢
        have : Go.Lib.indexByte l c.toUInt8 + 1 + (i : Int) = Go.Lib.indexByte l c.toUInt8 + ((i + 1 : Nat) : Int) := by omega
        rw [this]; exact ih
theorem reads_idx (hx : ExtOk P f Extern.BytealgIndexByte.indexByte) (hs : SR φ e a) (hg : GOk φ) (h0 : o.op = .call ⟨.value (.func f), as, ts⟩) (hne : itrB (fun l c => findB c l 0) (args (as.toList.map trO) e) ≠ .er) :
    Reads P a o φ w (itrB (fun l c => findB c l 0) (args (as.toList.map trO) e)) := by
  obtain ⟨x, y, l, c, h1, h2, h3, h4⟩ := itrB_some hne
  rw [h4] at hne ⊢
  have hvx := opd_VR hs hg x
  have hvy := opd_VR hs hg y
  rw [h2] at hvx
  rw [h3] at hvy
  obtain ⟨str, hsx, rfl⟩ := VR_st hvx
  obtain ⟨hvy, hc⟩ := hvy
  have hv := findB_VR (φ := φ) hc str.data.toList 0 hne
  refine ⟨_, ext_run hx h0 ?_, hv⟩
  rw [h1]
  show (Extern.BytealgIndexByte.indexByte #[a.eval x, a.eval y]).run P w = _
  have e1 : (Int.ofNat c).toNat.toUInt8 = c.toUInt8 := rfl
  rw [hsx, hvy, Go.Lib.run_indexByteString, e1]
  have : (if Go.Lib.indexByte str.data.toList c.toUInt8 = -1 then -1 else Go.Lib.indexByte str.data.toList c.toUInt8 + ((0 : Nat) : Int)) = Go.Lib.indexByte str.data.toList c.toUInt8 := by
    split
    · rename_i h; rw [h]
    · omega
  rw [this]
/- bytes of no known value -/
theorem digits_spec : ∀ (m t : Nat) (acc : Array Value), ∃ l : List Value, (Extern.BytealgMakeNoZero.digits m t acc).toList = acc.toList ++ l ∧ l.length = m ∧ ∀ x ∈ l, ∃ k n, x = .int k n
  | 0, t, acc => ⟨[], by simp [Extern.BytealgMakeNoZero.digits], rfl, by simp⟩
  | m + 1, t, acc => by
    obtain ⟨l, h1, h2, h3⟩ := digits_spec m (t / 256) (acc.push (.int .u8 (Int.ofNat (t % 256))))
    refine ⟨.int .u8 (Int.ofNat (t % 256)) :: l, ?_, by simp [h2], ?_⟩
    · unfold Extern.BytealgMakeNoZero.digits
      rw [h1, Array.toList_push, List.append_assoc]; rfl
    · intro x hx
      rcases List.mem_cons.1 hx with rfl | hx
      · exact ⟨_, _, rfl⟩
      · exact h3 x hx
theorem CR_uk : ∀ (m : Nat) (l : List Value), m ≤ l.length → (∀ x ∈ l, ∃ k n, x = .int k n) → CR φ (rep [.q (.o (.o .uk))] m) (l.take m)
  | 0, l, _, _ => by simp [rep_zero, All2]
  | m + 1, [], h, _ => by simp at h
  | m + 1, x :: l, h, hx => by
    rw [rep_succ, List.take_succ_cons]
    exact ⟨hx x (by simp), CR_uk m l (by simpa using h) fun y hy => hx y (by simp [hy])⟩
theorem run_mz {t ty : TypeId} (ps : Array TypeId) (hty : P.underlying ty = some (.slice t)) (m : Nat) (hm : m ≤ 1048576) : ∃ bytes : Nat, (Extern.BytealgMakeNoZero.makeNoZero ps #[ty] #[.int .i64 (m : Int)]).run P w =
    .ok (.slice (some ⟨w.heap.size, 0, none⟩) m (grownCap w m 0 t)) (w.drew.drew.alloc (.cells (Extern.BytealgMakeNoZero.digits (grownCap w m 0 t) bytes #[]) t)) := by
  have h1 : ¬ (m : Int) < 0 := by omega
  have h2 : ¬ (281474976710656 : Int) < (m : Int) := by omega
  rw [congrArg (fun s : Sem Value => s.run P w) (show Extern.BytealgMakeNoZero.makeNoZero ps #[ty] #[.int .i64 (m : Int)] = Bind.bind (underlying ty) _ from rfl)]
  simp [run_underlying hty, h1, h2, Question.forced, newRow, grownCap]
  exact ⟨_, rfl⟩
/-- What stands for a row of bytes that nothing was laid in. -/
def MzOk (P : Program) (f : FuncId) (t : TypeId) : Prop := ∃ ps ty, ExtOk P f (Extern.BytealgMakeNoZero.makeNoZero ps #[ty]) ∧ P.underlying ty = some (.slice t)
theorem ok_mz {t : TypeId} {x : Operand} (hx : MzOk P f t) (hs : SR φ e a) (hg : GOk φ) (hr : Rep φ (hget h) w) (hd : Dom φ n) (h0 : o.op = .call ⟨.value (.func f), as, ts⟩) (hl : as.toList = [x]) {v : V} {h' : H} {n' : Nat}
    (ha : mzero t (opd (trO x) e) h n = .ok v h' n') : OpOk P a o lo φ (hget h) n w v (hget h') n' := by
  obtain ⟨ps, ty, hx, hty⟩ := hx
  have hv := opd_VR hs hg x
  unfold mzero at ha
  split at ha
  · rename_i k m hq
    rw [hq] at hv
    obtain ⟨hv, _⟩ := hv
    split at ha
    · rw [ble_nat, cond_eq_ite] at ha
      split at ha
      · rename_i hm
        have hm : m ≤ 1048576 := by simpa using hm
        obtain ⟨bytes, hrun⟩ := run_mz (P := P) (w := w) ps hty m hm
        obtain ⟨l, g1, g2, g3⟩ := digits_spec (grownCap w m 0 t) bytes #[]
        have hcap := grownCap_ge w m 0 t
        have hcs : Extern.BytealgMakeNoZero.digits (grownCap w m 0 t) bytes #[] = ⟨l⟩ := Array.ext' (by simpa using g1)
        rw [hcs] at hrun
        refine ok_new ha hr hd (w' := w.drew.drew.alloc (.cells ⟨l⟩ t)) (obj := .cells ⟨l⟩ t) (x := .slice (some ⟨w.heap.size, 0, none⟩) m (grownCap w m 0 t)) rfl l.length ?_ ?_ ?_
        · refine OR_row rfl rfl ?_ ?_ (fun hh => by cases hh)
          · rw [rep_len, List.length_singleton, Nat.mul_one]
            exact CR_uk m l (by omega) g3
          · rw [rep_len, List.length_singleton, Nat.mul_one]; omega
        · refine ext_run hx h0 ?_
          rw [hl]
          show (Extern.BytealgMakeNoZero.makeNoZero ps #[ty] #[a.eval x]).run P w = _
          rw [hv]
          exact hrun
        · exact ⟨_, grownCap w m 0 t, upd_same, rfl, hcap, fun _ => by simp; omega, fun k hk => by cases hk⟩
      · cases ha
    · cases ha
  · cases ha
end
end Go.Ev
namespace Go.Ev
/-- A call that was run: the function, its arguments, the rows that it looks at, its value, the rows that are new. -/
structure Me where
  p : P
  lo : Nat
  n : Nat
  a : List V
  l0 : List (Nat × AO)
  v : V
  l1 : List (Nat × AO)
  n1 : Nat
noncomputable def putH (l : List (Nat × AO)) (h : H) : H := List.rec (motive := fun _ => H) h (fun x _ ih => hset x.1 x.2 ih) l
noncomputable def rowsIn (l : List (Nat × AO)) (h : H) : Bool := List.rec (motive := fun _ => Bool) true (fun x _ ih => bif decide (hget h x.1 = x.2) then ih else false) l
noncomputable def freshH (h : H) : Nat → Bool := H.rec (motive := fun _ => Nat → Bool) (fun _ => true)
  (fun v _ _ il ir n => bif (bif Nat.beq n 0 then decide (v = .no) else true) then (bif il (Nat.div n 2) then ir (Nat.div (Nat.sub n 1) 2) else false) else false) h
noncomputable def memo (tbl : List Me) (F : Cal) : Cal := List.rec (motive := fun _ => Cal) F
  (fun m _ ih lo p a h n => bif Nat.beq m.n n then (bif Nat.beq m.lo lo && decide (m.p = p) && decide (m.a = a) && rowsIn m.l0 h && freshH h n then .ok m.v (putH m.l1 h) m.n1 else ih lo p a h n) else ih lo p a h n) tbl
/-- Does a run end as it is said? -/
noncomputable def ends (m : Me) (r : R3) : Bool := match r with
  | .ok v h n => decide (v = m.v) && Nat.beq n m.n1 && rowsIn m.l0 h && rowsIn m.l1 h
  | .no => false
def below (n : Nat) (l : List (Nat × AO)) : Bool := l.all fun x => Nat.ble (x.1 + 1) n
def within (n k : Nat) (l : List (Nat × AO)) : Bool := l.all fun x => Nat.ble n x.1 && Nat.ble (x.1 + 1) k
def Me.ok (F : Cal) (m : Me) : Prop := ends m (F m.lo m.p m.a (putH m.l0 .nil) m.n) = true ∧ below m.n m.l0 = true ∧ within m.n m.n1 m.l1 = true ∧ Nat.ble m.n 1000001 = true ∧ Nat.ble m.n1 1000001 = true ∧ Nat.ble m.n m.n1 = true
theorem putH_cons (x : Nat × AO) (l : List (Nat × AO)) (h : H) : putH (x :: l) h = hset x.1 x.2 (putH l h) := rfl
theorem rowsIn_cons (x : Nat × AO) (l : List (Nat × AO)) (h : H) : rowsIn (x :: l) h = (decide (hget h x.1 = x.2) && rowsIn l h) := by
  have : rowsIn (x :: l) h = bif decide (hget h x.1 = x.2) then rowsIn l h else false := rfl
  rw [this]; cases decide (hget h x.1 = x.2) <;> rfl
theorem rowsIn_mem {h : H} : ∀ {l : List (Nat × AO)}, rowsIn l h = true → ∀ x ∈ l, hget h x.1 = x.2
  | [], _, x, hx => by cases hx
  | y :: l, hr, x, hx => by
    rw [rowsIn_cons, Bool.and_eq_true, decide_eq_true_eq] at hr
    rcases List.mem_cons.1 hx with rfl | hx
    · exact hr.1
    · exact rowsIn_mem hr.2 x hx
/-- What is laid is there; else all is as it was. -/
theorem put_get {h : H} (id : Nat) : ∀ (l : List (Nat × AO)), (∀ x ∈ l, x.1 ≤ 1000000) → (∃ x ∈ l, x.1 = id ∧ hget (putH l h) id = x.2) ∨ ((∀ x ∈ l, x.1 ≠ id) ∧ hget (putH l h) id = hget h id)
  | [], _ => .inr ⟨(fun x hx => by cases hx), rfl⟩
  | y :: l, hl => by
    rw [putH_cons]
    by_cases hy : id = y.1
    · subst hy
      exact .inl ⟨y, by simp, rfl, hget_hset_self _ _ (hl y (by simp))⟩
    · rw [hget_hset_ne _ _ _ _ hy]
      rcases put_get (h := h) id l fun x hx => hl x (List.mem_cons_of_mem _ hx) with ⟨x, h1, h2, h3⟩ | ⟨h1, h2⟩
      · exact .inl ⟨x, List.mem_cons_of_mem _ h1, h2, h3⟩
      · refine .inr ⟨fun x hx => ?_, h2⟩
        rcases List.mem_cons.1 hx with rfl | hx
        · exact fun hh => hy hh.symm
        · exact h1 x hx
theorem freshH_nd (v : AO) (l r : H) (n : Nat) : freshH (.nd v l r) n = ((if n = 0 then decide (v = .no) else true) && (freshH l (n / 2) && freshH r ((n - 1) / 2))) := by
  have : freshH (.nd v l r) n = bif (bif Nat.beq n 0 then decide (v = .no) else true) then (bif freshH l (Nat.div n 2) then freshH r (Nat.div (Nat.sub n 1) 2) else false) else false := rfl
  have e1 : Nat.div n 2 = n / 2 := rfl
  have e2 : Nat.div (Nat.sub n 1) 2 = (n - 1) / 2 := rfl
  rw [this, e1, e2, beq_nat]
  by_cases h0 : n = 0
  · simp only [h0, decide_true, cond_true, if_true]
    cases decide (v = AO.no) <;> cases freshH l (0 / 2) <;> rfl
  · simp only [h0, decide_false, cond_false, if_false]
    cases freshH l (n / 2) <;> rfl
theorem freshH_get : ∀ (h : H) (n : Nat), freshH h n = true → ∀ id, n ≤ id → hget h id = .no
  | .nil, _, _, _, _ => rfl
  | .nd v l r, n, hf, id, hid => by
    rw [freshH_nd, Bool.and_eq_true, Bool.and_eq_true] at hf
    obtain ⟨h1, h2, h3⟩ := hf
    rw [hget_nd]
    by_cases h0 : id = 0
    · have : n = 0 := by omega
      rw [if_pos this] at h1
      rw [if_pos h0]; simpa using h1
    · rw [if_neg h0]
      by_cases ho : id % 2 = 1
      · rw [if_pos ho]
        exact freshH_get l _ h2 _ (by omega)
      · rw [if_neg ho]
        exact freshH_get r _ h3 _ (by omega)
theorem memo_cons (m : Me) (tbl : List Me) (F : Cal) (lo : Nat) (p : P) (a : List V) (h : H) (n : Nat) : memo (m :: tbl) F lo p a h n =
    if m.n = n ∧ m.lo = lo ∧ m.p = p ∧ m.a = a ∧ rowsIn m.l0 h = true ∧ freshH h n = true then .ok m.v (putH m.l1 h) m.n1 else memo tbl F lo p a h n := by
  have : memo (m :: tbl) F lo p a h n = bif Nat.beq m.n n then (bif Nat.beq m.lo lo && decide (m.p = p) && decide (m.a = a) && rowsIn m.l0 h && freshH h n then .ok m.v (putH m.l1 h) m.n1 else memo tbl F lo p a h n) else memo tbl F lo p a h n := rfl
  rw [this, beq_nat, beq_nat, cond_eq_ite, cond_eq_ite]
  simp only [Bool.and_eq_true, decide_eq_true_eq, and_assoc]
  by_cases h1 : m.n = n
  · simp only [h1, if_true, true_and]
  · simp only [h1, if_false, false_and]
section
variable {P : Program}
theorem within_spec {n k : Nat} {l : List (Nat × AO)} (h : within n k l = true) : ∀ x ∈ l, n ≤ x.1 ∧ x.1 < k := fun x hx => by
  have := List.all_eq_true.1 h x hx
  simp only [ble_nat, Bool.and_eq_true, decide_eq_true_eq] at this
  omega
theorem below_spec {n : Nat} {l : List (Nat × AO)} (h : below n l = true) : ∀ x ∈ l, x.1 < n := fun x hx => by
  have := List.all_eq_true.1 h x hx
  simp only [ble_nat, decide_eq_true_eq] at this
  omega
theorem memo_low {F : Cal} (hF : Low F) : ∀ (tbl : List Me) {G : Cal}, (∀ m ∈ tbl, m.ok G) → Low (memo tbl F)
  | [], _, _ => hF
  | m :: tbl, G, hok => by
    intro lo p a h n hlo v h' n' hr
    rw [memo_cons] at hr
    split at hr
    · rename_i hc
      obtain ⟨rfl, _⟩ := hc
      obtain ⟨_, _, h3, h4, h5, h6⟩ := hok m (by simp)
      injection hr with q1 q2 q3
      subst q2; subst q3
      have h5 : m.n1 ≤ 1000001 := by simpa [ble_nat] using h5
      have h6 : m.n ≤ m.n1 := by simpa [ble_nat] using h6
      refine ⟨h6, fun id hid _ => ?_⟩
      rcases put_get (h := h) id m.l1 (fun x hx => by have := within_spec h3 x hx; omega) with ⟨x, hx, rfl, _⟩ | ⟨_, h7⟩
      · have := within_spec h3 x hx; omega
      · exact h7
    · exact memo_low hF tbl (fun m hm => hok m (List.mem_cons_of_mem _ hm)) lo p a h n hlo v h' n' hr
theorem memo_calls {F G : Cal} (hF : CallsOk P F) (hG : CallsOk P G) : ∀ (tbl : List Me), (∀ m ∈ tbl, m.ok G) → CallsOk P (memo tbl F)
  | [], _ => hF
  | m :: tbl, hok => by
    intro f φ h n lo w vs xs v h' n' hg hr hd hlo hvs hev
    rw [memo_cons] at hev
    split at hev
    · · rename_i hc
        obtain ⟨rfl, rfl, hp, rfl, hrows, hfresh⟩ := hc
        obtain ⟨k1, k2, k3, k4, k5, k6⟩ := hok m (by simp)
        injection hev with q1 q2 q3
        subst q1; subst q2; subst q3
        have hn1 : m.n1 ≤ 1000001 := by simpa [ble_nat] using k5
        have hn : m.n ≤ 1000001 := by simpa [ble_nat] using k4
        have hw := within_spec k3
        have hb := below_spec k2
        have hrow := rowsIn_mem hrows
        have hfr := freshH_get h m.n hfresh
        -- the rows that are looked at
        have h0 : ∀ id, hget (putH m.l0 .nil) id = .no ∨ (hget (putH m.l0 .nil) id = hget h id ∧ ∃ x ∈ m.l0, x.1 = id ∧ hget (putH m.l0 .nil) id = x.2) := fun id => by
          rcases put_get (h := .nil) id m.l0 (fun x hx => by have := hb x hx; omega) with ⟨x, hx, rfl, h3⟩ | ⟨_, h3⟩
          · exact .inr ⟨by rw [h3, hrow x hx], x, hx, rfl, h3⟩
          · exact .inl h3
        have hr0 : Rep φ (hget (putH m.l0 .nil)) w := by
          refine ⟨fun id p hp => ?_, fun i j p q h1 h2 h3 h4 h5 => ?_⟩
          · obtain ⟨o, g1, g2⟩ := hr.obj id p hp
            refine ⟨o, g1, ?_⟩
            rcases h0 id with h | ⟨h, _⟩
            · rw [h]; trivial
            · rw [h]; exact g2
          · refine hr.inj i j p q h1 h2 ?_ ?_ h5
            · rcases h0 i with h | ⟨h, _⟩
              · exact absurd h h3
              · rw [← h]; exact h3
            · rcases h0 j with h | ⟨h, _⟩
              · exact absurd h h4
              · rw [← h]; exact h4
        cases hrun : G m.lo m.p m.a (putH m.l0 .nil) m.n with
        | no => rw [hrun] at k1; cases k1
        | ok v2 hf n2 =>
          rw [hrun] at k1
          have k1 : (decide (v2 = m.v) && Nat.beq n2 m.n1 && rowsIn m.l0 hf && rowsIn m.l1 hf) = true := k1
          simp only [Bool.and_eq_true, decide_eq_true_eq, beq_nat] at k1
          obtain ⟨⟨⟨rfl, rfl⟩, k7⟩, k8⟩ := k1
          have k7 := rowsIn_mem k7
          have k8 := rowsIn_mem k8
          rw [hp] at hrun
          obtain ⟨c1, c2⟩ := hG f φ (putH m.l0 .nil) m.n m.lo w m.a xs m.v hf m.n1 hg hr0 hd hlo hvs hrun
          refine ⟨c1, c2.mono ?_⟩
          rintro e w' ⟨x, φ', rfl, hx, hr', hs⟩
          refine ⟨x, φ', rfl, hx, ?_⟩
          have hout : ∀ id, (∃ x ∈ m.l1, x.1 = id ∧ hget (putH m.l1 h) id = hget hf id) ∨ ((∀ x ∈ m.l1, x.1 ≠ id) ∧ hget (putH m.l1 h) id = hget h id) := fun id => by
            rcases put_get (h := h) id m.l1 (fun x hx => by have := hw x hx; omega) with ⟨x, h1, h2, h3⟩ | h1
            · exact .inl ⟨x, h1, h2, by rw [h3, ← h2, k8 x h1]⟩
            · exact .inr h1
          have hlt : ∀ id < m.n, hget (putH m.l1 h) id = hget h id := fun id hid => by
            rcases hout id with ⟨x, h1, h2, _⟩ | ⟨_, h1⟩
            · have := hw x h1; omega
            · exact h1
          -- kinds of live numbers
          have kind : ∀ id p, φ' id = some p → hget (putH m.l1 h) id ≠ .no → (hget (putH m.l1 h) id = hget hf id ∧ (m.n ≤ id ∨ (id < m.n ∧ hget (putH m.l0 .nil) id ≠ .no ∧ φ id = some p ∧ hget h id ≠ .no))) ∨
              (id < m.n ∧ φ id = some p ∧ hget (putH m.l0 .nil) id = .no ∧ hget (putH m.l1 h) id = hget h id) := by
            intro id p hp hne
            rcases Nat.lt_or_ge id m.n with hlt' | hge
            · have hpo : φ id = some p := by rw [← hs.old id hlt']; exact hp
              have e1 := hlt id hlt'
              rcases h0 id with hno | ⟨h1, y, hy, hy1, hy2⟩
              · exact .inr ⟨hlt', hpo, hno, e1⟩
              · have : hget h id = hget hf id := by rw [← h1, hy2, ← hy1, k7 y hy]
                exact .inl ⟨by rw [e1, this], .inr ⟨hlt', by rw [h1, ← e1]; exact hne, hpo, by rw [← e1]; exact hne⟩⟩
            · rcases hout id with ⟨y, _, _, h3⟩ | ⟨_, h3⟩
              · exact .inl ⟨h3, .inl hge⟩
              · rw [h3, hfr id hge] at hne; exact absurd rfl hne
          have own : ∀ b, Own m.lo φ (hget (putH m.l0 .nil)) b → Own m.lo φ (hget h) b := by
            rintro b ⟨id, p, g1, g2, g3, g4⟩
            rcases h0 id with h | ⟨h, _⟩
            · exact absurd h g3
            · exact ⟨id, p, g1, g2, by rw [← h]; exact g3, g4⟩
          have cross : ∀ id id2 p q, φ' id = some p → (m.n ≤ id ∨ (id < m.n ∧ hget (putH m.l0 .nil) id ≠ .no ∧ φ id = some p ∧ hget h id ≠ .no)) → φ id2 = some q → hget (putH m.l0 .nil) id2 = .no → hget h id2 ≠ .no → p.b = q.b → False := by
            intro id id2 p q hp hk hq hno hne hb
            rcases hk with hge | ⟨k1, k2, k3, k4⟩
            · obtain ⟨o', h1, _⟩ := hr.obj id2 q hq
              have hbq : q.b < w.heap.size := (Array.getElem?_eq_some_iff.1 h1).1
              rcases hs.new id p hge hp with h | ⟨id3, q3, r1, r2, r3, r4⟩
              · omega
              · have hne3 : hget h id3 ≠ .no := by
                  rcases h0 id3 with h | ⟨h, _⟩
                  · exact absurd h r3
                  · rw [← h]; exact r3
                obtain rfl := hr.inj id2 id3 q q3 hq r2 hne hne3 (by rw [r4, hb])
                exact r3 hno
            · obtain rfl := hr.inj id id2 p q k3 hq k4 hne hb
              exact k2 hno
          have frame : ∀ id q, φ id = some q → hget (putH m.l0 .nil) id = .no → hget h id ≠ .no → w'.heap[q.b]? = w.heap[q.b]? := by
            intro id q hq hno hne
            obtain ⟨o', h1, _⟩ := hr.obj id q hq
            refine hs.fr q.b (Array.getElem?_eq_some_iff.1 h1).1 ?_
            rintro ⟨id3, q3, r1, r2, r3, r4⟩
            have hne3 : hget h id3 ≠ .no := by
              rcases h0 id3 with h | ⟨h, _⟩
              · exact absurd h r3
              · rw [← h]; exact r3
            obtain rfl := hr.inj id id3 q q3 hq r2 hne hne3 r4.symm
            exact r3 hno
          refine ⟨⟨fun id p hp => ?_, fun id id2 p q hp hq hne hne2 hb => ?_⟩, ⟨hs.le, hs.sz, hs.old, hs.dom, fun id p h1 h2 => (hs.new id p h1 h2).imp (fun h => h) (own _), fun id hid h1 => by rw [hlt id hid, h1], fun id hid _ => hlt id hid, fun id hid _ => hlt id hid, fun b hb hn => hs.fr b hb fun h => hn (own b h), hs.io⟩⟩
          · by_cases hne : hget (putH m.l1 h) id = .no
            · obtain ⟨o', h1, _⟩ := hr'.obj id p hp
              exact ⟨o', h1, by rw [hne]; trivial⟩
            · rcases kind id p hp hne with ⟨e1, _⟩ | ⟨hid, hpo, hno, e1⟩
              · rw [e1]; exact hr'.obj id p hp
              · obtain ⟨o', h1, h2⟩ := hr.obj id p hpo
                refine ⟨o', ?_, by rw [e1]; exact h2.mono (hs.sub hd)⟩
                rw [frame id p hpo hno (by rw [← e1]; exact hne)]; exact h1
          · rcases kind id p hp hne with ⟨a1, a2⟩ | ⟨a1, a2, a3, a4⟩
            · rcases kind id2 q hq hne2 with ⟨b1, b2⟩ | ⟨b1, b2, b3, b4⟩
              · exact hr'.inj id id2 p q hp hq (by rw [← a1]; exact hne) (by rw [← b1]; exact hne2) hb
              · exact (cross id id2 p q hp a2 b2 b3 (by rw [← b4]; exact hne2) hb).elim
            · rcases kind id2 q hq hne2 with ⟨b1, b2⟩ | ⟨b1, b2, b3, b4⟩
              · exact (cross id2 id q p hq b2 a2 a3 (by rw [← a4]; exact hne) hb.symm).elim
              · exact hr.inj id id2 p q a2 b2 (by rw [← a4]; exact hne) (by rw [← b4]; exact hne2) hb
    · exact memo_calls hF hG tbl (fun m hm => hok m (List.mem_cons_of_mem _ hm)) f φ h n lo w vs xs v h' n' hg hr hd hlo hvs hev
end
end Go.Ev
