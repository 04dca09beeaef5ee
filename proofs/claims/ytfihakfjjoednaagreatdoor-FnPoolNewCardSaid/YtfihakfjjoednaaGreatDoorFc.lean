/-
  The functions that the evaluator does not enter.
-/
import Derived.Test.YtfihakfjjoednaaGreatDoorFa
import Derived.Test.YtfihakfjjoednaaGreatDoorFb
set_option linter.all false
namespace Go.Ev.PN
open Go Go.Ev Go.Proofs
set_option maxRecDepth 100000
theorem x386 : ExtOk Tryz.prog 386 Extern.AbiNoEscape.same := ⟨Tryz.f386, Tryz.func386, by kernel_rfl, by kernel_rfl, by kernel_rfl, by kernel_rfl⟩
theorem x401 : ExtOk Tryz.prog 401 Extern.BytealgCount.count := ⟨Tryz.f401, Tryz.func401, by kernel_rfl, by kernel_rfl, by kernel_rfl, by kernel_rfl⟩
theorem x426 : ExtOk Tryz.prog 426 Extern.BytealgIndexByte.indexByte := ⟨Tryz.f426, Tryz.func426, by kernel_rfl, by kernel_rfl, by kernel_rfl, by kernel_rfl⟩
theorem x421 : MzOk Tryz.prog 421 5 := ⟨_, _, ⟨Tryz.f421, Tryz.func421, by kernel_rfl, by kernel_rfl, by kernel_rfl, rfl⟩, by kernel_rfl⟩
section
variable {φ : Ph} {w : World} {e : E} {a : Act} {o : Oper} {h : H} {lo n : Nat} {az : Array Operand} {ts : Array TypeId}
/-- What turns new blocks alone. -/
theorem step_below {w' : World} {g : Nat → AO} (hr : Rep φ g w) (hd : Dom φ n) (hb : RowKit.Below w.heap.size w w') : Rep φ g w' ∧ Stp lo φ g n w φ g n w' := by
  refine ⟨⟨fun id p hp => ?_, hr.inj⟩, ?_⟩
  · obtain ⟨o, h1, h2⟩ := hr.obj id p hp
    exact ⟨o, by rw [hb.block _ (Array.getElem?_eq_some_iff.1 h1).1]; exact h1, h2⟩
  · exact ⟨Nat.le_refl _, hb.size, fun _ _ => rfl, hd, fun id p hid hp => absurd hp (by rw [hd.1 id hid]; simp), fun _ _ h => h, fun _ _ _ => rfl, fun _ _ _ => rfl, fun b hb' _ => hb.block b hb', hb.os, hb.output⟩
theorem ok_look (hs : SR φ e a) (hg : GOk φ) (hr : Rep φ (hget h) w) (hd : Dom φ n) (h0 : o.op = .call ⟨.value (.func 49), az, ts⟩) (hne : itrLook (args (az.toList.map trO) e) h ≠ .er) :
    OpOk Tryz.prog a o lo φ (hget h) n w (itrLook (args (az.toList.map trO) e) h) (hget h) n := by
  have hA := args_VR hs hg az.toList
  generalize hv : itrLook (args (az.toList.map trO) e) h = v at hne ⊢
  have hv' := hv
  unfold itrLook at hv'
  split at hv'
  · rename_i c kk k hq
    split at hv'
    · rename_i b oo nn s1 c1 wt g
      rw [hq] at hA
      match hl : az.toList.map a.eval, hA with
      | [x, y], ⟨hx, hy, _⟩ =>
        obtain ⟨xs, hx, hxs⟩ := hx
        match xs, hxs with
        | [x0, x1, x2], ⟨y0, y1, y2, _⟩ =>
          obtain ⟨p, cap, hp, y0, hcap, _⟩ := y0
          obtain ⟨hy, hky⟩ := hy
          have y2 : x2 = .bool g := y2
          simp only at hv'
          cases kk with
          | i64 =>
            simp only at hv'
            have core : ∀ (wa : Option Addr) (wc : Nat), x1 = .slice wa 0 wc → v = (bif Nat.ble (Nat.add k 1) nn then (match loadV false 1 (.pt b (Nat.add oo k)) h with
                | .q (.o (.st l)) => .q (.o (.st l))
                | _ => .er) else .er) → OpOk Tryz.prog a o lo φ (hget h) n w v (hget h) n := by
              intro wa wc hx1 hv2
              rw [ble_nat, cond_eq_ite] at hv2
              split at hv2
              · rename_i hkn
                have hkn : k < nn := Nat.lt_of_succ_le (by simpa using hkn)
                split at hv2
                · rename_i l hld
                  subst hv2
                  have hcell : ∃ s, w.cell? ⟨p.b, p.base + oo + k, none⟩ = some (.string s) ∧ bytesOf s = l := by
                    have hld : (match hget h b with
                      | .row _ _ _ c => List.rec (motive := fun _ => V) .er (fun (x : L) _ _ => x.v) (dr c (Nat.add oo k))
                      | _ => .er) = .q (.o (.st l)) := hld
                    split at hld
                    · rename_i t' x' f' cc hh
                      rw [dr_eq] at hld
                      cases hdp : cc.drop (Nat.add oo k) with
                      | nil => rw [hdp] at hld; cases hld
                      | cons l0 r0 =>
                        rw [hdp] at hld
                        have hld : l0.v = .q (.o (.st l)) := hld
                        obtain ⟨v1, hv1, hl1⟩ := hr.cell hp hh (drop_cons hdp)
                        cases l0 with
                        | fn f c => cases hld
                        | q q =>
                          injection hld with hld
                          subst hld
                          obtain ⟨s, rfl, hs2⟩ := hl1
                          exact ⟨s, by rw [Nat.add_assoc]; exact hv1, hs2⟩
                    · cases hld
                  obtain ⟨s, hs1, hs2⟩ := hcell
                  intro next Q hn
                  have hcalls := Tryz.look p.b (p.base + oo) nn cap wc k wa g s w hkn hs1
                  have hrun : (execOp a.eval o).run Tryz.prog w = .ok (.enter 49 ⟨az.toList.map a.eval⟩) w := by
                    have hcf : ∀ args w, (callFunc 49 args).run Tryz.prog w = .ok (.enter 49 args) w := enters_of Tryz.func49 (by kernel_rfl) rfl
                    simp [execOp, h0, resolve, Deferred.ofValue, Act.eval, invoke, hcf]
                    exact Array.ext' (by simp)
                  unfold Oper.wp
                  rw [hrun, Oper.upon_enter, hl, hx, hy, y0, hx1, y2]
                  refine hcalls.mono ?_
                  rintro _ w' ⟨rfl, hB⟩
                  obtain ⟨r1, r2⟩ := step_below (lo := lo) hr hd hB
                  exact hn _ φ w' ⟨s, rfl, hs2⟩ r1 r2
                · exact absurd hv2 hne
              · exact absurd hv2 hne
            split at hv'
            · exact core none 0 y1 hv'.symm
            · obtain ⟨p1, cap1, _, y1, _⟩ := y1
              exact core _ _ y1 hv'.symm
            · exact absurd hv'.symm hne
          | _ => exact absurd hv'.symm hne
    · exact absurd hv'.symm hne
  · exact absurd hv'.symm hne
end
theorem ctok : CTOk Tryz.prog C itr := by
  refine ⟨fun f i hf => ?_, fun f t hf => ?_, fun f hf => ?_⟩
  · intro φ e a o az ts h n lo w h0 hs hg hr hd hne
    unfold C at hf
    split at hf
    · injection hf with hf; subst hf; exact ok_look hs hg hr hd h0 hne
    · injection hf with hf; subst hf; exact (reads_id x386 hs hg h0 hne).ok hr hd
    · injection hf with hf; subst hf; exact (reads_cnt x401 hs hg h0 hne).ok hr hd
    · injection hf with hf; subst hf; exact (reads_idx x426 hs hg h0 hne).ok hr hd
    · cases hf
    · cases hf
  · intro φ e a o x az ts h n lo w v h' n' h0 hl hs hg hr hd ha
    unfold C at hf
    split at hf
    all_goals first | (injection hf with hf; subst hf; exact ok_mz x421 hs hg hr hd h0 hl ha) | cases hf
  · unfold C at hf
    split at hf <;> cases hf
end Go.Ev.PN
