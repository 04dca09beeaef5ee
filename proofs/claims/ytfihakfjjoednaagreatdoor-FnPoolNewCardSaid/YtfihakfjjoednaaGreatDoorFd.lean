/-
  What the law draws: one bool.
-/
import Derived.Test.YtfihakfjjoednaaGreatDoorProg
import Derived.KernelRfl
import Derived.WalkKit
import Derived.WalkSpells
import Derived.RangeFuncRecord
set_option linter.all false
namespace Go.Proofs
open Go.RowKit
set_option maxRecDepth 100000
set_option maxHeartbeats 2000000 in
theorem Tryz.pick0 (B : Nat) (a : Option Addr) (cap : Nat) (W : World) (hB : W.heap[B]? = some (.cells #[.slice a 0 cap, .int .i64 0] 101 (0, 0))) :
    Calls Tryz.prog 14 #[.pointer (some ⟨B, 0, none⟩), .int .i64 2] W fun e W' => e = .returned (.int .i64 0) ∧ Below B W W' := by
  have c0 : W.cell? ⟨B, 0, none⟩ = some (.slice a 0 cap) := by simp [World.cell?, hB]
  have c1 : W.cell? ⟨B, 1, none⟩ = some (.int .i64 0) := by simp [World.cell?, hB]
  have f1 : W.frozen? ⟨B, 1, none⟩ = false := by simp [World.frozen?, hB]
  clear hB
  go_enter Tryz.func14, Tryz.ntmps14
  go_wp2
  go_ret
  exact ⟨rfl, (Below.refl B W).setCell (Nat.le_refl _) _⟩
set_option maxHeartbeats 2000000 in
theorem Tryz.pick1 (B b off len cap : Nat) (x : Int) (W : World) (hx : 0 ≤ x ∧ x ≤ 255) (hlen : 0 < len) (hB : W.heap[B]? = some (.cells #[.slice (some ⟨b, off, none⟩) len cap, .int .i64 0] 101 (0, 0))) (hne : b ≠ B) (hc : W.cell? ⟨b, off, none⟩ = some (.int .u8 x)) :
    Calls Tryz.prog 14 #[.pointer (some ⟨B, 0, none⟩), .int .i64 2] W fun e W' => (∃ n, e = .returned (.int .i64 n)) ∧ Below B W W' := by
  have c0 : W.cell? ⟨B, 0, none⟩ = some (.slice (some ⟨b, off, none⟩) len cap) := by simp [World.cell?, hB]
  have c1 : W.cell? ⟨B, 1, none⟩ = some (.int .i64 0) := by simp [World.cell?, hB]
  have f1 : W.frozen? ⟨B, 1, none⟩ = false := by simp [World.frozen?, hB]
  clear hB
  go_enter Tryz.func14, Tryz.ntmps14
  go_wp2
  go_ret
  exact ⟨⟨_, rfl⟩, (Below.refl B W).setCell (Nat.le_refl _) _⟩
set_option maxHeartbeats 2000000 in
theorem Tryz.open0 (a : Option Addr) (len cap : Nat) (w : World) (h : len ≤ 2000) :
    Calls Tryz.prog 13 #[.slice a len cap] w fun e W' => e = .returned (.pointer (some ⟨w.heap.size, 0, none⟩)) ∧ W' = w.alloc (.cells #[.slice a len cap, .int .i64 0] 101) := by
  have h1 : ¬ (2000 : Int) < len := by omega
  go_enter Tryz.func13, Tryz.ntmps13
  go_wp2
  go_ret
  exact ⟨rfl, rfl⟩
set_option maxHeartbeats 2000000 in
theorem Tryz.open1 (b off len cap : Nat) (w : World) (h : 2000 < len) (hcap : len ≤ cap) :
    Calls Tryz.prog 13 #[.slice (some ⟨b, off, none⟩) len cap] w fun e W' => e = .returned (.pointer (some ⟨w.heap.size, 0, none⟩)) ∧ W' = w.alloc (.cells #[.slice (some ⟨b, off, none⟩) 2000 cap, .int .i64 0] 101) := by
  have h1 : (2000 : Int) < len := by omega
  have h2 : 2000 ≤ cap := by omega
  go_enter Tryz.func13, Tryz.ntmps13
  go_wp2
  go_ret
  exact ⟨rfl, rfl⟩
set_option maxHeartbeats 2000000 in
/-- One bool is drawn, out of the first byte. -/
theorem Tryz.draw (a : Option Addr) (len cap : Nat) (w : World) (hcap : len ≤ cap) (h : len = 0 ∨ ∃ b off x, a = some ⟨b, off, none⟩ ∧ 0 < len ∧ (0 ≤ x ∧ x ≤ 255) ∧ b < w.heap.size ∧ w.cell? ⟨b, off, none⟩ = some (.int .u8 x)) :
    Calls Tryz.prog 4 #[.slice a len cap] w fun e W' => (∃ t, e = .returned (.bool t)) ∧ Below w.heap.size w W' := by
  have hl : ∃ l, (len = 0 → l = 0) ∧ (0 < len → 0 < l) ∧ Calls Tryz.prog 13 #[.slice a len cap] w fun e W' => e = .returned (.pointer (some ⟨w.heap.size, 0, none⟩)) ∧ W' = w.alloc (.cells #[.slice a l cap, .int .i64 0] 101) := by
    by_cases h0 : len ≤ 2000
    · exact ⟨len, id, id, Tryz.open0 a len cap w h0⟩
    · rcases h with rfl | ⟨b, off, x, rfl, _⟩
      · omega
      · exact ⟨2000, fun h => by omega, fun _ => by omega, Tryz.open1 b off len cap w (by omega) hcap⟩
  obtain ⟨l, h0, h1, hl⟩ := hl
  have hp : Calls Tryz.prog 14 #[.pointer (some ⟨w.heap.size, 0, none⟩), .int .i64 2] (w.alloc (.cells #[.slice a l cap, .int .i64 0] 101)) fun e W'' => (∃ n, e = .returned (.int .i64 n)) ∧ Below w.heap.size (w.alloc (.cells #[.slice a l cap, .int .i64 0] 101)) W'' := by
    have hb := World.alloc_heap_new w (.cells #[.slice a l cap, .int .i64 0] 101)
    rcases h with rfl | ⟨b, off, x, rfl, hlen, hx, hbl, hc⟩
    · obtain rfl := h0 rfl
      exact (Tryz.pick0 _ a cap _ hb).mono fun e W' ⟨h1, h2⟩ => ⟨⟨_, h1⟩, h2⟩
    · refine Tryz.pick1 _ b off l cap x _ hx (h1 hlen) hb (by omega) ?_
      rw [World.cell?_of_block (Below.heap_alloc w _ _ hbl)]; exact hc
  clear h h0 h1 hcap
  go_enter Tryz.func4, Tryz.ntmps4
  go_wp2_with (first
    | (go_at_call 13; refine hl.mono ?_; rintro e W1 ⟨rfl, rfl⟩)
    | (go_at_call 14; refine hp.mono ?_; rintro e W2 ⟨⟨n, rfl⟩, hB⟩))
  go_ret
  exact ⟨⟨_, rfl⟩, Below.trans ((Below.refl _ w).alloc (Nat.le_refl _) _) hB⟩
end Go.Proofs
namespace Go.Proofs
open Go.RowKit
set_option maxRecDepth 100000
/-- The law's code behind its head, and the head before another tail. -/
def Tryz.tail : Code → Code
  | .seq _ (.seq _ (.seq _ r)) => r
  | _ => .skip
def Tryz.graft : Code → Code → Code
  | .seq a (.seq b (.seq c _)), r => .seq a (.seq b (.seq c r))
  | c, _ => c
noncomputable def Tryz.body3 : Code := match Tryz.f3.body with
  | some c => c
  | none => .skip
theorem Tryz.body3_eq : Tryz.f3.body = some (Tryz.graft Tryz.body3 (Tryz.tail Tryz.body3)) := rfl
set_option maxHeartbeats 2000000 in
theorem Tryz.head (rest : Code) (a : Option Addr) (len cap : Nat) (w : World) (Q : Exit → Act → World → Prop)
    (hd : Calls Tryz.prog 4 #[.slice a len cap] w fun e W' => (∃ t, e = .returned (.bool t)) ∧ Below w.heap.size w W')
    (h1 : 1048576 < len → ∀ act : Act, act.defers = [] → act.tmps.getD 2 undef = .bool true → Q .ret act w)
    (h2 : ∀ (act : Act) (W' : World) (t : Bool), act.tmps.size = 48 → act.tmps.getD 3 undef = .bool t → act.defers = [] → Below w.heap.size w W' → rest.wp Tryz.prog Q act W') :
    (Tryz.graft Tryz.body3 rest).wp Tryz.prog Q { tmps := #[.slice a len cap] ++ Array.replicate (48 - 1) undef, defers := [] } w := by
  simp only [Tryz.graft, Tryz.body3, Tryz.f3, Nat.reduceSub, Array.replicate_succ, Array.replicate_zero, List.push_toArray, List.append_toArray, List.nil_append, List.cons_append]
  by_cases hl : 1048576 < len
  · have hl' : (1048576 : Int) < len := by omega
    clear hd h2
    have h1 : RowKit.Hid (∀ act : Act, act.defers = [] → act.tmps.getD 2 undef = .bool true → Q .ret act w) := h1 hl
    go_wp2
    exact h1.out _ rfl rfl
  · have hl' : ¬ (1048576 : Int) < len := by omega
    have h2 : RowKit.Hid (∀ (act : Act) (W' : World) (t : Bool), act.tmps.size = 48 → act.tmps.getD 3 undef = .bool t → act.defers = [] → Below w.heap.size w W' → rest.wp Tryz.prog Q act W') := h2
    clear h1
    go_wp2_with (go_at_call 4; refine hd.mono ?_; rintro e W1 ⟨⟨t, rfl⟩, hB⟩)
    exact h2.out _ _ _ rfl rfl rfl hB
end Go.Proofs
