/-
  impl.Disk.look, where no write waits: the text of the cell.
-/
import Derived.Test.YtfihakfjjoednaaGreatDoorProg
import Derived.RangeFuncBox
import Derived.RangeFuncLeaves
import Derived.Shelf.Abstract
import Derived.WalkKit
import Derived.OwnWalkIn
import Derived.TacticsInMore
import Derived.LoopNIn
import Derived.LoopIn
set_option linter.all false
namespace Go.Proofs
open Go.RowKit Go.Shelf
attribute [local go_sem] Oper.semAt_some
set_option maxRecDepth 100000
set_option maxHeartbeats 1000000 in
theorem Tryz.back (a : Option Addr) (len cap : Nat) (w : World) :
    CallsIn Fence.wide 0 Tryz.prog 113 #[.slice a len cap] w fun e w' => e = .returned (.func (.func 200) #[] #[.pointer (some ⟨w.heap.size, 0, none⟩)]) ∧ w' = w.alloc (.cells #[.slice a len cap] 76) := by
  refine callsIn_of_wp Tryz.func113 rfl trivial ?_ rfl
  simp only [Tryz.ntmps113, List.size_toArray, List.length_cons, List.length_nil, Nat.reduceAdd, Nat.reduceSub, Array.replicate_succ, Array.replicate_zero, List.push_toArray, List.append_toArray, List.nil_append, List.cons_append]
  gi_wp2
  go_ret
  exact ⟨rfl, rfl⟩
set_option maxHeartbeats 2000000 in
theorem Tryz.back1 (l Bs : Nat) (a : Option Addr) (cap : Nat) (W : World) (hBs : W.cell? ⟨Bs, 0, none⟩ = some (.slice a 0 cap)) :
    CallsIn Fence.wide 0 Tryz.prog 200 #[.func (.yield l) #[] #[], .pointer (some ⟨Bs, 0, none⟩)] W fun e W' => (∃ v, e = .returned v) ∧ W' = W := by
  refine callsIn_of_wp Tryz.func200 rfl trivial ?_ rfl
  simp only [Tryz.ntmps200, List.size_toArray, List.length_cons, List.length_nil, Nat.reduceAdd, Nat.reduceSub, Array.replicate_succ, Array.replicate_zero, List.push_toArray, List.append_toArray, List.nil_append, List.cons_append]
  gi_wp2
  gi_loopw [3] (fun i wr => i = .int .i64 (-1) ∧ wr = W) (fun _ _ => 0)
  case atStart => exact ⟨rfl, rfl⟩
  case round =>
    obtain ⟨rfl, rfl⟩ := hrel
    gi_wp2
    go_end0
    exact ⟨⟨_, rfl⟩, rfl⟩
/-- A range over a function value, outside all rounds and fences. -/
theorem wpIn_range {P : Program} {g : Operand} {ps : Array Tmp} {assign body : Code} {Q : Exit → Act → World → Prop} {a : Act} {w : World} {gf : Nat} {lb : Array Value} (hg : a.eval g = .func (.func gf) #[] lb)
    (eg : ∀ args w, (callFunc gf args).run P w = .ok (.enter gf args) w)
    (h : ∀ fn, CallsIn Fence.wide 0 P gf (#[.func (.yield (w.heap.size + 1)) #[] #[]] ++ lb)
      ((w.alloc (.deferred (some []))).alloc (.loop { state := .ready, pending := none, fn := fn, tmps := a.tmps, params := ps, assign := assign, body := body, defers := w.heap.size }))
      (rangePost Fence.wide 0 P (w.heap.size + 1) Q { a with defers := [{ target := .collected w.heap.size, args := #[] }] ++ a.defers })) :
    (Code.rangeFunc g ps assign body).wpIn Fence.wide 0 P Q a w := by
  refine wpIn_rangeFunc ?_
  intro fn _
  have h1 := run_enterLoop_outer (P := P) (w := w) fn a.tmps ps assign body
  have h0 := h fn
  generalize (w.alloc (.deferred (some []))).alloc (.loop { state := .ready, pending := none, fn := fn, tmps := a.tmps, params := ps, assign := assign, body := body, defers := w.heap.size }) = w1 at h1 h0
  have h2 : (resolve a.eval (rangeCall g (w.heap.size + 1)) 0).run P w1 = .ok { target := .fn (.func gf) lb, args := #[.func (.yield (w.heap.size + 1)) #[] #[]] } w1 := by
    simp [resolve, hg, Deferred.ofValue]
    rfl
  have h3 : (invoke (.fn (.func gf) lb) #[.func (.yield (w.heap.size + 1)) #[] #[]]).run P w1 = .ok (.enter gf (#[.func (.yield (w.heap.size + 1)) #[] #[]] ++ lb)) w1 := by
    simp [invoke, eg]
  exact ⟨_, _, _, _, _, _, _, _, h1, h2, fun _ _ => trivial, h3, (fun h => by cases h), h0⟩
theorem Tryz.box_cell {W : World} {B i : Nat} {vs : Array Value} {v : Value} {t : TypeId} (h : W.heap[B]? = some (.cells vs t (0, 0))) (hv : vs[i]? = some v) : W.cell? ⟨B, i, none⟩ = some v ∧ W.frozen? ⟨B, i, none⟩ = false := by
  constructor <;> simp [World.cell?, World.frozen?, h, hv]
set_option maxHeartbeats 4000000 in
theorem Tryz.look (b o n cap wc k : Nat) (wa : Option Addr) (g : Bool) (s : ByteArray) (w : World) (hk : k < n) (hc : w.cell? ⟨b, o + k, none⟩ = some (.string s)) :
    Calls Tryz.prog 49 #[.agg #[.slice (some ⟨b, o, none⟩) n cap, .slice wa 0 wc, .bool g], .int .i64 k] w fun e w' => e = .returned (.string s) ∧ Below w.heap.size w w' := by
  refine (callsIn_wide (n := 0)).1 ?_
  refine callsIn_of_wp_marks Tryz.func49 rfl trivial ?_ rfl
  simp only [Tryz.ntmps49, List.size_toArray, List.length_cons, List.length_nil, Nat.reduceAdd, Nat.reduceSub, Array.replicate_succ, Array.replicate_zero, List.push_toArray, List.append_toArray, List.nil_append, List.cons_append]
  gi_wp2_with (gi_at_call 113; fail)
  refine ⟨trivial, rfl, (Tryz.back _ _ _ _).mono ?_⟩
  rintro e w' ⟨rfl, rfl⟩
  gi_wp2
  -- the world at the loop
  obtain ⟨W0, hW0⟩ : ∃ W0, (((w.alloc (.cells #[.slice (some ⟨b, o, none⟩) n cap, .slice wa 0 wc, .bool g] 78)).alloc (.cells #[.int .i64 k] 3)).alloc (.cells #[.string ⟨#[]⟩] 9)).alloc (.cells #[.slice wa 0 wc] 76) = W0 := ⟨_, rfl⟩
  have hs0 : W0.heap.size = w.heap.size + 4 := by rw [← hW0]; simp
  have hB : Below w.heap.size w W0 := by
    rw [← hW0]
    exact ((((Below.refl _ w).alloc (Nat.le_refl _) _).alloc (by simp) _).alloc (by simp; omega) _).alloc (by simp; omega) _
  have hb0 : W0.heap[w.heap.size]? = some (.cells #[.slice (some ⟨b, o, none⟩) n cap, .slice wa 0 wc, .bool g] 78 (0, 0)) := by
    rw [← hW0]
    exact (Below.heap_alloc _ _ _ (by simp; omega)).trans ((Below.heap_alloc _ _ _ (by simp; try omega)).trans ((Below.heap_alloc _ _ _ (by simp)).trans (World.alloc_heap_new w _)))
  have hb1 : W0.heap[w.heap.size + 1]? = some (.cells #[.int .i64 k] 3 (0, 0)) := by
    rw [← hW0]
    refine (Below.heap_alloc _ _ _ (by simp)).trans ((Below.heap_alloc _ _ _ (by simp)).trans ?_)
    have := World.alloc_heap_new (w.alloc (.cells #[.slice (some ⟨b, o, none⟩) n cap, .slice wa 0 wc, .bool g] 78)) (.cells #[.int .i64 k] 3)
    rwa [World.size_alloc] at this
  have hb2 : W0.heap[w.heap.size + 1 + 1]? = some (.cells #[.string ⟨#[]⟩] 9 (0, 0)) := by
    rw [← hW0]
    refine (Below.heap_alloc _ _ _ (by simp)).trans ?_
    have := World.alloc_heap_new ((w.alloc (.cells #[.slice (some ⟨b, o, none⟩) n cap, .slice wa 0 wc, .bool g] 78)).alloc (.cells #[.int .i64 k] 3)) (.cells #[.string ⟨#[]⟩] 9)
    rwa [World.size_alloc, World.size_alloc] at this
  have hb3 : W0.heap[w.heap.size + 1 + 1 + 1]? = some (.cells #[.slice wa 0 wc] 76 (0, 0)) := by
    rw [← hW0]
    have := World.alloc_heap_new (((w.alloc (.cells #[.slice (some ⟨b, o, none⟩) n cap, .slice wa 0 wc, .bool g] 78)).alloc (.cells #[.int .i64 k] 3)).alloc (.cells #[.string ⟨#[]⟩] 9)) (.cells #[.slice wa 0 wc] 76)
    rwa [World.size_alloc, World.size_alloc, World.size_alloc] at this
  rw [hW0]
  clear hW0
  refine wpIn_range (gf := 200) (lb := #[.pointer (some ⟨w.heap.size + 1 + 1 + 1, 0, none⟩)]) rfl (enters_of Tryz.func200 (by kernel_rfl) rfl) fun fn => ?_
  generalize hlp : (Obj.loop _) = lp
  obtain ⟨W1, hW1⟩ : ∃ W1, (W0.alloc (.deferred (some []))).alloc lp = W1 := ⟨_, rfl⟩
  have hold : ∀ j, j < W0.heap.size → W1.heap[j]? = W0.heap[j]? := fun j hj => by
    rw [← hW1]; exact (Below.heap_alloc _ _ j (by simp; omega)).trans (Below.heap_alloc _ _ j hj)
  have hB1 : Below w.heap.size w W1 := by
    rw [← hW1]
    exact (hB.alloc (by omega) _).alloc (by simp; omega) _
  have hK1 : W1.heap[W0.heap.size]? = some (.deferred (some [])) := by
    rw [← hW1]; exact (Below.heap_alloc _ _ _ (by simp)).trans (World.alloc_heap_new W0 _)
  have hL1 : W1.heap[W0.heap.size + 1]? = some lp := by
    rw [← hW1]
    have := World.alloc_heap_new (W0.alloc (.deferred (some []))) lp
    rwa [World.size_alloc] at this
  rw [hW1]
  clear hW1
  refine (Tryz.back1 _ _ wa wc W1 ?_).mono ?_
  · exact (Tryz.box_cell ((hold _ (by omega)).trans hb3) (i := 0) rfl).1
  rintro e W2 ⟨⟨v, rfl⟩, rfl⟩
  subst hlp
  refine ⟨none, _, run_endLoop hL1 (by simp), ?_⟩
  generalize hW3 : W2.putObj (W0.heap.size + 1) _ = W3
  have hh3 : ∀ j, j < W0.heap.size → W3.heap[j]? = W0.heap[j]? := fun j hj => by
    rw [← hW3, World.putObj_heap_other (by omega)]; exact hold j hj
  have hB3 : Below w.heap.size w W3 := by
    rw [← hW3]
    exact ⟨hB1.os, hB1.tape, hB1.output, by simpa [World.putObj] using hB1.size, fun j hj => by rw [World.putObj_heap_other (by omega)]; exact hB1.block j hj⟩
  have hK3 : W3.heap[W0.heap.size]? = some (.deferred (some [])) := by
    rw [← hW3, World.putObj_heap_other (by omega)]; exact hK1
  clear hW3
  have c0 := (Tryz.box_cell ((hh3 _ (by omega)).trans hb0) (i := 0) rfl).1
  have c1 := (Tryz.box_cell ((hh3 _ (by omega)).trans hb1) (i := 0) rfl).1
  obtain ⟨c2, f2⟩ := Tryz.box_cell ((hh3 _ (by omega)).trans hb2) (i := 0) rfl
  have hbl : b < w.heap.size := by
    unfold World.cell? at hc
    split at hc
    · rename_i hx; exact (Array.getElem?_eq_some_iff.1 hx).1
    · cases hc
  have c3 : W3.cell? ⟨b, o + k, none⟩ = some (.string s) := (hB3.cell (p := ⟨b, o + k, none⟩) hbl).trans hc
  clear hh3 hb0 hb1 hb2 hb3 hold hK1 hL1 hB1 hB hc
  simp only []
  gi_wp2
  have hK4 : (W3.setCell ⟨w.heap.size + 1 + 1, 0, none⟩ (.string s)).heap[W0.heap.size]? = some (.deferred (some [])) := (Below.heap_setCell _ _ _ _ (by show W0.heap.size ≠ w.heap.size + 1 + 1; omega)).trans hK3
  refine ⟨by simp, .inl ⟨_, _, rfl, run_takeDeferred hK4, ?_⟩⟩
  have hc5 : ((W3.setCell ⟨w.heap.size + 1 + 1, 0, none⟩ (.string s)).putObj W0.heap.size (.deferred none)).cell? ⟨w.heap.size + 1 + 1, 0, none⟩ = some (.string s) :=
    (World.cell?_of_block (World.putObj_heap_other (k := w.heap.size + 1 + 1) (by omega))).trans (World.cell?_setCell_same' _ _ _ (by rw [c2]; rfl))
  refine ⟨.string s, ?_, rfl, ?_⟩
  · simp [results, Tryz.f49, go_sem, hc5]
  · have h4 := hB3.setCell (p := ⟨w.heap.size + 1 + 1, 0, none⟩) (by show w.heap.size ≤ w.heap.size + 1 + 1; omega) (.string s)
    exact ⟨h4.os, h4.tape, h4.output, by simpa [World.putObj] using h4.size, fun j hj => by rw [World.putObj_heap_other (by omega)]; exact h4.block j hj⟩
end Go.Proofs
