/-
  The law's run, behind its head.
-/
import Derived.Test.YtfihakfjjoednaaGreatDoorFc
import Derived.Test.YtfihakfjjoednaaGreatDoorFd
import Derived.Test.YtfihakfjjoednaaGreatDoorR1a
import Derived.Test.YtfihakfjjoednaaGreatDoorR1b
import Derived.Test.YtfihakfjjoednaaGreatDoorR1c
import Derived.Test.YtfihakfjjoednaaGreatDoorR1d
import Derived.Test.YtfihakfjjoednaaGreatDoorR1e
import Derived.Test.YtfihakfjjoednaaGreatDoorR0a
import Derived.Test.YtfihakfjjoednaaGreatDoorR0b
import Derived.Test.YtfihakfjjoednaaGreatDoorR0c
import Derived.Test.YtfihakfjjoednaaGreatDoorR0d
import Derived.Test.YtfihakfjjoednaaGreatDoorR0e
set_option linter.all false
namespace Go.Ev.PN
open Go Go.Ev Go.Proofs
set_option maxRecDepth 100000
/-- What is known of the globals when the law begins. -/
noncomputable def h0 : H := hset 1 w0 .nil
noncomputable def et (t : Bool) : E := eset (slot 3) (.bo t) e0
noncomputable def tailC : Cd := match c3.b with
  | .sq _ (.sq _ (.sq _ r)) => r
  | _ => .bad
theorem tailC_eq : trC T C 48 (Tryz.tail Tryz.body3) = tailC := by kernel_rfl
theorem glob1 : ((begin Tryz.prog (fun _ _ => 0) default).world.heap[1]?).bind Obj.row? = some (Array.replicate 20 (.int .u64 0), 434) := by kernel_rfl
theorem globs : Tryz.prog.globals.size = 8 := by kernel_rfl
theorem begins : 13 ≤ (begin Tryz.prog (fun _ _ => 0) default).world.heap.size := of_decide_eq_true (by kernel_rfl)
theorem low40 : Low (evF itr ft 40) := evF_keeps ft 40
theorem calls40 : CallsOk Tryz.prog (evF itr ft 40) := evF_calls tok ctok mixed tab 40
theorem oks1 : ∀ m ∈ [m1_5_10, m1_6_1021, m1_8_1676, m1_9_3633, m1_11_9987, m1_12_10993], Me.ok (evF itr ft 40) m := (fun m hm => by
    simp only [List.mem_cons, List.not_mem_nil, or_false] at hm
    rcases hm with rfl | rfl | rfl | rfl | rfl | rfl
    · exact km1_5_10
    · exact km1_6_1021
    · exact km1_8_1676
    · exact km1_9_3633
    · exact km1_11_9987
    · exact km1_12_10993)
theorem okc1 : ∀ m ∈ [m1_36_4134, m1_36_5625, m1_36_7116, m1_36_8607], Me.ok (evF itr ft 40) m := (fun m hm => by
    simp only [List.mem_cons, List.not_mem_nil, or_false] at hm
    rcases hm with rfl | rfl | rfl | rfl
    · exact km1_36_4134
    · exact km1_36_5625
    · exact km1_36_7116
    · exact km1_36_8607)
theorem F1_calls : CallsOk Tryz.prog F1 := memo_calls calls40 calls40 _ okc1
theorem F1_low : Low F1 := memo_low low40 _ okc1
theorem G1_calls : CallsOk Tryz.prog (evG itr ft F1) := calls_step tok ctok mixed tab F1_calls F1_low
noncomputable def A1 : Cal := memo [m1_5_10, m1_6_1021, m1_8_1676, m1_9_3633, m1_11_9987, m1_12_10993] (evF itr ft 40)
theorem okw1 : ∀ m ∈ [m1_10_4115], Me.ok (evG itr ft F1) m := fun m hm => by
  simp only [List.mem_cons, List.not_mem_nil, or_false] at hm
  subst hm
  exact km1_10_4115
noncomputable def B1 : Cal := memo [m1_10_4115] A1
theorem B1_calls : CallsOk Tryz.prog B1 := memo_calls (memo_calls calls40 calls40 _ oks1) G1_calls _ okw1
theorem B1_low : Low B1 := memo_low (memo_low low40 _ oks1) _ okw1
theorem oks0 : ∀ m ∈ [m0_5_10, m0_6_1021, m0_8_1674, m0_9_3631, m0_11_9985, m0_12_10991], Me.ok (evF itr ft 40) m := (fun m hm => by
    simp only [List.mem_cons, List.not_mem_nil, or_false] at hm
    rcases hm with rfl | rfl | rfl | rfl | rfl | rfl
    · exact km0_5_10
    · exact km0_6_1021
    · exact km0_8_1674
    · exact km0_9_3631
    · exact km0_11_9985
    · exact km0_12_10991)
theorem okc0 : ∀ m ∈ [m0_36_4132, m0_36_5623, m0_36_7114, m0_36_8605], Me.ok (evF itr ft 40) m := (fun m hm => by
    simp only [List.mem_cons, List.not_mem_nil, or_false] at hm
    rcases hm with rfl | rfl | rfl | rfl
    · exact km0_36_4132
    · exact km0_36_5623
    · exact km0_36_7114
    · exact km0_36_8605)
theorem F0_calls : CallsOk Tryz.prog F0 := memo_calls calls40 calls40 _ okc0
theorem F0_low : Low F0 := memo_low low40 _ okc0
theorem G0_calls : CallsOk Tryz.prog (evG itr ft F0) := calls_step tok ctok mixed tab F0_calls F0_low
noncomputable def A0 : Cal := memo [m0_5_10, m0_6_1021, m0_8_1674, m0_9_3631, m0_11_9985, m0_12_10991] (evF itr ft 40)
theorem okw0 : ∀ m ∈ [m0_10_4113], Me.ok (evG itr ft F0) m := fun m hm => by
  simp only [List.mem_cons, List.not_mem_nil, or_false] at hm
  subst hm
  exact km0_10_4113
noncomputable def B0 : Cal := memo [m0_10_4113] A0
theorem B0_calls : CallsOk Tryz.prog B0 := memo_calls (memo_calls calls40 calls40 _ oks0) G0_calls _ okw0
theorem B0_low : Low B0 := memo_low (memo_low low40 _ oks0) _ okw0
/-- Does the run end in 'true'? -/
noncomputable def good (r : Res) : Bool := match r with
  | .ok x e _ _ => match x with
    | .rt => decide (eget (slot 2) e = .bo true)
    | _ => false
  | .no => false
theorem run1 : good (evC itr B1 9 tailC (et true) h0 10) = true := by kernel_rfl
theorem run0 : good (evC itr B0 9 tailC (et false) h0 10) = true := by kernel_rfl
noncomputable def top (t : Bool) : Cal := match t with
  | true => B1
  | false => B0
theorem top_calls (t : Bool) : CallsOk Tryz.prog (top t) := by cases t; exact B0_calls; exact B1_calls
theorem top_low (t : Bool) : Low (top t) := by cases t; exact B0_low; exact B1_low
theorem runs (t : Bool) : good (evC itr (top t) 9 tailC (et t) h0 10) = true := by cases t; exact run0; exact run1
end Go.Ev.PN
namespace Go.Ev.PN
open Go Go.Ev Go.Proofs
set_option maxRecDepth 100000
noncomputable def φ0 : Ph := fun id => if id < 8 then some ⟨id, 0, if id = 1 then 20 else 0⟩ else none
def pows : List Value := (List.range 20).map fun i => .int .u64 (Int.ofNat (10 ^ i))
theorem φ0_some {id : Nat} {p : Pl} (h : φ0 id = some p) : id < 8 ∧ p = ⟨id, 0, if id = 1 then 20 else 0⟩ := by
  unfold φ0 at h
  split at h
  · rename_i hid; injection h with h; exact ⟨hid, h.symm⟩
  · cases h
theorem h0_get (id : Nat) : hget h0 id = if id = 1 then w0 else .no := by
  unfold h0
  rw [hget_hset _ _ _ _ (by decide)]
  rfl
theorem w0_row (φ : Ph) : OR φ ⟨1, 0, 20⟩ w0 (.cells ⟨pows⟩ 434 (0, 0)) := by
  refine ⟨⟨pows⟩, (0, 0), rfl, rfl, by decide, fun _ => ⟨rfl, rfl⟩, ?_, fun k _ off _ h => ?_, by decide⟩
  · show CR φ _ _
    simp only [CR, All2, LR, QR, pows, lim, List.range, List.range.loop, List.map, List.drop, List.take, List.length]
    simp [pows, All2, LR, QR, lim, List.range, List.range.loop]
  · omega
theorem start_rep {w : World} (hsz : 8 ≤ w.heap.size) (h1 : w.heap[1]? = some (.cells ⟨pows⟩ 434 (0, 0))) : Rep φ0 (hget h0) w := by
  refine ⟨fun id p hp => ?_, fun i j p q hp hq _ _ hb => ?_⟩
  · obtain ⟨hid, rfl⟩ := φ0_some hp
    by_cases h : id = 1
    · subst h
      exact ⟨_, h1, by rw [h0_get]; exact w0_row φ0⟩
    · have e1 : hget h0 id = .no := by rw [h0_get, if_neg h]
      exact ⟨_, Array.getElem?_eq_getElem (by show id < _; omega), by rw [e1]; trivial⟩
  · obtain ⟨_, rfl⟩ := φ0_some hp
    obtain ⟨_, rfl⟩ := φ0_some hq
    exact hb
theorem start_dom : Dom φ0 10 := ⟨fun id hid => by unfold φ0; rw [if_neg (by omega)], by decide⟩
theorem start_glob : GOk φ0 := fun g hg => ⟨_, by unfold φ0; rw [if_pos hg]⟩
theorem start_slots {act : Act} {t : Bool} (h : act.tmps.getD 3 undef = .bool t) : SR φ0 (et t) act := by
  intro k hk
  unfold et
  rw [eget_eset]
  split
  · rename_i hs
    obtain rfl := slot_inj hk (by decide) hs
    exact h
  · rw [eget_e0]; trivial
theorem law_calls {a : Option Addr} {len cap : Nat} {W : World} (hsz : 8 ≤ W.heap.size) (h1 : W.heap[1]? = some (.cells ⟨pows⟩ 434 (0, 0)))
    (hd : Calls Tryz.prog 4 #[.slice a len cap] W fun e W' => (∃ t, e = .returned (.bool t)) ∧ RowKit.Below W.heap.size W W') :
    Calls Tryz.prog 3 #[.slice a len cap] W fun e W' => e = .returned (.bool true) ∧ W.heap.size ≤ W'.heap.size ∧ (∀ b < W.heap.size, W'.heap[b]? = W.heap[b]?) ∧ W'.os = W.os ∧ W'.output = W.output := by
  refine calls_of_wp Tryz.func3 Tryz.body3_eq ?_
  refine Tryz.head (Tryz.tail Tryz.body3) a len cap W _ hd ?_ ?_
  · intro _ act hdf h2
    refine ⟨hdf, .bool true, ?_, rfl, Nat.le_refl _, fun _ _ => rfl, rfl, rfl⟩
    rw [results_tmp rfl, h2]
  · intro act W1 t hts h3 hdf hB
    have hc := top_calls t
    have hl := top_low t
    refine code_ok tok ctok hc (draw_ok tok ctok hc hl mixed) (lo := 9) (N := 48) _ _ (et t) h0 10 φ0 act W1 _ ⟨start_slots h3, hts, hdf⟩ start_glob (start_rep (Nat.le_trans hsz hB.size) (by rw [hB.block 1 (by omega)]; exact h1)) start_dom (by decide) rfl ?_ ?_
    · rw [tailC_eq]
      intro hno
      have := runs t
      rw [hno] at this
      cases this
    · rintro x a' w' ⟨y, e', h', n', φ', hr, rfl, ha, _, hs⟩
      rw [tailC_eq] at hr
      have hgood := runs t
      rw [hr] at hgood
      cases y with
      | rt =>
        have hgood : eget (slot 2) e' = .bo true := of_decide_eq_true hgood
        have hv := ha.sr 2 (by decide)
        rw [hgood] at hv
        refine ⟨ha.df, .bool true, ?_, rfl, Nat.le_trans hB.size hs.sz, fun b hb => ?_, hs.io.1.trans hB.os, hs.io.2.trans hB.output⟩
        · rw [results_tmp rfl, show a'.tmps.getD 2 undef = .bool true from hv]
        · rw [hs.fr b (Nat.lt_of_lt_of_le hb hB.size), hB.block b hb]
          rintro ⟨id, p, h1, h2, _⟩
          have := (φ0_some h2).1
          omega
      | nm => cases hgood
      | ex i => cases hgood
end Go.Ev.PN
