/-
  The program's functions as the evaluator has them.
-/
import Derived.Test.YtfihakfjjoednaaGreatDoorProg
import Derived.KernelRfl
import Derived.Test.YtfihakfjjoednaaGreatDoorQ3
import Derived.Test.YtfihakfjjoednaaGreatDoorEh
set_option linter.all false
namespace Go.Ev
def FT.es : FT → List (Nat × Fn)
  | .nil => []
  | .nd v l r => (v.toList.map fun f => (0, f)) ++ (l.es.map fun x => (2 * x.1 + 1, x.2)) ++ (r.es.map fun x => (2 * x.1 + 2, x.2))
def FT.dp : FT → Nat
  | .nil => 0
  | .nd _ l r => max l.dp r.dp + 1
theorem fget_es : ∀ (d : Nat) (t : FT) (f : Nat) (fn : Fn), t.dp ≤ d → fget (path d f) t = some fn → (f, fn) ∈ t.es := by
  intro d
  induction d with
  | zero =>
    intro t f fn hd h
    cases t with
    | nil => cases h
    | nd v l r => simp [FT.dp] at hd
  | succ d ih =>
    intro t f fn hd h
    cases t with
    | nil =>
      have : ∀ p : P, fget p .nil = none := by
        intro p
        induction p with
        | z => rfl
        | l p ih => exact ih
        | r p ih => exact ih
      rw [this] at h; cases h
    | nd v l r =>
      simp only [FT.dp] at hd
      have hp : path (d + 1) f = if f = 0 then .z else if f % 2 = 1 then .l (path d (f / 2)) else .r (path d (f / 2 - 1)) := rfl
      rw [hp] at h
      simp only [FT.es, List.mem_append, List.mem_map]
      by_cases h0 : f = 0
      · rw [if_pos h0] at h
        have h : v = some fn := h
        left; left
        exact ⟨fn, by simp [h], by rw [h0]⟩
      · rw [if_neg h0] at h
        by_cases h1 : f % 2 = 1
        · rw [if_pos h1] at h
          have h : fget (path d (f / 2)) l = some fn := h
          left; right
          exact ⟨_, ih l (f / 2) fn (by omega) h, by simp; omega⟩
        · rw [if_neg h1] at h
          have h : fget (path d (f / 2 - 1)) r = some fn := h
          right
          exact ⟨_, ih r (f / 2 - 1) fn (by omega) h, by simp; omega⟩
theorem tab_ok {P : Program} {T : TT} {C : CT} {ft : FT} (hd : ft.dp ≤ 12) (h1 : (ft.es.map fun x => (P.funcs[x.1]?).bind (trF T C)) = ft.es.map fun x => some x.2)
    (h2 : (ft.es.all fun x => match P.funcs[x.1]? with | some fu => !(fu.name == "runtime.NumGoroutine") | none => false) = true) : TabOk P T C ft := by
  intro f fn h
  have hm := fget_es 12 ft f fn hd h
  have e1 : (P.funcs[f]?).bind (trF T C) = some fn := by
    obtain ⟨i, hi⟩ := List.getElem?_of_mem hm
    have := congrArg (·[i]?) h1
    simp only [List.getElem?_map, hi, Option.map_some] at this
    injection this
  have e2 := List.all_eq_true.1 h2 _ hm
  cases hf : P.funcs[f]? with
  | none => rw [hf] at e1; cases e1
  | some fu =>
    rw [hf] at e1
    simp only [hf] at e2
    exact ⟨fu, rfl, by simpa using e2, e1⟩
end Go.Ev
namespace Go.Ev.PN
open Go Go.Ev Go.Proofs
set_option maxRecDepth 100000
noncomputable def T : TT := ti1 Tryz.prog
def C : CT := fun f => match f with
  | 49 => .itr 3
  | 386 => .itr 0
  | 401 => .itr 2
  | 426 => .itr 1
  | 421 => .mz 5
  | _ => .call
theorem names : (ft.es.all fun x => match Tryz.prog.funcs[x.1]? with | some fu => !(fu.name == "runtime.NumGoroutine") | none => false) = true := by kernel_rfl
theorem funcs : (ft.es.map fun x => (Tryz.prog.funcs[x.1]?).bind (trF T C)) = ft.es.map fun x => some x.2 := by kernel_rfl
theorem deep : ft.dp ≤ 12 := of_decide_eq_true (by kernel_rfl)
theorem tab : TabOk Tryz.prog T C ft := tab_ok deep funcs names
theorem tok : TOk Tryz.prog T := ti1_ok Tryz.prog
theorem mixed : Tryz.prog.follows .mixedOrders = true := by kernel_rfl
end Go.Ev.PN
