/-
  Operations on values: nils, places, lengths, cuts.
-/
import Derived.Test.YtfihakfjjoednaaGreatDoorEb
set_option linter.all false
namespace Go.Ev
section
variable {P : Program} {T : TT} {C : CT} {φ : Ph} {e : E} {a : Act} {o : Oper}
section
variable {t c v : TypeId} (d : Nat) (w : World)
theorem in_slice (ht : P.underlying t = some (.slice c)) (p : Addr) (n k : Nat) : (Op.equalIn (d + 1) t (.slice (some p) n k) (.slice none 0 0)).run P w = .ok false w := by simp [Op.equalIn, run_underlying ht]
theorem in_slice' (ht : P.underlying t = some (.slice c)) (p : Option Addr) (n k : Nat) : (Op.equalIn (d + 1) t (.slice none 0 0) (.slice p n k)).run P w = .ok p.isNone w := by simp [Op.equalIn, run_underlying ht]
theorem in_map (ht : P.underlying t = some (.map c v)) (p : Nat) : (Op.equalIn (d + 1) t (.map (some p)) (.map none)).run P w = .ok false w := by simp [Op.equalIn, run_underlying ht]
theorem in_map' (ht : P.underlying t = some (.map c v)) (p : Option Nat) : (Op.equalIn (d + 1) t (.map none) (.map p)).run P w = .ok p.isNone w := by simp [Op.equalIn, run_underlying ht]
theorem in_func {ps rs : Array TypeId} {vd : Bool} (ht : P.underlying t = some (.func ps rs vd)) (f : Go.Fn) (x y : Array Value) : (Op.equalIn (d + 1) t (.func f x y) .nilFunc).run P w = .ok false w := by simp [Op.equalIn, run_underlying ht]
theorem in_func' {ps rs : Array TypeId} {vd : Bool} (ht : P.underlying t = some (.func ps rs vd)) (f : Go.Fn) (x y : Array Value) : (Op.equalIn (d + 1) t .nilFunc (.func f x y)).run P w = .ok false w := by simp [Op.equalIn, run_underlying ht]
theorem in_func'' {ps rs : Array TypeId} {vd : Bool} (ht : P.underlying t = some (.func ps rs vd)) : (Op.equalIn (d + 1) t .nilFunc .nilFunc).run P w = .ok true w := by simp [Op.equalIn, run_underlying ht]
theorem in_iface {ms : Array (String × TypeId)} (ht : P.underlying t = some (.interface ms)) : (Op.equalIn (d + 1) t .nilIface .nilIface).run P w = .ok true w := by simp [Op.equalIn, run_underlying ht]
end
theorem isZ_VR {z : Z} {x : V} {p : Value} (h : isZ z x = true) (hx : VR φ x p) : p = z.val := by
  unfold isZ at h
  split at h
  · rename_i y
    have : y = z := by simpa using h
    subst this; exact hx
  · cases h
/-- What stands beside a nil. -/
theorem eqZ_ns {x : V} {p : Value} (hx : VR φ x p) {r : Bool} (h : eqZ .ns x = some r) : (∃ b n k, p = .slice (some b) n k ∧ r = false) ∨ (p = .slice none 0 0 ∧ r = true) := by
  unfold eqZ at h
  simp only at h
  split at h
  · obtain ⟨q, cap, _, hp, _⟩ := hx
    injection h with h; exact .inl ⟨_, _, _, hp, h.symm⟩
  · injection h with h; exact .inr ⟨hx, h.symm⟩
  · cases h
theorem eqZ_nm {x : V} {p : Value} (hx : VR φ x p) {r : Bool} (h : eqZ .nm x = some r) : (∃ b, p = .map (some b) ∧ r = false) ∨ (p = .map none ∧ r = true) := by
  unfold eqZ at h
  simp only at h
  split at h
  · obtain ⟨q, _, hp⟩ := hx
    injection h with h; exact .inl ⟨_, hp, h.symm⟩
  · injection h with h; exact .inr ⟨hx, h.symm⟩
  · cases h
theorem eqZ_nf {x : V} {p : Value} (hx : VR φ x p) {r : Bool} (h : eqZ .nf x = some r) : (∃ f b, p = .func f #[] b ∧ r = false) ∨ (p = .nilFunc ∧ r = true) := by
  unfold eqZ at h
  simp only at h
  split at h
  · obtain ⟨q, hp, _⟩ := hx
    injection h with h; exact .inl ⟨_, _, hp, h.symm⟩
  · injection h with h; exact .inr ⟨hx, h.symm⟩
  · cases h
theorem eqZ_ni {x : V} {p : Value} (hx : VR φ x p) {r : Bool} (h : eqZ .ni x = some r) : p = .nilIface ∧ r = true := by
  unfold eqZ at h
  simp only at h
  split at h
  · injection h with h; exact ⟨hx, h.symm⟩
  · cases h
theorem gives_eqZs {t u c : TypeId} {bop : BinOp} {n : Bool} {x y : Operand} (hs : SR φ e a) (hg : GOk φ) (hb : Eqs bop n) (h : o.op = .binOp bop t x y u) (ht : P.underlying t = some (.slice c))
    {r : Bool} (hr : eqV (.z .ns) (opd (trO x) e) (opd (trO y) e) = some r) : Gives P a o φ (.bo (xor r n)) := by
  have hx := opd_VR hs hg x
  have hy := opd_VR hs hg y
  simp only [eqV, cond_eq_ite] at hr
  split at hr
  · rename_i hz
    have hy : a.eval y = .slice none 0 0 := isZ_VR hz hy
    rcases eqZ_ns hx hr with ⟨b, m, k, hp, rfl⟩ | ⟨hp, rfl⟩
    · exact gives_equal hb h hp hy (fun w => eqGuard_plain ⟨by simp, by simp⟩ w) (fun w => in_slice 9999 w ht _ _ _) (by simp [binOp]) (by simp [binOp])
    · exact gives_equal hb h hp hy (fun w => eqGuard_plain ⟨by simp, by simp⟩ w) (fun w => in_slice' 9999 w ht _ _ _) (by simp [binOp]) (by simp [binOp])
  · split at hr
    · rename_i hz
      have hx : a.eval x = .slice none 0 0 := isZ_VR hz hx
      rcases eqZ_ns hy hr with ⟨b, m, k, hp, rfl⟩ | ⟨hp, rfl⟩
      · exact gives_equal hb h hx hp (fun w => eqGuard_plain ⟨by simp, by simp⟩ w) (fun w => in_slice' 9999 w ht _ _ _) (by simp [binOp]) (by simp [binOp])
      · exact gives_equal hb h hx hp (fun w => eqGuard_plain ⟨by simp, by simp⟩ w) (fun w => in_slice' 9999 w ht _ _ _) (by simp [binOp]) (by simp [binOp])
    · cases hr
theorem gives_eqZm {t u c v : TypeId} {bop : BinOp} {n : Bool} {x y : Operand} (hs : SR φ e a) (hg : GOk φ) (hb : Eqs bop n) (h : o.op = .binOp bop t x y u) (ht : P.underlying t = some (.map c v))
    {r : Bool} (hr : eqV (.z .nm) (opd (trO x) e) (opd (trO y) e) = some r) : Gives P a o φ (.bo (xor r n)) := by
  have hx := opd_VR hs hg x
  have hy := opd_VR hs hg y
  simp only [eqV, cond_eq_ite] at hr
  split at hr
  · rename_i hz
    have hy : a.eval y = .map none := isZ_VR hz hy
    rcases eqZ_nm hx hr with ⟨b, hp, rfl⟩ | ⟨hp, rfl⟩
    · exact gives_equal hb h hp hy (fun w => eqGuard_plain ⟨by simp, by simp⟩ w) (fun w => in_map 9999 w ht _) (by simp [binOp]) (by simp [binOp])
    · exact gives_equal hb h hp hy (fun w => eqGuard_plain ⟨by simp, by simp⟩ w) (fun w => in_map' 9999 w ht _) (by simp [binOp]) (by simp [binOp])
  · split at hr
    · rename_i hz
      have hx : a.eval x = .map none := isZ_VR hz hx
      rcases eqZ_nm hy hr with ⟨b, hp, rfl⟩ | ⟨hp, rfl⟩
      · exact gives_equal hb h hx hp (fun w => eqGuard_plain ⟨by simp, by simp⟩ w) (fun w => in_map' 9999 w ht _) (by simp [binOp]) (by simp [binOp])
      · exact gives_equal hb h hx hp (fun w => eqGuard_plain ⟨by simp, by simp⟩ w) (fun w => in_map' 9999 w ht _) (by simp [binOp]) (by simp [binOp])
    · cases hr
theorem gives_eqZf {t u : TypeId} {ps rs : Array TypeId} {vd : Bool} {bop : BinOp} {n : Bool} {x y : Operand} (hs : SR φ e a) (hg : GOk φ) (hb : Eqs bop n) (h : o.op = .binOp bop t x y u)
    (ht : P.underlying t = some (.func ps rs vd)) {r : Bool} (hr : eqV (.z .nf) (opd (trO x) e) (opd (trO y) e) = some r) : Gives P a o φ (.bo (xor r n)) := by
  have hx := opd_VR hs hg x
  have hy := opd_VR hs hg y
  simp only [eqV, cond_eq_ite] at hr
  split at hr
  · rename_i hz
    have hy : a.eval y = .nilFunc := isZ_VR hz hy
    rcases eqZ_nf hx hr with ⟨f, b, hp, rfl⟩ | ⟨hp, rfl⟩
    · exact gives_equal hb h hp hy (fun w => eqGuard_plain ⟨by simp, by simp⟩ w) (fun w => in_func 9999 w ht _ _ _) (by simp [binOp]) (by simp [binOp])
    · exact gives_equal hb h hp hy (fun w => eqGuard_plain ⟨by simp, by simp⟩ w) (fun w => in_func'' 9999 w ht) (by simp [binOp]) (by simp [binOp])
  · split at hr
    · rename_i hz
      have hx : a.eval x = .nilFunc := isZ_VR hz hx
      rcases eqZ_nf hy hr with ⟨f, b, hp, rfl⟩ | ⟨hp, rfl⟩
      · exact gives_equal hb h hx hp (fun w => eqGuard_plain ⟨by simp, by simp⟩ w) (fun w => in_func' 9999 w ht _ _ _) (by simp [binOp]) (by simp [binOp])
      · exact gives_equal hb h hx hp (fun w => eqGuard_plain ⟨by simp, by simp⟩ w) (fun w => in_func'' 9999 w ht) (by simp [binOp]) (by simp [binOp])
    · cases hr
theorem gives_eqZi {t u : TypeId} {ms : Array (String × TypeId)} {bop : BinOp} {n : Bool} {x y : Operand} (hs : SR φ e a) (hg : GOk φ) (hb : Eqs bop n) (h : o.op = .binOp bop t x y u)
    (ht : P.underlying t = some (.interface ms)) (hn : isNilI y = true) {r : Bool} (hr : eqV (.z .ni) (opd (trO x) e) (opd (trO y) e) = some r) : Gives P a o φ (.bo (xor r n)) := by
  have hx := opd_VR hs hg x
  obtain rfl : y = .const .nilIface := by
    unfold isNilI at hn
    split at hn
    · rfl
    · cases hn
  have hz : isZ .ni (opd (trO (.const .nilIface)) e) = true := by simp [trO, trV, opd, isZ, V.nl]
  simp only [eqV, hz, cond_true] at hr
  obtain ⟨hp, rfl⟩ := eqZ_ni hx hr
  have hy : a.eval (.const .nilIface) = .nilIface := rfl
  refine gives_equal hb h hp hy (fun w => ?_) (fun w => in_iface 9999 w ht) (by simp [binOp]) (by simp [binOp])
  unfold eqGuard
  rcases hb with ⟨rfl, _⟩ | ⟨rfl, _⟩ <;> simp
end
end Go.Ev
namespace Go.Ev
section
variable {P : Program} {T : TT} {C : CT} {φ : Ph} {e : E} {a : Act} {o : Oper}
theorem VR_st {x : Value} {l : List Nat} (h : VR φ (.st l) x) : ∃ s, x = .string s ∧ bytesOf s = l := h
theorem gives_index {t : TypeId} {x i : Operand} (hs : SR φ e a) (hg : GOk φ) (h : o.op = .index t x i) (ht : P.underlying t = some .string)
    (hne : index (opd (trO x) e) (opd (trO i) e) ≠ .er) : Gives P a o φ (index (opd (trO x) e) (opd (trO i) e)) := by
  have hx := opd_VR hs hg x
  have hi := opd_VR hs hg i
  unfold index at hne ⊢
  split at hne
  · rename_i l hq
    rw [hq] at hx
    obtain ⟨s, hx2, rfl⟩ := VR_st hx
    split at hne
    · rename_i k n hq'
      rw [hq'] at hi
      obtain ⟨hi, _⟩ := hi
      simp only [dr_eq] at hne ⊢
      cases hd : (bytesOf s).drop n with
      | nil => simp [hd] at hne
      | cons b r =>
        have hb : (bytesOf s)[n]? = some b := by
          have := congrArg (·[0]?) hd
          simpa using this
        simp only [bytesOf, List.getElem?_map, Option.map_eq_some_iff] at hb
        obtain ⟨c, hc, rfl⟩ := hb
        have hn : n < s.size := by
          have := (List.getElem?_eq_some_iff.1 hc).1
          rw [Array.length_toList] at this
          exact this
        have hget : s[n]? = some c := by
          have h1 := (List.getElem?_eq_some_iff.1 hc).2
          rw [getElem?_pos s n hn]
          congr 1
        refine ⟨.int .u8 c.toNat, fun w => ?_, rfl, by simp [lim]; exact c.toNat_lt⟩
        simp [execOp, h, Instr.index, hx2, hi, asIntOf, run_underlying ht, hget]
    · exact absurd rfl hne
  · exact absurd rfl hne
theorem gives_conv {s d : TypeId} {k : IntKind} {x : Operand} (hs : SR φ e a) (hg : GOk φ) (h : o.op = .convert s d x) {q : TypeDesc} (ht : P.underlying s = some q) (hd : P.underlying d = some (.int k))
    (hne : conv k (opd (trO x) e) ≠ .er) : Gives P a o φ (conv k (opd (trO x) e)) := by
  have hx := opd_VR hs hg x
  unfold conv at hne ⊢
  split at hne
  · rename_i j n hq
    rw [hq] at hx
    obtain ⟨hx, _⟩ := hx
    refine ⟨.int k (k.wrap (n : Int)), fun w => ?_, fit_VR hne⟩
    simp [execOp, h, convert, hx, run_underlying ht, run_underlying hd, Conv.intToInt]
  · rename_i j n hq
    rw [hq] at hx
    obtain ⟨hx, _⟩ := hx
    refine ⟨.int k (k.wrap (Int.negSucc n)), fun w => ?_, fitN_VR hne⟩
    simp [execOp, h, convert, hx, run_underlying ht, run_underlying hd, Conv.intToInt]
  · exact absurd rfl hne
theorem call_builtin {b : Builtin} {xs : Array Operand} {ts : Array TypeId} (h : o.op = .call ⟨.builtin b, xs, ts⟩) (w : World) :
    (execOp a.eval o).run P w = (builtin b ts o.type (xs.map fun | .const _ => true | _ => false) (xs.map a.eval)).run P w := by
  simp [execOp, h, resolve, invoke]; rfl
theorem fit64 {n : Nat} (h : fit .i64 n ≠ .er) : VR φ (fit .i64 n) (goInt n) := by
  have h2 := fit_VR (φ := φ) h
  have : IntKind.i64.wrap (n : Int) = n := by
    rw [fit_eq] at h
    by_cases hl : lim .i64 ≤ n
    · simp [hl, sgn] at h
    · exact wrap_in (by omega)
  rw [this] at h2; exact h2
theorem gives_lenS {t : TypeId} {ts : Array TypeId} {x : Operand} (hs : SR φ e a) (hg : GOk φ) (h : o.op = .call ⟨.builtin .len, #[x], ts⟩) (h0 : ts[0]? = some t) (ht : P.underlying t = some .string)
    (hne : lenS (opd (trO x) e) ≠ .er) : Gives P a o φ (lenS (opd (trO x) e)) := by
  have hx := opd_VR hs hg x
  unfold lenS at hne ⊢
  split at hne
  · rename_i l hq
    rw [hq] at hx
    obtain ⟨s, hx2, rfl⟩ := VR_st hx
    simp only [len_eq] at hne ⊢
    refine ⟨goInt s.size, fun w => ?_, by rw [bytesOf_len] at hne ⊢; exact fit64 hne⟩
    rw [call_builtin h]
    simp [builtin, Builtin.len_, h0, hx2, run_underlying ht]
  · exact absurd rfl hne
theorem gives_lenL {t c : TypeId} {ts : Array TypeId} {x : Operand} (hs : SR φ e a) (hg : GOk φ) (h : o.op = .call ⟨.builtin .len, #[x], ts⟩) (h0 : ts[0]? = some t) (ht : P.underlying t = some (.slice c))
    (hne : lenL (opd (trO x) e) ≠ .er) : Gives P a o φ (lenL (opd (trO x) e)) := by
  have hx := opd_VR hs hg x
  unfold lenL at hne ⊢
  split at hne
  · rename_i b i n s c hq
    rw [hq] at hx
    obtain ⟨p, cap, _, hx, _⟩ := hx
    refine ⟨goInt n, fun w => ?_, fit64 hne⟩
    rw [call_builtin h]
    simp [builtin, Builtin.len_, h0, hx, run_underlying ht]
  · rename_i hq
    rw [hq] at hx
    have hx : a.eval x = .slice none 0 0 := hx
    refine ⟨goInt 0, fun w => ?_, ⟨rfl, by simp [lim]⟩⟩
    rw [call_builtin h]
    simp [builtin, Builtin.len_, h0, hx, run_underlying ht]
  · exact absurd rfl hne
theorem gives_cap {t c : TypeId} {ts : Array TypeId} {x : Operand} (hs : SR φ e a) (hg : GOk φ) (h : o.op = .call ⟨.builtin .cap, #[x], ts⟩) (h0 : ts[0]? = some t) (ht : P.underlying t = some (.slice c))
    (hne : capV (opd (trO x) e) ≠ .er) : Gives P a o φ (capV (opd (trO x) e)) := by
  have hx := opd_VR hs hg x
  unfold capV at hne ⊢
  split at hne
  · rename_i b i n s k hq
    rw [hq] at hx
    obtain ⟨p, cap, _, hx, _, _, hc⟩ := hx
    obtain rfl := hc k rfl
    refine ⟨goInt cap, fun w => ?_, fit64 hne⟩
    rw [call_builtin h]
    simp [builtin, Builtin.cap_, h0, hx, run_underlying ht]
  · rename_i hq
    rw [hq] at hx
    have hx : a.eval x = .slice none 0 0 := hx
    refine ⟨goInt 0, fun w => ?_, ⟨rfl, by simp [lim]⟩⟩
    rw [call_builtin h]
    simp [builtin, Builtin.cap_, h0, hx, run_underlying ht]
  · exact absurd rfl hne
end
end Go.Ev
namespace Go.Ev
section
variable {P : Program} {T : TT} {C : CT} {φ : Ph} {e : E} {a : Act} {o : Oper}
theorem add_addr (b i n : Nat) : (⟨b, i, none⟩ : Addr).add n = ⟨b, i + n, none⟩ := by
  unfold Addr.add
  by_cases h : n = 0
  · subst h; simp
  · simp [h]
theorem gives_field {s : TypeId} {x : Operand} {f off : Nat} {fd : Field} {fs : Array Field} {k : Nat} (hs : SR φ e a) (hg : GOk φ) (h : o.op = .fieldAddr s x f) (ht : P.underlying s = some (.struct fs))
    (hf : fs[f]? = some fd) (ho : fd.offset = off) (hk : k ≠ 0) (hsz : ∀ w, (sizeOf fd.type).run P w = .ok k w) (hne : fadd off (opd (trO x) e) ≠ .er) : Gives P a o φ (fadd off (opd (trO x) e)) := by
  have hx := opd_VR hs hg x
  unfold fadd at hne ⊢
  split at hne
  · rename_i b i hq
    rw [hq] at hx
    obtain ⟨p, hp, hx⟩ := hx
    simp only [fN_eq]
    refine ⟨.pointer (some ⟨p.b, p.base + (i + off), none⟩), fun w => ?_, ⟨p, hp, rfl⟩⟩
    have := hsz w
    simp [execOp, h, Instr.fieldAt, run_underlying ht, hf, hx, Instr.sureAddr, fieldPlace, this, hk, add_addr, ho, Nat.add_assoc]
  · exact absurd rfl hne
theorem gives_elem {t c : TypeId} {x i : Operand} {k : Nat} (hs : SR φ e a) (hg : GOk φ) (h : o.op = .indexAddr t x i) (ht : P.underlying t = some (.slice c))
    (hsz : ∀ w, (sizeOf c).run P w = .ok k w) (hne : iadd k (opd (trO x) e) (opd (trO i) e) ≠ .er) : Gives P a o φ (iadd k (opd (trO x) e) (opd (trO i) e)) := by
  have hx := opd_VR hs hg x
  have hi := opd_VR hs hg i
  unfold iadd at hne ⊢
  split at hne
  · rename_i b oo n s cc hq
    rw [hq] at hx
    obtain ⟨p, cap, hp, hx, _⟩ := hx
    split at hne
    · rename_i kk j hq'
      rw [hq'] at hi
      obtain ⟨hi, _⟩ := hi
      simp only [beq_nat, ble_nat, cond_eq_ite, decide_eq_true_eq, fN_eq] at hne ⊢
      split at hne
      · rename_i hst; subst hst
        split at hne
        · rename_i hj
          have hj : j + 1 ≤ n := hj
          simp only [if_true, show Nat.add j 1 ≤ n from hj]
          refine ⟨.pointer (some ⟨p.b, p.base + (oo + j * s), none⟩), fun w => ?_, ⟨p, hp, rfl⟩⟩
          have := hsz w
          have hlt : j < n := by omega
          simp [execOp, h, Instr.indexAt, asIntOf, hi, hx, run_underlying ht, this, hlt, add_addr, Nat.add_assoc]
        · exact absurd rfl hne
      · exact absurd rfl hne
    · exact absurd rfl hne
  · exact absurd rfl hne
theorem gives_elemA {t c : TypeId} {x i : Operand} {k m : Nat} (hs : SR φ e a) (hg : GOk φ) (h : o.op = .indexAddr t x i) (ht : P.underlying t = some (.array m c))
    (hsz : ∀ w, (sizeOf c).run P w = .ok k w) (hne : jadd m k (opd (trO x) e) (opd (trO i) e) ≠ .er) : Gives P a o φ (jadd m k (opd (trO x) e) (opd (trO i) e)) := by
  have hx := opd_VR hs hg x
  have hi := opd_VR hs hg i
  unfold jadd at hne ⊢
  split at hne
  · rename_i b oo hq
    rw [hq] at hx
    obtain ⟨p, hp, hx⟩ := hx
    split at hne
    · rename_i kk j hq'
      rw [hq'] at hi
      obtain ⟨hi, _⟩ := hi
      simp only [ble_nat, cond_eq_ite, decide_eq_true_eq, fN_eq] at hne ⊢
      split at hne
      · rename_i hj
        have hj : j + 1 ≤ m := hj
        simp only [if_true, show Nat.add j 1 ≤ m from hj]
        refine ⟨.pointer (some ⟨p.b, p.base + (oo + j * k), none⟩), fun w => ?_, ⟨p, hp, rfl⟩⟩
        have := hsz w
        have hlt : j < m := by omega
        simp [execOp, h, Instr.indexAt, Instr.sureAddr, asIntOf, hi, hx, run_underlying ht, this, hlt, add_addr, Nat.add_assoc]
      · exact absurd rfl hne
    · exact absurd rfl hne
  · exact absurd rfl hne
end
end Go.Ev
namespace Go.Ev
section
variable {P : Program} {T : TT} {C : CT} {φ : Ph} {e : E} {a : Act} {o : Oper}
theorem gives_minmax {mx : Bool} {b : Builtin} (hb : (b = .min ∧ mx = false) ∨ (b = .max ∧ mx = true)) {ts : Array TypeId} {x y : Operand} (hs : SR φ e a) (hg : GOk φ)
    (h : o.op = .call ⟨.builtin b, #[x, y], ts⟩) (hne : minmax mx (opd (trO x) e) (opd (trO y) e) ≠ .er) : Gives P a o φ (minmax mx (opd (trO x) e) (opd (trO y) e)) := by
  have hx := opd_VR hs hg x
  have hy := opd_VR hs hg y
  unfold minmax at hne ⊢
  split at hne
  · rename_i p hq
    rw [hq] at hx
    split at hne
    · rename_i q hq'
      rw [hq'] at hy
      cases hl : lessQ q p with
      | none => simp [hl] at hne
      | some t =>
        obtain ⟨k, m, n, hy2, hx2, rfl⟩ := lessQ_some hy hx hl
        simp only [cond_eq_ite]
        rcases hb with ⟨rfl, rfl⟩ | ⟨rfl, rfl⟩
        · by_cases hmn : m < n
          · refine ⟨a.eval y, fun w => ?_, by simp [hmn]; exact hy⟩
            rw [call_builtin h]
            simp [builtin, Builtin.min_, Builtin.min2, hx2, hy2, hmn]
          · refine ⟨a.eval x, fun w => ?_, by simp [hmn]; exact hx⟩
            rw [call_builtin h]
            simp [builtin, Builtin.min_, Builtin.min2, hx2, hy2, hmn]
        · by_cases hmn : m < n
          · refine ⟨a.eval x, fun w => ?_, by simp [hmn]; exact hx⟩
            rw [call_builtin h]
            have : ¬ n < m := by omega
            simp [builtin, Builtin.max_, Builtin.max2, hx2, hy2, this]
          · refine ⟨a.eval y, fun w => ?_, by simp [hmn]; exact hy⟩
            rw [call_builtin h]
            by_cases hnm : n < m
            · simp [builtin, Builtin.max_, Builtin.max2, hx2, hy2, hnm]
            · have : m = n := by omega
              subst this
              simp [builtin, Builtin.max_, Builtin.max2, hx2, hy2]
    · exact absurd rfl hne
  · exact absurd rfl hne
theorem caps_All2 (hs : SR φ e a) (hg : GOk φ) : ∀ (c : List Operand) (l : List Q), caps (c.map trO) e = some l → All2 (QR φ) l (c.map a.eval)
  | [], l, h => by
    have : some [] = some l := h
    injection this with h; subst h; trivial
  | x :: r, l, h => by
    have hx := opd_VR hs hg x
    have h : (match opd (trO x) e with
      | .q a => match caps (r.map trO) e with
        | some r => some (a :: r)
        | none => none
      | _ => none) = some l := h
    split at h
    · rename_i q hq
      rw [hq] at hx
      split at h
      · rename_i l' hl'
        injection h with h; subst h
        exact ⟨hx, caps_All2 hs hg r l' hl'⟩
      · cases h
    · cases h
theorem gives_makeFunc {f : FuncId} {c : Array Operand} (hs : SR φ e a) (hg : GOk φ) (h : o.op = .makeFunc (.func f) #[] c) (hne : mkFn f (c.toList.map trO) e ≠ .er) :
    Gives P a o φ (mkFn f (c.toList.map trO) e) := by
  unfold mkFn at hne ⊢
  split at hne
  · rename_i l hl
    refine ⟨.func (.func f) #[] ⟨c.toList.map a.eval⟩, fun w => ?_, ⟨_, rfl, caps_All2 hs hg _ _ hl⟩⟩
    simp [execOp, h, Instr.makeFunc]
    exact Array.ext' (by simp)
  · exact absurd rfl hne
end
end Go.Ev
namespace Go.Ev
section
variable {P : Program} {T : TT} {C : CT} {φ : Ph} {e : E} {a : Act} {o : Oper}
/-- A bound, read: the default, or a number. -/
def Bnd (a : Act) (x : Option Operand) (d i : Nat) : Prop := match x with
  | none => i = d
  | some y => ∃ k, a.eval y = .int k (i : Int)
theorem bnd_some (hs : SR φ e a) (hg : GOk φ) {x : Option Operand} {d : Nat} {K : Nat → V} (h : bnd (x.map trO) e d K ≠ .er) : ∃ i, bnd (x.map trO) e d K = K i ∧ Bnd a x d i := by
  cases x with
  | none => exact ⟨d, rfl, rfl⟩
  | some y =>
    have hy := opd_VR hs hg y
    have e1 : bnd ((some y).map trO) e d K = (match opd (trO y) e with
      | .q (.nt _ n) => K n
      | _ => .er) := rfl
    rw [e1] at h ⊢
    split at h
    · rename_i k n hq
      rw [hq] at hy
      exact ⟨n, rfl, k, hy.1⟩
    · exact absurd rfl h
theorem run_bound {w : World} {x : Operand} {i y : Nat} {c : BoundsCode} {k : IntKind} (h : a.eval x = .int k (i : Int)) (hi : i ≤ y) : (Instr.sliceBound (a.eval x) y c).run P w = .ok i w := by
  simp [Instr.sliceBound, h, asIntOf, hi]
/-- The bounds, where they fit. -/
theorem run_bounds {w : World} {sl : Bool} {len cap l h m : Nat} {lo hi mx : Option Operand} (hl : Bnd a lo 0 l) (hh : Bnd a hi len h) (hm : Bnd a mx cap m) (h1 : l ≤ h) (h2 : h ≤ m) (h3 : m ≤ cap)
    (h4 : mx ≠ none → hi ≠ none) : (Instr.sliceBounds sl len cap (lo.map a.eval) (hi.map a.eval) (mx.map a.eval)).run P w = .ok (l, h, m) w := by
  cases mx with
  | none =>
    obtain rfl : m = cap := hm
    cases hi with
    | none =>
      obtain rfl : h = len := hh
      cases lo with
      | none =>
        obtain rfl : l = 0 := hl
        simp [Instr.sliceBounds]
      | some x =>
        obtain ⟨k, hx⟩ := hl
        simp [Instr.sliceBounds, run_bound hx h1]
    | some y =>
      obtain ⟨k, hy⟩ := hh
      cases lo with
      | none =>
        obtain rfl : l = 0 := hl
        simp [Instr.sliceBounds, run_bound hy h2]
      | some x =>
        obtain ⟨k', hx⟩ := hl
        simp [Instr.sliceBounds, run_bound hy h2, run_bound hx h1]
  | some z =>
    obtain ⟨kz, hz⟩ := hm
    cases hi with
    | none => exact absurd rfl (h4 (by simp))
    | some y =>
      obtain ⟨k, hy⟩ := hh
      cases lo with
      | none =>
        obtain rfl : l = 0 := hl
        simp [Instr.sliceBounds, run_bound hz h3, run_bound hy h2]
      | some x =>
        obtain ⟨k', hx⟩ := hl
        simp [Instr.sliceBounds, run_bound hz h3, run_bound hy h2, run_bound hx h1]
theorem gives_cutS {t : TypeId} {x : Operand} {lo hi : Option Operand} (hs : SR φ e a) (hg : GOk φ) (h : o.op = .slice t x lo hi none) (ht : P.underlying t = some .string)
    (hne : slS (opd (trO x) e) (lo.map trO) (hi.map trO) e ≠ .er) : Gives P a o φ (slS (opd (trO x) e) (lo.map trO) (hi.map trO) e) := by
  have hx := opd_VR hs hg x
  unfold slS at hne ⊢
  split at hne
  · rename_i l hq
    rw [hq] at hx
    obtain ⟨s, hx2, rfl⟩ := VR_st hx
    obtain ⟨i, e1, b1⟩ := bnd_some hs hg hne
    rw [e1] at hne ⊢
    obtain ⟨j, e2, b2⟩ := bnd_some hs hg hne
    rw [e2] at hne ⊢
    simp only [ble_nat, cond_eq_ite, decide_eq_true_eq, len_eq, bytesOf_len, tk_eq, dr_eq] at hne b2 ⊢
    split at hne
    · rename_i h1
      split at hne
      · rename_i h2
        simp only [h1, h2, if_true]
        refine ⟨.string (s.extract i j), fun w => ?_, ⟨_, rfl, ?_⟩⟩
        · have := run_bounds (P := P) (w := w) (sl := false) (len := s.size) (cap := s.size) (lo := lo) (hi := hi) (mx := none) b1 b2 rfl h1 h2 (Nat.le_refl _) (by simp)
          simp only [Option.map_none] at this
          simp [execOp, h, Instr.sliceAt, Instr.slice, hx2, run_underlying ht, this]
        · have : Nat.sub j i = j - i := rfl
          rw [this]
          simp [bytesOf, ByteArray.data_extract]
      · exact absurd rfl hne
    · exact absurd rfl hne
  · exact absurd rfl hne
end
end Go.Ev
namespace Go.Ev
section
variable {P : Program} {T : TT} {C : CT} {φ : Ph} {e : E} {a : Act} {o : Oper}
theorem cut_addr (b i s l : Nat) (P' : Prop) [Decidable P'] (h : P' → True) : (if P' then (⟨b, i, none⟩ : Addr) else (⟨b, i, none⟩ : Addr).add (l * s)) = ⟨b, if P' then i else i + l * s, none⟩ := by
  by_cases hp : P' <;> simp [hp, add_addr]
theorem gives_cutA {t c : TypeId} {n s : Nat} {x : Operand} {lo hi : Option Operand} (hs : SR φ e a) (hg : GOk φ) (h : o.op = .slice t x lo hi none) (ht : P.underlying t = some (.array n c))
    (hsz : ∀ w, (sizeOf c).run P w = .ok s w)
    (hne : slA n s (opd (trO x) e) (lo.map trO) (hi.map trO) e ≠ .er) : Gives P a o φ (slA n s (opd (trO x) e) (lo.map trO) (hi.map trO) e) := by
  have hx := opd_VR hs hg x
  unfold slA at hne ⊢
  split at hne
  · rename_i b oo hq
    rw [hq] at hx
    obtain ⟨p, hp, hx2⟩ := hx
    obtain ⟨i, e1, b1⟩ := bnd_some hs hg hne
    rw [e1] at hne ⊢
    obtain ⟨j, e2, b2⟩ := bnd_some hs hg hne
    rw [e2] at hne ⊢
    simp only [ble_nat, beq_nat, cond_eq_ite, decide_eq_true_eq] at hne b2 ⊢
    split at hne
    · rename_i h1
      split at hne
      · rename_i h2
        simp only [h1, h2, if_true]
        have h1' : i ≤ j := h1
        have h2' : j ≤ n := h2
        refine ⟨.slice (some ⟨p.b, p.base + (if n = i then oo else oo + i * s), none⟩) (j - i) (n - i), fun w => ?_, ⟨p, n - i, hp, rfl, by show j - i ≤ n - i; omega, (fun hk => nomatch hk), fun k hk => Option.some.inj hk⟩⟩
        have := run_bounds (P := P) (w := w) (sl := false) (len := n) (cap := n) (lo := lo) (hi := hi) (mx := none) b1 b2 rfl h1 h2 (Nat.le_refl _) (by simp)
        simp only [Option.map_none] at this
        have hw := hsz w
        simp [execOp, h, Instr.sliceAt, Instr.sureAddr, hx2, run_underlying ht, this, hw]
        by_cases hni : n = i <;> simp [hni, add_addr, Nat.add_assoc]
      · exact absurd rfl hne
    · exact absurd rfl hne
  · exact absurd rfl hne
end
end Go.Ev
namespace Go.Ev
section
variable {P : Program} {T : TT} {C : CT} {φ : Ph} {e : E} {a : Act} {o : Oper}
theorem run_cutL {t c : TypeId} {s n cap l h m : Nat} {x : Operand} {lo hi mx : Option Operand} {b i : Nat} (h0 : o.op = .slice t x lo hi mx) (ht : P.underlying t = some (.slice c))
    (hsz : ∀ w, (sizeOf c).run P w = .ok s w) (hx : a.eval x = .slice (some ⟨b, i, none⟩) n cap) (hl : Bnd a lo 0 l) (hh : Bnd a hi n h) (hm : Bnd a mx cap m) (h1 : l ≤ h) (h2 : h ≤ m) (h3 : m ≤ cap)
    (h4 : mx ≠ none → hi ≠ none) (w : World) :
    (execOp a.eval o).run P w = .ok (.value (.slice (some ⟨b, if m = l then i else i + l * s, none⟩) (h - l) (m - l))) w := by
  have := run_bounds (P := P) (w := w) (sl := true) hl hh hm h1 h2 h3 h4
  have hw := hsz w
  simp [execOp, h0, Instr.sliceAt, Instr.slice, hx, run_underlying ht, this, hw]
  by_cases hml : m = l <;> simp [hml, add_addr]
theorem run_cutN {t c : TypeId} {s : Nat} {x : Operand} {lo hi mx : Option Operand} (h0 : o.op = .slice t x lo hi mx) (ht : P.underlying t = some (.slice c))
    (hsz : ∀ w, (sizeOf c).run P w = .ok s w) (hx : a.eval x = .slice none 0 0) (hl : Bnd a lo 0 0) (hh : Bnd a hi 0 0) (hm : Bnd a mx 0 0) (h4 : mx ≠ none → hi ≠ none) (w : World) :
    (execOp a.eval o).run P w = .ok (.value (.slice none 0 0)) w := by
  have := run_bounds (P := P) (w := w) (sl := true) hl hh hm (Nat.le_refl _) (Nat.le_refl _) (Nat.le_refl _) h4
  have hw := hsz w
  simp [execOp, h0, Instr.sliceAt, Instr.slice, hx, run_underlying ht, this, hw]
theorem gives_cutL {t c : TypeId} {s : Nat} {x : Operand} {lo hi mx : Option Operand} (hs : SR φ e a) (hg : GOk φ) (h0 : o.op = .slice t x lo hi mx) (ht : P.underlying t = some (.slice c))
    (hsz : ∀ w, (sizeOf c).run P w = .ok s w) (h4 : mx ≠ none → hi ≠ none)
    (hne : slL s (opd (trO x) e) (lo.map trO) (hi.map trO) (mx.map trO) e ≠ .er) : Gives P a o φ (slL s (opd (trO x) e) (lo.map trO) (hi.map trO) (mx.map trO) e) := by
  have hx := opd_VR hs hg x
  unfold slL at hne ⊢
  split at hne
  · rename_i b oo n s' cc hq
    rw [hq] at hx
    obtain ⟨p, cap, hp, hx2, hn, hlim, hc⟩ := hx
    simp only [beq_nat, ble_nat, cond_eq_ite, decide_eq_true_eq] at hne ⊢
    split at hne
    · rename_i hss; subst hss
      simp only [if_true]
      cases mx with
      | some z =>
        simp only [Option.map_some] at hne ⊢
        have key : ∀ k, k ≤ cap → (bnd (some (trO z)) e 0 fun m => bnd (lo.map trO) e 0 fun i => bnd (hi.map trO) e n fun j =>
            if i ≤ j then (if j ≤ m then (if m ≤ k then V.sl b (if m = i then oo else Nat.add oo (Nat.mul i s')) (Nat.sub j i) s' (some (Nat.sub m i)) else .er) else .er) else .er) ≠ .er →
            Gives P a o φ (bnd (some (trO z)) e 0 fun m => bnd (lo.map trO) e 0 fun i => bnd (hi.map trO) e n fun j =>
            if i ≤ j then (if j ≤ m then (if m ≤ k then V.sl b (if m = i then oo else Nat.add oo (Nat.mul i s')) (Nat.sub j i) s' (some (Nat.sub m i)) else .er) else .er) else .er) := by
          intro k hk hne
          obtain ⟨m, e0, b0⟩ := bnd_some hs hg (x := some z) hne
          have e0 : bnd (some (trO z)) e 0 _ = _ := e0
          rw [e0] at hne ⊢
          obtain ⟨i, e1, b1⟩ := bnd_some hs hg hne
          rw [e1] at hne ⊢
          obtain ⟨j, e2, b2⟩ := bnd_some hs hg hne
          rw [e2] at hne ⊢
          split at hne
          · rename_i h1
            split at hne
            · rename_i h2
              split at hne
              · rename_i h3
                simp only [h1, h2, h3, if_true]
                refine ⟨_, run_cutL h0 ht hsz hx2 b1 b2 (show Bnd a (some z) cap m from b0) h1 h2 (Nat.le_trans h3 hk) h4, p, m - i, hp, ?_, ?_, fun hk => absurd hk (by simp), fun k hk => Option.some.inj hk⟩
                · by_cases hmi : m = i <;> simp [hmi, Nat.add_assoc]
                · show j - i ≤ m - i; omega
              · exact absurd rfl hne
            · exact absurd rfl hne
          · exact absurd rfl hne
        cases cc with
        | some k => obtain rfl := hc k rfl; exact key cap (Nat.le_refl _) hne
        | none => exact key n hn hne
      | none =>
        simp only [Option.map_none] at hne ⊢
        cases cc with
        | some k =>
          obtain rfl := hc k rfl
          simp only at hne ⊢
          obtain ⟨i, e1, b1⟩ := bnd_some hs hg hne
          rw [e1] at hne ⊢
          obtain ⟨j, e2, b2⟩ := bnd_some hs hg hne
          rw [e2] at hne ⊢
          split at hne
          · rename_i h1
            split at hne
            · rename_i h2
              simp only [h1, h2, if_true]
              refine ⟨_, run_cutL h0 ht hsz hx2 b1 b2 (show Bnd a none cap cap from rfl) h1 h2 (Nat.le_refl _) h4, p, cap - i, hp, ?_, ?_, fun hk => absurd hk (by simp), fun k hk => Option.some.inj hk⟩
              · by_cases hmi : cap = i <;> simp [hmi, Nat.add_assoc]
              · show j - i ≤ cap - i; omega
            · exact absurd rfl hne
          · exact absurd rfl hne
        | none =>
          simp only at hne ⊢
          obtain ⟨i, e1, b1⟩ := bnd_some hs hg hne
          rw [e1] at hne ⊢
          obtain ⟨j, e2, b2⟩ := bnd_some hs hg hne
          rw [e2] at hne ⊢
          split at hne
          · rename_i h1
            split at hne
            · rename_i h2
              simp only [h1, h2, if_true] at hne ⊢
              have hl := hlim rfl
              by_cases hi0 : i = 0
              · subst hi0
                simp only [if_true]
                refine ⟨_, run_cutL h0 ht hsz hx2 b1 b2 (show Bnd a none cap cap from rfl) h1 (Nat.le_trans h2 hn) (Nat.le_refl _) h4, p, cap, hp, ?_, Nat.le_trans h2 hn, fun _ => hl, fun k hk => absurd hk (by simp)⟩
                by_cases hmi : cap = 0 <;> simp [hmi]
              · simp only [hi0, if_false] at hne ⊢
                split at hne
                · rename_i h5
                  have h5' : i + 1 ≤ n := h5
                  simp only [h5, if_true]
                  refine ⟨_, run_cutL h0 ht hsz hx2 b1 b2 (show Bnd a none cap cap from rfl) h1 (Nat.le_trans h2 hn) (Nat.le_refl _) h4, p, cap - i, hp, ?_, ?_, fun _ => ?_, fun k hk => absurd hk (by simp)⟩
                  · have : cap ≠ i := by omega
                    simp [this, Nat.add_assoc]
                  · show j - i ≤ cap - i; omega
                  · show oo + i * s' + (cap - i) * s' ≤ p.lim
                    have : i * s' + (cap - i) * s' = cap * s' := by rw [← Nat.add_mul]; congr 1; omega
                    omega
                · exact absurd rfl hne
            · exact absurd rfl hne
          · exact absurd rfl hne
    · exact absurd rfl hne
  · rename_i hq
    rw [hq] at hx
    have hx2 : a.eval x = .slice none 0 0 := hx
    cases mx with
    | none =>
      simp only [Option.map_none] at hne ⊢
      obtain ⟨i, e1, b1⟩ := bnd_some hs hg hne
      rw [e1] at hne ⊢
      obtain ⟨j, e2, b2⟩ := bnd_some hs hg hne
      rw [e2] at hne ⊢
      simp only [beq_nat, cond_eq_ite, decide_eq_true_eq] at hne ⊢
      split at hne
      · rename_i h1; subst h1
        split at hne
        · rename_i h2; subst h2
          simp only [if_true]
          exact ⟨_, run_cutN h0 ht hsz hx2 b1 b2 (show Bnd a none 0 0 from rfl) h4, rfl⟩
        · exact absurd rfl hne
      · exact absurd rfl hne
    | some z =>
      simp only [Option.map_some] at hne ⊢
      obtain ⟨m, e0, b0⟩ := bnd_some hs hg (x := some z) hne
      have e0 : bnd (some (trO z)) e 0 _ = _ := e0
      rw [e0] at hne ⊢
      obtain ⟨i, e1, b1⟩ := bnd_some hs hg hne
      rw [e1] at hne ⊢
      obtain ⟨j, e2, b2⟩ := bnd_some hs hg hne
      rw [e2] at hne ⊢
      simp only [beq_nat, cond_eq_ite, decide_eq_true_eq] at hne ⊢
      split at hne
      · rename_i h1; subst h1
        split at hne
        · rename_i h2; subst h2
          split at hne
          · rename_i h3; subst h3
            simp only [if_true]
            exact ⟨_, run_cutN h0 ht hsz hx2 b1 b2 (show Bnd a (some z) 0 0 from b0) h4, rfl⟩
          · exact absurd rfl hne
        · exact absurd rfl hne
      · exact absurd rfl hne
  · exact absurd rfl hne
end
end Go.Ev
