/- Words as a block's operations, over the reckoner's forms: the plain side. -/
import Derived.Test.YtfckbimkdjcncaaXDec
set_option linter.unusedSimpArgs false
set_option linter.unusedVariables false
namespace Go.X
open Go.Y
def okW (w : Int) : Bool := decide (decE w = 0) && !decide (Z.kindOf (decI w).op = 0)
def micW (w : Int) (n : Int) : Mic := ⟨(Z.oneOf (decI w)).k, (Z.oneOf (decI w)).d, (Z.oneOf (decI w)).a, (Z.oneOf (decI w)).b, (Z.oneOf (decI w)).i, n⟩
def micsW (n : Int) : List Int → List Mic
  | [] => []
  | w :: r => micW w (n + 1) :: micsW (n + 1) r
def trOf (l : List Int) : List Mic := micsW 0 ((l.take 16).takeWhile okW)
theorem micsW_len : ∀ (l : List Int) (n : Int), (micsW n l).length = l.length
  | [], _ => rfl
  | _ :: r, n => by simp [micsW, micsW_len r]
theorem micsW_snoc : ∀ (l : List Int) (n : Int) (w : Int), micsW n (l ++ [w]) = micsW n l ++ [micW w (n + l.length + 1)]
  | [], n, w => by simp [micsW]
  | x :: r, n, w => by
    simp only [List.cons_append, micsW, micsW_snoc r, List.length_cons]
    rw [show n + 1 + (r.length : Int) + 1 = n + ((r.length + 1 : Nat) : Int) + 1 by omega]
theorem while_take : ∀ {l : List Int} {s : Nat}, (∀ j, j < s → okW (l.getD j 0) = true) → s ≤ l.length → (s = l.length ∨ okW (l.getD s 0) = false) → l.takeWhile okW = l.take s
  | [], s, _, h, _ => by simp
  | x :: r, 0, _, _, h => by
    rcases h with h | h
    · simp at h
    · simp at h; simp [List.takeWhile_cons, h]
  | x :: r, s + 1, hj, hs, h => by
    have h0 := hj 0 (by omega)
    simp at h0
    rw [List.takeWhile_cons, h0, List.take_succ_cons]
    simp only [if_true]
    rw [while_take (l := r) (s := s) (fun j hjs => by simpa using hj (j + 1) (by omega)) (by simpa using hs) (by simpa using h)]
theorem mics_step {s : List Int} {k : Nat} (h : k < s.length) : micsW 0 (s.take (k + 1)) = micsW 0 (s.take k) ++ [micW (s.getD k 0) ((k : Int) + 1)] := by
  rw [List.take_succ_eq_append_getElem h, micsW_snoc, List.length_take, Nat.min_eq_left (Nat.le_of_lt h), List.getD_eq_getElem?_getD, List.getElem?_eq_getElem h]
  simp
def TrI (s : List Int) (k : Nat) : Option (Nat × List Mic) → Prop
  | none => k = 0
  | some (cq, q) => 0 < k ∧ k ≤ cq ∧ q.length = cq ∧ q.take k = micsW 0 (s.take k)
def trM (s : List Int) : List Mic := micsW 0 (s.takeWhile okW)
theorem trM_len {s : List Int} {k : Nat} (hj : ∀ j, j < k → okW (s.getD j 0) = true) (hs : k ≤ s.length) (h : k = s.length ∨ okW (s.getD k 0) = false) : (trM s).length = k ∧ trM s = micsW 0 (s.take k) := by
  have hw := while_take hj hs h
  unfold trM
  rw [hw, micsW_len, List.length_take]
  exact ⟨by omega, rfl⟩
theorem ok_step {s : List Int} {k : Nat} (hj : ∀ j, j < k → okW (s.getD j 0) = true) (h : okW (s.getD k 0) = true) : ∀ j, j < k + 1 → okW (s.getD j 0) = true := fun j hk => by
  by_cases hjk : j = k
  · rw [hjk]; exact h
  · exact hj j (by omega)
theorem sub_getD {α : Type} {l : List α} {o n k : Nat} (d : α) (h : o + n ≤ l.length) (hk : k < n) : (sub l o n).getD k d = l.getD (o + k) d := by
  rw [sub_get h hk, List.getD_eq_getElem?_getD, List.getElem?_eq_getElem (by rw [sub_len h]; exact hk)]
  rfl
theorem okW_bif (w : Int) : (bif !decide (decE w = 0) then true else decide (Z.kindOf (decI w).op = 0)) = !okW w := by
  unfold okW
  cases decide (decE w = 0) <;> simp
theorem micW_mk (w : Int) (k : Nat) (h : k < 65536) : Mic.mk (Z.Mic.k (Z.oneOf (decI w))) (Z.Mic.d (Z.oneOf (decI w))) (Z.Mic.a (Z.oneOf (decI w))) (Z.Mic.b (Z.oneOf (decI w))) (Z.Mic.i (Z.oneOf (decI w))) (IntKind.i64.wrap ((k : Int) + 1)) = micW w ((k : Int) + 1) := by
  rw [Z.wI64 (by omega)]; rfl
theorem sub_min {α : Type} (l : List α) (o n k : Nat) : sub l o (min k n) = (sub l o n).take k := by
  rw [sub, sub, List.take_take]
theorem toNat_min (n : Nat) : Int.toNat (if (16 : Int) < (n : Int) then 16 else (n : Int)) = min 16 n := by split <;> omega
theorem mic_eq (x y : Mic) : (decide (x.k = y.k) && (decide (x.d = y.d) && (decide (x.a = y.a) && (decide (x.b = y.b) && (decide (x.i = y.i) && decide (x.c = y.c)))))) = decide (x = y) := by
  cases x; cases y
  rw [Bool.eq_iff_iff]
  simp
theorem does_fit {m : Mic} {r : List Int} {a b : Int} (hf : fitsP m) (hk : m.k ≠ 0) (ha : (m.a < 32 → a = r.getD m.a.toNat 0) ∧ (¬ m.a < 32 → a = m.i)) (hb : (m.b < 32 → b = r.getD m.b.toNat 0) ∧ (¬ m.b < 32 → b = m.i)) :
    r.set m.d.toNat (Z.valOf m.k a b m.i) = doesOf m r := by
  obtain ⟨-, -, -, -, -, -, h, -⟩ := hf
  obtain ⟨h1, h2, h3, h4, h5, h6⟩ := h hk
  have hv : ∀ n x : Int, 0 ≤ n → n ≤ 32 → (n < 32 → x = r.getD n.toNat 0) ∧ (¬ n < 32 → x = m.i) → x = valueOf m.i n r := fun n x h0 h9 hx => by
    unfold valueOf
    by_cases hn : n = 32
    · rw [if_pos hn]; exact hx.2 (by omega)
    · rw [if_neg hn, hx.1 (by omega), Int.emod_eq_of_lt h0 (by omega)]; rfl
  rw [doesOf, if_pos ⟨hk, by omega⟩, Int.emod_eq_of_lt (by omega) (by omega), ← hv m.a a h3 h4 ha, ← hv m.b b h5 h6 hb]
theorem until_fit {n : Int} {m : Mic} {r : List Int} {a b : Int} (hf : fitsP m) (hs : ¬ (m.k = 0 ∨ n < m.c)) (ha : (m.a < 32 → a = r.getD m.a.toNat 0) ∧ (¬ m.a < 32 → a = m.i)) (hb : (m.b < 32 → b = r.getD m.b.toNat 0) ∧ (¬ m.b < 32 → b = m.i)) :
    r.set m.d.toNat (Z.valOf m.k a b m.i) = if m.c ≤ n then doesOf m r else r := by
  rw [if_pos (by omega), does_fit hf (by omega) ha hb]
theorem until_skip {n : Int} {m : Mic} {r : List Int} (hs : m.k = 0 ∨ n < m.c) : r = if m.c ≤ n then doesOf m r else r := by
  split
  · rw [doesOf, if_neg (by omega)]
  · rfl
theorem regs_getD {r : List Int} (h : Z.Regs r) {i : Int} (hi : 0 ≤ i ∧ i < 32) : Z.U32 (r.getD i.toNat 0) := h.get hi
end Go.X
