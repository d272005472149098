/- What the Block functions compute, in plain Lean. -/
import Derived.Test.YtfckbimkdjcncaaZEq
set_option linter.unusedSimpArgs false
set_option linter.unusedVariables false
namespace Go.Z
def kindOf (op : Int) : Int :=
  if op = 0 ∨ op = 3 then 11 else if op = 1 ∨ op = 4 then 12 else if op = 2 ∨ op = 5 then 13 else if op = 21 ∨ op = 46 then 3 else if op = 23 then 4 else
  if op = 24 ∨ op = 49 then 5 else if op = 25 ∨ op = 50 then 6 else if op = 26 ∨ op = 51 then 7 else if op = 27 then 8 else if op = 28 ∨ op = 47 then 9 else if op = 29 ∨ op = 48 then 10 else if op = 52 then 1 else 0
def lessOf (a b : Int) (s : Bool) : Bool := if s then decide (sg a < sg b) else decide (a < b)
theorem sg_range {a : Int} (h : U32 a) : -2147483648 ≤ sg a ∧ sg a ≤ 2147483647 := by have := h.1; have := h.2; unfold sg; split <;> omega
def shiftOf (k a n : Int) : Int :=
  if k = 0 then a * 2 ^ (n % 32).toNat % 4294967296 else if k = 1 then a / 2 ^ (n % 32).toNat else if k = 2 then (sg a / 2 ^ (n % 32).toNat) % 4294967296 else a
def fillOf (k : Int) : Int := if k = 2 then 1 else 0
theorem pow_pos' (n : Nat) : (0 : Int) < 2 ^ n := Int.pow_pos (by omega)
theorem pow32 {n : Int} : (2 : Int) ^ (n % 32).toNat ≤ 2147483648 := by
  have h : (n % 32).toNat ≤ 31 := by omega
  have h1 : (2 : Nat) ^ (n % 32).toNat ≤ 2 ^ 31 := Nat.pow_le_pow_right (by omega) h
  have : ((2 ^ (n % 32).toNat : Nat) : Int) ≤ ((2 ^ 31 : Nat) : Int) := by exact_mod_cast h1
  simpa using this
theorem div_range {a p : Int} (h : U32 a) (hp : 0 < p) : U32 (a / p) := ⟨Int.ediv_nonneg h.1 (Int.le_of_lt hp), Int.lt_of_le_of_lt (Int.ediv_le_self p h.1) h.2⟩
theorem shiftOf_u32 {k a n : Int} (h : U32 a) : U32 (shiftOf k a n) := by
  unfold shiftOf
  split
  · exact ⟨Int.emod_nonneg _ (by omega), Int.emod_lt_of_pos _ (by omega)⟩
  · split
    · exact div_range h (pow_pos' _)
    · split
      · exact ⟨Int.emod_nonneg _ (by omega), Int.emod_lt_of_pos _ (by omega)⟩
      · exact h
/-- Go's quotient and rest, of whole numbers by one above 0 -/
theorem tmod_pos {n p : Int} (hp : 0 < p) : n.tmod p = n % p ∧ 0 ≤ n.tmod p ∨ n.tmod p = n % p - p ∧ n.tmod p < 0 := by
  have h1 := Int.emod_nonneg n (show p ≠ 0 by omega)
  have h2 := Int.emod_lt_of_pos n hp
  rw [Int.tmod_eq_emod]
  have h3 : ((p.natAbs : Nat) : Int) = p := by omega
  by_cases h : 0 ≤ n ∨ p ∣ n
  · rw [if_pos h]; left; omega
  · rw [if_neg h]; right; omega
theorem tmod_mod {n p : Int} (hp : 0 < p) : (if n.tmod p < 0 then n.tmod p + p else n.tmod p) = n % p := by
  rcases tmod_pos (n := n) hp with h | h <;> split <;> omega
theorem tdiv_div {n p : Int} (hp : 0 < p) : (if n.tmod p < 0 then n.tdiv p - 1 else n.tdiv p) = n / p := by
  have h3 := Int.mul_ediv_add_emod n p
  have h4 := Int.mul_tdiv_add_tmod n p
  have e : ∀ x y : Int, p * x = p * y → x = y := fun x y h => Int.eq_of_mul_eq_mul_left (by omega) h
  have em : p * (n.tdiv p - 1) = p * n.tdiv p - p := by rw [Int.mul_sub, Int.mul_one]
  rcases tmod_pos (n := n) hp with h | h <;> split
  · omega
  · apply e; omega
  · apply e; omega
  · omega
theorem tdiv_nn {n p : Int} (hn : 0 ≤ n) (_ : 0 < p) : n.tdiv p = n / p := Int.tdiv_eq_ediv_of_nonneg hn
theorem tmod_nn {n p : Int} (hn : 0 ≤ n) (_ : 0 < p) : n.tmod p = n % p := Int.tmod_eq_emod_of_nonneg hn
theorem tdiv_range {n p : Int} (hn : -4294967296 ≤ n ∧ n ≤ 4294967296) (hp : 0 < p) : -4294967296 ≤ n.tdiv p ∧ n.tdiv p ≤ 4294967296 := by
  rcases Int.le_total 0 n with h | h
  · rw [tdiv_nn h hp]
    have h1 := Int.ediv_nonneg h (Int.le_of_lt hp)
    have h2 := Int.ediv_le_self p h
    omega
  · have e : n.tdiv p = -((-n).tdiv p) := by rw [Int.neg_tdiv]; omega
    rw [e, tdiv_nn (by omega) hp]
    have h1 := Int.ediv_nonneg (show 0 ≤ -n by omega) (Int.le_of_lt hp)
    have h2 := Int.ediv_le_self p (show 0 ≤ -n by omega)
    omega
/-- bit n of a word -/
def bitAt (w n : Int) : Bool := w / 2 ^ n.toNat % 2 == 1
/-- a word with bit n so -/
def withBit (w n : Int) (is : Bool) : Int := w - w / 2 ^ n.toNat % 2 * 2 ^ n.toNat + (if is then 2 ^ n.toNat else 0)
theorem pow32' {n : Int} (h : 0 ≤ n ∧ n < 32) : (2 : Int) ^ n.toNat ≤ 2147483648 := by
  have := pow32 (n := n)
  rwa [show n % 32 = n by omega] at this
theorem shl1_i64 {n : Int} (h : 0 ≤ n ∧ n < 32) : IntKind.i64.wrap (1 * 2 ^ min n.toNat IntKind.i64.bits) = 2 ^ n.toNat := by
  have h1 := pow32' h
  have h2 := pow_pos' n.toNat
  rw [show min n.toNat IntKind.i64.bits = n.toNat from Nat.min_eq_left (by show n.toNat ≤ 64; omega), Int.one_mul, wI64 (by omega)]
theorem bit_mul {w n : Int} (hw : U32 w) (h : 0 ≤ n ∧ n < 32) : 0 ≤ w / 2 ^ n.toNat % 2 * 2 ^ n.toNat ∧ w / 2 ^ n.toNat % 2 * 2 ^ n.toNat ≤ w ∧ w - w / 2 ^ n.toNat % 2 * 2 ^ n.toNat + 2 ^ n.toNat < 4294967296 := by
  obtain ⟨W, rfl⟩ := Int.eq_ofNat_of_zero_le hw.1
  obtain ⟨k, rfl⟩ := Int.eq_ofNat_of_zero_le h.1
  have hk : k < 32 := by have := h.2; omega
  have hW : W < 2 ^ 32 := by have := hw.2; omega
  simp only [Int.toNat_natCast]
  have e1 : (W : Int) / 2 ^ k % 2 * 2 ^ k = ((W / 2 ^ k % 2 * 2 ^ k : Nat) : Int) := by simp
  rw [e1]
  have hb : W / 2 ^ k % 2 * 2 ^ k = if W.testBit k then 2 ^ k else 0 := by
    rw [Nat.testBit_eq_decide_div_mod_eq]
    rcases Nat.mod_two_eq_zero_or_one (W / 2 ^ k) with h0 | h0 <;> simp [h0]
  have h1 : W % 2 ^ (k + 1) = W % 2 ^ k + 2 ^ k * (W.testBit k).toNat := by
    rw [Nat.mod_pow_succ, Nat.testBit_eq_decide_div_mod_eq]
    rcases Nat.mod_two_eq_zero_or_one (W / 2 ^ k) with h0 | h0 <;> simp [h0]
  have h2 : W / 2 ^ (k + 1) * 2 ^ (k + 1) + W % 2 ^ (k + 1) = W := Nat.div_add_mod' W _
  have h3 : W % 2 ^ k < 2 ^ k := Nat.mod_lt _ (Nat.two_pow_pos k)
  have h4 : W / 2 ^ (k + 1) < 2 ^ (32 - (k + 1)) := by
    rw [Nat.div_lt_iff_lt_mul (Nat.two_pow_pos _), ← Nat.pow_add]
    rwa [show 32 - (k + 1) + (k + 1) = 32 by omega]
  have h5 : (W / 2 ^ (k + 1) + 1) * 2 ^ (k + 1) ≤ 2 ^ 32 := by
    have : (W / 2 ^ (k + 1) + 1) * 2 ^ (k + 1) ≤ 2 ^ (32 - (k + 1)) * 2 ^ (k + 1) := Nat.mul_le_mul_right _ h4
    rwa [← Nat.pow_add, show 32 - (k + 1) + (k + 1) = 32 by omega] at this
  rw [Nat.add_mul, Nat.one_mul] at h5
  have h6 : (2 : Nat) ^ (k + 1) = 2 ^ k + 2 ^ k := by rw [Nat.pow_succ]; omega
  have e2 : ((2 : Int) ^ k) = ((2 ^ k : Nat) : Int) := by simp
  rw [e2]
  cases ht : W.testBit k with
  | true =>
    rw [ht] at h1 hb
    simp only [Bool.toNat_true, Nat.mul_one, if_true] at h1 hb
    omega
  | false =>
    rw [ht] at h1 hb
    simp only [Bool.toNat_false, Nat.mul_zero, Bool.false_eq_true, if_false] at h1 hb
    omega
theorem quo_i64 {m p : Int} (hm : 0 ≤ m ∧ m ≤ 9223372036854775807) (hp : 0 < p) : IntKind.i64.wrap (m.tdiv p) = m / p := by
  rw [tdiv_nn hm.1 hp]
  have h1 := Int.ediv_nonneg hm.1 (Int.le_of_lt hp)
  have h2 := Int.ediv_le_self p hm.1
  exact wI64 (by omega)
theorem pow_step {n : Int} {i : Nat} (h : i < (n % 32).toNat) : IntKind.i64.wrap (2 ^ i * 2) = 2 ^ (i + 1) := by
  have h1 : (2 : Nat) ^ (i + 1) ≤ 2 ^ 31 := Nat.pow_le_pow_right (by omega) (by omega)
  have h2 : ((2 : Int) ^ (i + 1)) = ((2 ^ (i + 1) : Nat) : Int) := by simp
  have h3 : (2 : Int) ^ i * 2 = 2 ^ (i + 1) := by rw [Int.pow_succ]
  rw [h3, h2]
  generalize (2 : Nat) ^ (i + 1) = q at h1
  exact wI64 (by omega)
theorem top_mul (m : Nat) (hm : m ≤ 31) : (4294967296 : Int) / 2 ^ m * 2 ^ m = 4294967296 ∧ 0 < (4294967296 : Int) / 2 ^ m := by
  have e : (4294967296 : Int) = 2 ^ (32 - m) * 2 ^ m := by
    rw [← Int.pow_add, show 32 - m + m = 32 by omega]
    decide
  have h0 := pow_pos' m
  rw [e, Int.mul_ediv_cancel _ (by omega)]
  exact ⟨rfl, pow_pos' _⟩
theorem shl_mod {a : Int} (m : Nat) (hm : m ≤ 31) : a % (4294967296 / 2 ^ m) * 2 ^ m = a * 2 ^ m % 4294967296 := by
  have ⟨h1, h2⟩ := top_mul m hm
  conv => rhs; rw [← h1]
  rw [Int.mul_comm a, Int.mul_comm (4294967296 / 2 ^ m), Int.mul_emod_mul_of_pos _ _ (pow_pos' m), Int.mul_comm]
theorem shl_mod_u32 {a : Int} (m : Nat) (hm : m ≤ 31) : U32 (a % (4294967296 / 2 ^ m) * 2 ^ m) := by
  rw [shl_mod m hm]
  exact ⟨Int.emod_nonneg _ (by omega), Int.emod_lt_of_pos _ (by omega)⟩
def bnor (a b : Int) : Int := 4294967295 - bor a b
def bitsOf (k a b : Int) : Int := if k = 8 then bnor a b else if k = 7 then bxor a b else if k = 6 then bor a b else band a b
def isOf (k : Int) (x y : Bool) : Bool := if k = 8 then !x && !y else if k = 7 then !(x == y) else if k = 6 then x || y else x && y
/-- the n lowest bits -/
def lowB (x : Int) (n : Nat) : Int := ((x.toNat % 2 ^ n : Nat) : Int)
theorem lowB_zero (x : Int) : lowB x 0 = 0 := by simp [lowB, Nat.mod_one]
theorem lowB_all {x : Int} (h : U32 x) : lowB x 32 = x := by
  have := h.1; have := h.2
  unfold lowB
  rw [Nat.mod_eq_of_lt (by show x.toNat < 4294967296; omega)]
  omega
theorem lowB_u32 (x : Int) {n : Nat} (h : n ≤ 32) : U32 (lowB x n) := by
  have h1 : x.toNat % 2 ^ n < 2 ^ n := Nat.mod_lt _ (Nat.two_pow_pos n)
  have h2 : (2 : Nat) ^ n ≤ 2 ^ 32 := Nat.pow_le_pow_right (by omega) h
  unfold lowB
  constructor <;> omega
theorem bitAt_nat (a : Nat) (n : Nat) : bitAt (a : Int) (n : Int) = a.testBit n := by
  unfold bitAt
  rw [Nat.testBit_eq_decide_div_mod_eq]
  simp only [Int.toNat_natCast]
  have : ((a : Int) / 2 ^ n % 2) = ((a / 2 ^ n % 2 : Nat) : Int) := by simp
  rw [this]
  rcases Nat.mod_two_eq_zero_or_one (a / 2 ^ n) with h | h <;> simp [h]
theorem withBit_low (x n : Nat) (is : Bool) (h : is = x.testBit n) : withBit (lowB (x : Int) n) (n : Int) is = lowB (x : Int) (n + 1) := by
  unfold withBit lowB
  simp only [Int.toNat_natCast]
  have h1 : x % 2 ^ (n + 1) = x % 2 ^ n + 2 ^ n * (x.testBit n).toNat := by
    rw [Nat.mod_pow_succ, Nat.testBit_eq_decide_div_mod_eq]
    rcases Nat.mod_two_eq_zero_or_one (x / 2 ^ n) with h0 | h0 <;> simp [h0]
  have h2 : x % 2 ^ n / 2 ^ n = 0 := Nat.div_eq_of_lt (Nat.mod_lt _ (Nat.two_pow_pos n))
  have h3 : (((x % 2 ^ n : Nat) : Int) / 2 ^ n % 2 * 2 ^ n) = 0 := by
    rw [show ((2 : Int) ^ n) = ((2 ^ n : Nat) : Int) by simp, ← Int.natCast_ediv, h2]
    simp
  rw [h3, h1, h]
  cases x.testBit n <;> simp
theorem bits_step {k a b : Int} (ha : U32 a) (hb : U32 b) {n : Nat} (hn : n < 32) : withBit (lowB (bitsOf k a b) n) (n : Int) (isOf k (bitAt a n) (bitAt b n)) = lowB (bitsOf k a b) (n + 1) := by
  obtain ⟨A, rfl⟩ := Int.eq_ofNat_of_zero_le ha.1
  obtain ⟨B, rfl⟩ := Int.eq_ofNat_of_zero_le hb.1
  have hA : A < 2 ^ 32 := by have := ha.2; omega
  have hB : B < 2 ^ 32 := by have := hb.2; omega
  rw [bitAt_nat, bitAt_nat]
  unfold bitsOf isOf
  split
  · have hor : A ||| B < 2 ^ 32 := Nat.or_lt_two_pow hA hB
    have e : bnor (A : Int) (B : Int) = ((4294967295 - (A ||| B) : Nat) : Int) := by
      unfold bnor bor
      simp only [Int.toNat_natCast]
      omega
    rw [e]
    refine withBit_low _ _ _ ?_
    have h2 := Nat.testBit_two_pow_sub_succ hor n
    rw [show (2 : Nat) ^ 32 - ((A ||| B) + 1) = 4294967295 - (A ||| B) by omega] at h2
    rw [h2, Nat.testBit_or]
    simp [hn]
  · split
    · refine withBit_low (A ^^^ B) _ _ ?_
      rw [Nat.testBit_xor]
      cases A.testBit n <;> cases B.testBit n <;> rfl
    · split
      · exact withBit_low (A ||| B) _ _ (Nat.testBit_or _ _ _).symm
      · exact withBit_low (A &&& B) _ _ (Nat.testBit_and _ _ _).symm
theorem bitsOf_u32 {k a b : Int} (ha : U32 a) (hb : U32 b) : U32 (bitsOf k a b) := by
  unfold bitsOf
  split
  · have := bor_u32 ha hb
    unfold bnor
    constructor <;> omega
  · split
    · exact bxor_u32 ha hb
    · split
      · exact bor_u32 ha hb
      · exact band_u32 ha
/-- an operation -/
structure Mic where
  k : Int
  d : Int
  a : Int
  b : Int
  i : Int
  c : Int
  deriving DecidableEq
def Mic.cells (m : Mic) : List Value := [.int .i64 m.k, .int .i64 m.d, .int .i64 m.a, .int .i64 m.b, .int .u32 m.i, .int .i64 m.c]
def Mic.val (m : Mic) : Value := .agg m.cells.toArray
def b01 (b : Bool) : Int := if b then 1 else 0
def valOf (k a b i : Int) : Int :=
  if k = 1 then i else if k = 2 then a else if k = 3 then (a + b) % 4294967296 else if k = 4 then (a - b) % 4294967296 else if k = 5 then band a b else if k = 6 then bor a b else if k = 7 then bxor a b else if k = 8 then bnor a b
  else if k = 9 then b01 (lessOf a b true) else if k = 10 then b01 (lessOf a b false) else if k = 11 then shiftOf 0 a (b % 32) else if k = 12 then shiftOf 1 a (b % 32) else shiftOf 2 a (b % 32)
theorem mod_u32 (z : Int) : U32 (z % 4294967296) := ⟨Int.emod_nonneg _ (by omega), Int.emod_lt_of_pos _ (by omega)⟩
theorem b01_u32 (b : Bool) : U32 (b01 b) := by cases b <;> simp [b01, U32]
theorem bnor_u32 {a b : Int} (ha : U32 a) (hb : U32 b) : U32 (bnor a b) := by
  have := bor_u32 ha hb
  unfold bnor
  constructor <;> omega
theorem ite_u32 {c : Prop} [Decidable c] {x y : Int} (hx : U32 x) (hy : U32 y) : U32 (if c then x else y) := by split <;> assumption
theorem valOf_u32 {k a b i : Int} (ha : U32 a) (hb : U32 b) (hi : U32 i) : U32 (valOf k a b i) :=
  ite_u32 hi (ite_u32 ha (ite_u32 (mod_u32 _) (ite_u32 (mod_u32 _) (ite_u32 (band_u32 ha) (ite_u32 (bor_u32 ha hb) (ite_u32 (bxor_u32 ha hb) (ite_u32 (bnor_u32 ha hb)
    (ite_u32 (b01_u32 _) (ite_u32 (b01_u32 _) (ite_u32 (shiftOf_u32 ha) (ite_u32 (shiftOf_u32 ha) (shiftOf_u32 ha))))))))))))
def valueOf (m : Mic) (n : Int) (r : List Int) : Int := if n = 32 then m.i else rg r (n % 32)
def doesOf (m : Mic) (r : List Int) : List Int :=
  if m.k ≠ 0 ∧ m.d % 32 ≠ 0 then r.set (m.d % 32).toNat (valOf m.k (valueOf m m.a r) (valueOf m m.b r) m.i) else r
theorem valueOf_u32 {m : Mic} {n : Int} {r : List Int} (hm : U32 m.i) (hr : Regs r) : U32 (valueOf m n r) := by
  unfold valueOf
  split
  · exact hm
  · exact hr.get (by omega)
theorem doesOf_regs {m : Mic} {r : List Int} (hm : U32 m.i) (hr : Regs r) : Regs (doesOf m r) := by
  unfold doesOf
  split
  · exact hr.set _ (valOf_u32 (valueOf_u32 hm hr) (valueOf_u32 hm hr) hm)
  · exact hr
theorem doesL_no {m : Mic} {g t : Nat} {r : List Int} (h : ¬ (m.k ≠ 0 ∧ m.d % 32 ≠ 0)) : [(⟨g, t, u32s r, (0, 0), true⟩ : Blk)] = [⟨g, t, u32s (doesOf m r), (0, 0), true⟩] := by
  rw [doesOf, if_neg h]
theorem doesL_yes {m : Mic} {g t : Nat} {r : List Int} (h1 : m.k ≠ 0) (h2 : m.d % 32 ≠ 0) :
    [(⟨g, t, setL (u32s r) (0 + (m.d % 32).toNat * 1) [.int .u32 (valOf m.k (valueOf m m.a r) (valueOf m m.b r) m.i)], (0, 0), true⟩ : Blk)] = [⟨g, t, u32s (doesOf m r), (0, 0), true⟩] := by
  rw [doesOf, if_pos ⟨h1, h2⟩, setL_u32s]
def micCells (l : List Mic) : List Value := l.flatMap Mic.cells
theorem mic_drop : ∀ {l : List Mic} {i : Nat} (h : i < l.length), ((micCells l).drop (i * 6)).take 6 = l[i].cells
  | m :: r, 0, _ => rfl
  | m :: r, i + 1, h => by
    have h6 : (i + 1) * 6 = (Mic.cells m).length + i * 6 := by simp [Mic.cells]; omega
    rw [micCells, List.flatMap_cons, h6, List.drop_append, Nat.add_sub_cancel_left, List.drop_of_length_le (by omega), List.nil_append]
    exact mic_drop (l := r) (by simpa using h)
theorem mic_slot {l : List Mic} {i : Nat} (h : i < l.length) {k : Nat} (hk : k < 6) : (micCells l)[i * 6 + k]? = l[i].cells[k]? := by
  rw [← mic_drop h, List.getElem?_take, if_pos hk, List.getElem?_drop]
theorem mic_ne {l : List Mic} {i : Nat} (h : i < l.length) : micCells l ≠ [] := fun h0 => by
  have := mic_drop h
  rw [h0] at this
  simp [Mic.cells] at this
def runOf (l : List Mic) (r : List Int) : List Int := l.foldl (fun r m => doesOf m r) r
def untilOf (n : Int) (l : List Mic) (r : List Int) : List Int := l.foldl (fun r m => if m.c ≤ n then doesOf m r else r) r
theorem take_step {l : List Mic} {k : Nat} (h : k < l.length) : l.take (k + 1) = l.take k ++ [l[k]] := List.take_succ_eq_append_getElem h
theorem runOf_step {l : List Mic} {k : Nat} (h : k < l.length) (r : List Int) : doesOf l[k] (runOf (l.take k) r) = runOf (l.take (k + 1)) r := by
  rw [take_step h, runOf, runOf, List.foldl_append]
  rfl
theorem untilOf_yes {l : List Mic} {k : Nat} {n : Int} (h : k < l.length) (hc : l[k].c ≤ n) (r : List Int) : doesOf l[k] (untilOf n (l.take k) r) = untilOf n (l.take (k + 1)) r := by
  rw [take_step h, untilOf, untilOf, List.foldl_append]
  simp [hc]
theorem untilOf_no {l : List Mic} {k : Nat} {n : Int} (h : k < l.length) (hc : ¬ l[k].c ≤ n) (r : List Int) : untilOf n (l.take k) r = untilOf n (l.take (k + 1)) r := by
  rw [take_step h, untilOf, untilOf, List.foldl_append]
  simp [hc]
theorem runOf_regs : ∀ {l : List Mic} {r : List Int}, (∀ m ∈ l, U32 m.i) → Regs r → Regs (runOf l r)
  | [], _, _, hr => hr
  | m :: l, _, hl, hr => runOf_regs (l := l) (fun x hx => hl x (List.mem_cons_of_mem _ hx)) (doesOf_regs (hl m List.mem_cons_self) hr)
theorem untilOf_regs {n : Int} : ∀ {l : List Mic} {r : List Int}, (∀ m ∈ l, U32 m.i) → Regs r → Regs (untilOf n l r)
  | [], _, _, hr => hr
  | m :: l, _, hl, hr => untilOf_regs (l := l) (fun x hx => hl x (List.mem_cons_of_mem _ hx)) (by
    show Regs (if m.c ≤ n then doesOf m _ else _)
    split
    · exact doesOf_regs (hl m List.mem_cons_self) hr
    · exact hr)
theorem u32_0 : U32 0 := by simp [U32]
theorem mem_takes {l : List Mic} {p : Mic → Prop} (h : ∀ m ∈ l, p m) (k : Nat) : ∀ m ∈ l.take k, p m := fun m hm => h m (List.mem_of_mem_take hm)
def fitsP (m : Mic) : Prop := 0 ≤ m.k ∧ m.k < 14 ∧ 0 ≤ m.c ∧ m.c ≤ 16 ∧ (m.i ≠ 0 → m.a = 32 ∨ m.b = 32 ∨ m.k = 1) ∧ (m.k = 0 → m.d = 0 ∧ m.a = 0 ∧ m.b = 0) ∧
  (m.k ≠ 0 → 1 ≤ m.d ∧ m.d ≤ 31 ∧ 0 ≤ m.a ∧ m.a ≤ 32 ∧ 0 ≤ m.b ∧ m.b ≤ 32) ∧ (m.k = 1 → m.a = 0 ∧ m.b = 0) ∧ (m.k = 2 → m.b = 0)
instance (m : Mic) : Decidable (fitsP m) := by unfold fitsP; infer_instance
theorem does_fit {m : Mic} {r : List Int} {a b : Int} (hf : fitsP m) (hk : m.k ≠ 0) (ha : (m.a < 32 → a = rg r m.a) ∧ (¬ m.a < 32 → a = m.i)) (hb : (m.b < 32 → b = rg r m.b) ∧ (¬ m.b < 32 → b = m.i)) :
    setL (u32s r) (0 + m.d.toNat * 1) [.int .u32 (valOf m.k a b m.i)] = u32s (doesOf m r) := by
  obtain ⟨-, -, -, -, -, -, h, -⟩ := hf
  obtain ⟨h1, h2, h3, h4, h5, h6⟩ := h hk
  have hv : ∀ n x : Int, 0 ≤ n → n ≤ 32 → (n < 32 → x = rg r n) ∧ (¬ n < 32 → x = m.i) → x = valueOf m n r := fun n x h0 h9 hx => by
    unfold valueOf
    by_cases hn : n = 32
    · rw [if_pos hn]; exact hx.2 (by omega)
    · rw [if_neg hn, hx.1 (by omega), Int.emod_eq_of_lt h0 (by omega)]
  rw [setL_u32s, doesOf, if_pos ⟨hk, by omega⟩, Int.emod_eq_of_lt (by omega) (by omega), ← hv m.a a h3 h4 ha, ← hv m.b b h5 h6 hb]
def mayL : Int → List Mic → Bool
  | _, [] => true
  | last, m :: r => decide (fitsP m) && (decide (last ≤ m.c) && mayL m.c r)
def mayOf (l : List Mic) : Bool := mayL 0 l && decide (l.length ≤ 16)
theorem mayL_step {l : List Mic} {k : Nat} {last : Int} (h : k < l.length) (hf : fitsP l[k]) (hc : last ≤ l[k].c) : mayL last (l.drop k) = mayL l[k].c (l.drop (k + 1)) := by
  rw [List.drop_eq_getElem_cons h, mayL, decide_eq_true hf, decide_eq_true hc]
  rfl
theorem mayL_bad {l : List Mic} {k : Nat} {last : Int} (h : k < l.length) (hf : ¬ (fitsP l[k] ∧ last ≤ l[k].c)) : mayL last (l.drop k) = false := by
  rw [List.drop_eq_getElem_cons h, mayL]
  by_cases h1 : fitsP l[k]
  · rw [decide_eq_false (fun h2 => hf ⟨h1, h2⟩)]; simp
  · rw [decide_eq_false h1]; rfl
theorem mayL_end {l : List Mic} {last : Int} : mayL last (l.drop l.length) = true := by rw [List.drop_length]; rfl
theorem mayL_fits : ∀ {l : List Mic} {last : Int}, mayL last l = true → ∀ m ∈ l, fitsP m
  | [], _, _, m, hm => by cases hm
  | x :: r, last, h, m, hm => by
    simp only [mayL, Bool.and_eq_true, decide_eq_true_eq] at h
    rcases List.mem_cons.1 hm with rfl | hm
    · exact h.1
    · exact mayL_fits h.2.2 m hm
theorem skip_fit {l : List Mic} {k : Nat} {n : Int} (h : k < l.length) (hs : (bif l[k].k == 0 then true else decide (l[k].c > n)) = true) {r : List Int} : untilOf n (l.take k) r = untilOf n (l.take (k + 1)) r := by
  rw [take_step h, untilOf, untilOf, List.foldl_append]
  show _ = if l[k].c ≤ n then doesOf l[k] _ else _
  split
  · have h0 : l[k].k = 0 := by (simp only [Bool.cond_false_right, Bool.cond_true_left, Bool.cond_false_left, Bool.cond_true_right, Bool.and_eq_true, Bool.or_eq_true, Bool.not_eq_true', Bool.and_eq_false_iff, Bool.or_eq_false_iff, Bool.not_eq_false', decide_eq_true_eq, decide_eq_false_iff_not, bne_iff_ne, beq_iff_eq, beq_eq_false_iff_ne, bne_eq_false_iff_eq, ne_eq, Bool.not_true, Bool.not_false, Bool.true_eq_false, Bool.false_eq_true, false_iff, iff_false, true_iff, iff_true] at *); omega
    rw [doesOf, if_neg (fun h1 => h1.1 h0)]
  · rfl
theorem Mic.inj {m m' : Mic} : m.cells = m'.cells ↔ m = m' := by
  obtain ⟨k, d, a, b, i, c⟩ := m
  obtain ⟨k', d', a', b', i', c'⟩ := m'
  simp [Mic.cells]
theorem Mic.fitsK (m : Mic) : FitsK [.i .i64, .i .i64, .i .i64, .i .i64, .i .u32, .i .i64] m.cells := ⟨⟨_, rfl⟩, ⟨_, rfl⟩, ⟨_, rfl⟩, ⟨_, rfl⟩, ⟨_, rfl⟩, ⟨_, rfl⟩, trivial⟩
theorem takes_eq {l l' : List Mic} {k : Nat} (h : k < l.length) (h' : k < l'.length) (hp : l.take k = l'.take k) (hk : l[k] = l'[k]) : l.take (k + 1) = l'.take (k + 1) := by
  rw [take_step h, take_step h', hp, hk]
theorem takes_ne {l l' : List Mic} {k : Nat} (h : k < l.length) (h' : k < l'.length) (hk : ¬ l[k] = l'[k]) : ¬ l = l' := fun he => by
  subst he
  exact hk rfl
end Go.Z
