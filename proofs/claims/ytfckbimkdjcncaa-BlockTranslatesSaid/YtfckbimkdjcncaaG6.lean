/- Own texts, joined: ZBlkPlain, XBlk, ZDecPlain, ZTrPlain, XDec, XTr, XLaw, XRef4. -/
import Derived.Test.YtfckbimkdjcncaaG1
import Derived.Test.YtfckbimkdjcncaaG4
import Derived.KernelRfl
set_option linter.unusedSimpArgs false
set_option linter.unusedVariables false
namespace Go.Z
def kindOf (op : Int) : Int :=
  if op = 0 ∨ op = 3 then 11 else if op = 1 ∨ op = 4 then 12 else if op = 2 ∨ op = 5 then 13 else if op = 21 ∨ op = 46 then 3 else if op = 23 then 4 else
  if op = 24 ∨ op = 49 then 5 else if op = 25 ∨ op = 50 then 6 else if op = 26 ∨ op = 51 then 7 else if op = 27 then 8 else if op = 28 ∨ op = 47 then 9 else if op = 29 ∨ op = 48 then 10 else if op = 52 then 1 else 0
def lessOf (a b : Int) (s : Bool) : Bool := if s then decide (sg a < sg b) else decide (a < b)
theorem sg_range {a : Int} (h : U32 a) : -2147483648 ≤ sg a ∧ sg a ≤ 2147483647 := by have := h.1; have := h.2; unfold sg; split <;> omega
def shiftOf (k a n : Int) : Int :=
  if k = 0 then a * 2 ^ (n % 32).toNat % 4294967296 else if k = 1 then a / 2 ^ (n % 32).toNat else if k = 2 then (sg a / 2 ^ (n % 32).toNat) % 4294967296 else a
def fillOf (k : Int) : Int := if k = 2 then 1 else 0
theorem pow_pos' (n : Nat) : (0 : Int) < 2 ^ n := Int.pow_pos (by omega)
theorem pow32 {n : Int} : (2 : Int) ^ (n % 32).toNat ≤ 2147483648 := by
  have h : (n % 32).toNat ≤ 31 := by omega
  have h1 : (2 : Nat) ^ (n % 32).toNat ≤ 2 ^ 31 := Nat.pow_le_pow_right (by omega) h
  have : ((2 ^ (n % 32).toNat : Nat) : Int) ≤ ((2 ^ 31 : Nat) : Int) := by exact_mod_cast h1
  simpa using this
theorem div_range {a p : Int} (h : U32 a) (hp : 0 < p) : U32 (a / p) := ⟨Int.ediv_nonneg h.1 (Int.le_of_lt hp), Int.lt_of_le_of_lt (Int.ediv_le_self p h.1) h.2⟩
theorem shiftOf_u32 {k a n : Int} (h : U32 a) : U32 (shiftOf k a n) := by
  unfold shiftOf
  split
  · exact ⟨Int.emod_nonneg _ (by omega), Int.emod_lt_of_pos _ (by omega)⟩
  · split
    · exact div_range h (pow_pos' _)
    · split
      · exact ⟨Int.emod_nonneg _ (by omega), Int.emod_lt_of_pos _ (by omega)⟩
      · exact h
/-- Go's quotient and rest, of whole numbers by one above 0 -/
theorem tmod_pos {n p : Int} (hp : 0 < p) : n.tmod p = n % p ∧ 0 ≤ n.tmod p ∨ n.tmod p = n % p - p ∧ n.tmod p < 0 := by
  have h1 := Int.emod_nonneg n (show p ≠ 0 by omega)
  have h2 := Int.emod_lt_of_pos n hp
  rw [Int.tmod_eq_emod]
  have h3 : ((p.natAbs : Nat) : Int) = p := by omega
  by_cases h : 0 ≤ n ∨ p ∣ n
  · rw [if_pos h]; left; omega
  · rw [if_neg h]; right; omega
theorem tmod_mod {n p : Int} (hp : 0 < p) : (if n.tmod p < 0 then n.tmod p + p else n.tmod p) = n % p := by
  rcases tmod_pos (n := n) hp with h | h <;> split <;> omega
theorem tdiv_div {n p : Int} (hp : 0 < p) : (if n.tmod p < 0 then n.tdiv p - 1 else n.tdiv p) = n / p := by
  have h3 := Int.mul_ediv_add_emod n p
  have h4 := Int.mul_tdiv_add_tmod n p
  have e : ∀ x y : Int, p * x = p * y → x = y := fun x y h => Int.eq_of_mul_eq_mul_left (by omega) h
  have em : p * (n.tdiv p - 1) = p * n.tdiv p - p := by rw [Int.mul_sub, Int.mul_one]
  rcases tmod_pos (n := n) hp with h | h <;> split
  · omega
  · apply e; omega
  · apply e; omega
  · omega
theorem tdiv_nn {n p : Int} (hn : 0 ≤ n) (_ : 0 < p) : n.tdiv p = n / p := Int.tdiv_eq_ediv_of_nonneg hn
theorem tmod_nn {n p : Int} (hn : 0 ≤ n) (_ : 0 < p) : n.tmod p = n % p := Int.tmod_eq_emod_of_nonneg hn
theorem tdiv_range {n p : Int} (hn : -4294967296 ≤ n ∧ n ≤ 4294967296) (hp : 0 < p) : -4294967296 ≤ n.tdiv p ∧ n.tdiv p ≤ 4294967296 := by
  rcases Int.le_total 0 n with h | h
  · rw [tdiv_nn h hp]
    have h1 := Int.ediv_nonneg h (Int.le_of_lt hp)
    have h2 := Int.ediv_le_self p h
    omega
  · have e : n.tdiv p = -((-n).tdiv p) := by rw [Int.neg_tdiv]; omega
    rw [e, tdiv_nn (by omega) hp]
    have h1 := Int.ediv_nonneg (show 0 ≤ -n by omega) (Int.le_of_lt hp)
    have h2 := Int.ediv_le_self p (show 0 ≤ -n by omega)
    omega
/-- bit n of a word -/
def bitAt (w n : Int) : Bool := w / 2 ^ n.toNat % 2 == 1
/-- a word with bit n so -/
def withBit (w n : Int) (is : Bool) : Int := w - w / 2 ^ n.toNat % 2 * 2 ^ n.toNat + (if is then 2 ^ n.toNat else 0)
theorem pow32' {n : Int} (h : 0 ≤ n ∧ n < 32) : (2 : Int) ^ n.toNat ≤ 2147483648 := by
  have := pow32 (n := n)
  rwa [show n % 32 = n by omega] at this
theorem shl1_i64 {n : Int} (h : 0 ≤ n ∧ n < 32) : IntKind.i64.wrap (1 * 2 ^ min n.toNat IntKind.i64.bits) = 2 ^ n.toNat := by
  have h1 := pow32' h
  have h2 := pow_pos' n.toNat
  rw [show min n.toNat IntKind.i64.bits = n.toNat from Nat.min_eq_left (by show n.toNat ≤ 64; omega), Int.one_mul, wI64 (by omega)]
theorem bit_mul {w n : Int} (hw : U32 w) (h : 0 ≤ n ∧ n < 32) : 0 ≤ w / 2 ^ n.toNat % 2 * 2 ^ n.toNat ∧ w / 2 ^ n.toNat % 2 * 2 ^ n.toNat ≤ w ∧ w - w / 2 ^ n.toNat % 2 * 2 ^ n.toNat + 2 ^ n.toNat < 4294967296 := by
  obtain ⟨W, rfl⟩ := Int.eq_ofNat_of_zero_le hw.1
  obtain ⟨k, rfl⟩ := Int.eq_ofNat_of_zero_le h.1
  have hk : k < 32 := by have := h.2; omega
  have hW : W < 2 ^ 32 := by have := hw.2; omega
  simp only [Int.toNat_natCast]
  have e1 : (W : Int) / 2 ^ k % 2 * 2 ^ k = ((W / 2 ^ k % 2 * 2 ^ k : Nat) : Int) := by simp
  rw [e1]
  have hb : W / 2 ^ k % 2 * 2 ^ k = if W.testBit k then 2 ^ k else 0 := by
    rw [Nat.testBit_eq_decide_div_mod_eq]
    rcases Nat.mod_two_eq_zero_or_one (W / 2 ^ k) with h0 | h0 <;> simp [h0]
  have h1 : W % 2 ^ (k + 1) = W % 2 ^ k + 2 ^ k * (W.testBit k).toNat := by
    rw [Nat.mod_pow_succ, Nat.testBit_eq_decide_div_mod_eq]
    rcases Nat.mod_two_eq_zero_or_one (W / 2 ^ k) with h0 | h0 <;> simp [h0]
  have h2 : W / 2 ^ (k + 1) * 2 ^ (k + 1) + W % 2 ^ (k + 1) = W := Nat.div_add_mod' W _
  have h3 : W % 2 ^ k < 2 ^ k := Nat.mod_lt _ (Nat.two_pow_pos k)
  have h4 : W / 2 ^ (k + 1) < 2 ^ (32 - (k + 1)) := by
    rw [Nat.div_lt_iff_lt_mul (Nat.two_pow_pos _), ← Nat.pow_add]
    rwa [show 32 - (k + 1) + (k + 1) = 32 by omega]
  have h5 : (W / 2 ^ (k + 1) + 1) * 2 ^ (k + 1) ≤ 2 ^ 32 := by
    have : (W / 2 ^ (k + 1) + 1) * 2 ^ (k + 1) ≤ 2 ^ (32 - (k + 1)) * 2 ^ (k + 1) := Nat.mul_le_mul_right _ h4
    rwa [← Nat.pow_add, show 32 - (k + 1) + (k + 1) = 32 by omega] at this
  rw [Nat.add_mul, Nat.one_mul] at h5
  have h6 : (2 : Nat) ^ (k + 1) = 2 ^ k + 2 ^ k := by rw [Nat.pow_succ]; omega
  have e2 : ((2 : Int) ^ k) = ((2 ^ k : Nat) : Int) := by simp
  rw [e2]
  cases ht : W.testBit k with
  | true =>
    rw [ht] at h1 hb
    simp only [Bool.toNat_true, Nat.mul_one, if_true] at h1 hb
    omega
  | false =>
    rw [ht] at h1 hb
    simp only [Bool.toNat_false, Nat.mul_zero, Bool.false_eq_true, if_false] at h1 hb
    omega
theorem quo_i64 {m p : Int} (hm : 0 ≤ m ∧ m ≤ 9223372036854775807) (hp : 0 < p) : IntKind.i64.wrap (m.tdiv p) = m / p := by
  rw [tdiv_nn hm.1 hp]
  have h1 := Int.ediv_nonneg hm.1 (Int.le_of_lt hp)
  have h2 := Int.ediv_le_self p hm.1
  exact wI64 (by omega)
theorem pow_step {n : Int} {i : Nat} (h : i < (n % 32).toNat) : IntKind.i64.wrap (2 ^ i * 2) = 2 ^ (i + 1) := by
  have h1 : (2 : Nat) ^ (i + 1) ≤ 2 ^ 31 := Nat.pow_le_pow_right (by omega) (by omega)
  have h2 : ((2 : Int) ^ (i + 1)) = ((2 ^ (i + 1) : Nat) : Int) := by simp
  have h3 : (2 : Int) ^ i * 2 = 2 ^ (i + 1) := by rw [Int.pow_succ]
  rw [h3, h2]
  generalize (2 : Nat) ^ (i + 1) = q at h1
  exact wI64 (by omega)
theorem top_mul (m : Nat) (hm : m ≤ 31) : (4294967296 : Int) / 2 ^ m * 2 ^ m = 4294967296 ∧ 0 < (4294967296 : Int) / 2 ^ m := by
  have e : (4294967296 : Int) = 2 ^ (32 - m) * 2 ^ m := by
    rw [← Int.pow_add, show 32 - m + m = 32 by omega]
    decide
  have h0 := pow_pos' m
  rw [e, Int.mul_ediv_cancel _ (by omega)]
  exact ⟨rfl, pow_pos' _⟩
theorem shl_mod {a : Int} (m : Nat) (hm : m ≤ 31) : a % (4294967296 / 2 ^ m) * 2 ^ m = a * 2 ^ m % 4294967296 := by
  have ⟨h1, h2⟩ := top_mul m hm
  conv => rhs; rw [← h1]
  rw [Int.mul_comm a, Int.mul_comm (4294967296 / 2 ^ m), Int.mul_emod_mul_of_pos _ _ (pow_pos' m), Int.mul_comm]
theorem shl_mod_u32 {a : Int} (m : Nat) (hm : m ≤ 31) : U32 (a % (4294967296 / 2 ^ m) * 2 ^ m) := by
  rw [shl_mod m hm]
  exact ⟨Int.emod_nonneg _ (by omega), Int.emod_lt_of_pos _ (by omega)⟩
def bnor (a b : Int) : Int := 4294967295 - bor a b
def bitsOf (k a b : Int) : Int := if k = 8 then bnor a b else if k = 7 then bxor a b else if k = 6 then bor a b else band a b
def isOf (k : Int) (x y : Bool) : Bool := if k = 8 then !x && !y else if k = 7 then !(x == y) else if k = 6 then x || y else x && y
/-- the n lowest bits -/
def lowB (x : Int) (n : Nat) : Int := ((x.toNat % 2 ^ n : Nat) : Int)
theorem lowB_zero (x : Int) : lowB x 0 = 0 := by simp [lowB, Nat.mod_one]
theorem lowB_all {x : Int} (h : U32 x) : lowB x 32 = x := by
  have := h.1; have := h.2
  unfold lowB
  rw [Nat.mod_eq_of_lt (by show x.toNat < 4294967296; omega)]
  omega
theorem lowB_u32 (x : Int) {n : Nat} (h : n ≤ 32) : U32 (lowB x n) := by
  have h1 : x.toNat % 2 ^ n < 2 ^ n := Nat.mod_lt _ (Nat.two_pow_pos n)
  have h2 : (2 : Nat) ^ n ≤ 2 ^ 32 := Nat.pow_le_pow_right (by omega) h
  unfold lowB
  constructor <;> omega
theorem bitAt_nat (a : Nat) (n : Nat) : bitAt (a : Int) (n : Int) = a.testBit n := by
  unfold bitAt
  rw [Nat.testBit_eq_decide_div_mod_eq]
  simp only [Int.toNat_natCast]
  have : ((a : Int) / 2 ^ n % 2) = ((a / 2 ^ n % 2 : Nat) : Int) := by simp
  rw [this]
  rcases Nat.mod_two_eq_zero_or_one (a / 2 ^ n) with h | h <;> simp [h]
theorem withBit_low (x n : Nat) (is : Bool) (h : is = x.testBit n) : withBit (lowB (x : Int) n) (n : Int) is = lowB (x : Int) (n + 1) := by
  unfold withBit lowB
  simp only [Int.toNat_natCast]
  have h1 : x % 2 ^ (n + 1) = x % 2 ^ n + 2 ^ n * (x.testBit n).toNat := by
    rw [Nat.mod_pow_succ, Nat.testBit_eq_decide_div_mod_eq]
    rcases Nat.mod_two_eq_zero_or_one (x / 2 ^ n) with h0 | h0 <;> simp [h0]
  have h2 : x % 2 ^ n / 2 ^ n = 0 := Nat.div_eq_of_lt (Nat.mod_lt _ (Nat.two_pow_pos n))
  have h3 : (((x % 2 ^ n : Nat) : Int) / 2 ^ n % 2 * 2 ^ n) = 0 := by
    rw [show ((2 : Int) ^ n) = ((2 ^ n : Nat) : Int) by simp, ← Int.natCast_ediv, h2]
    simp
  rw [h3, h1, h]
  cases x.testBit n <;> simp
theorem bits_step {k a b : Int} (ha : U32 a) (hb : U32 b) {n : Nat} (hn : n < 32) : withBit (lowB (bitsOf k a b) n) (n : Int) (isOf k (bitAt a n) (bitAt b n)) = lowB (bitsOf k a b) (n + 1) := by
  obtain ⟨A, rfl⟩ := Int.eq_ofNat_of_zero_le ha.1
  obtain ⟨B, rfl⟩ := Int.eq_ofNat_of_zero_le hb.1
  have hA : A < 2 ^ 32 := by have := ha.2; omega
  have hB : B < 2 ^ 32 := by have := hb.2; omega
  rw [bitAt_nat, bitAt_nat]
  unfold bitsOf isOf
  split
  · have hor : A ||| B < 2 ^ 32 := Nat.or_lt_two_pow hA hB
    have e : bnor (A : Int) (B : Int) = ((4294967295 - (A ||| B) : Nat) : Int) := by
      unfold bnor bor
      simp only [Int.toNat_natCast]
      omega
    rw [e]
    refine withBit_low _ _ _ ?_
    have h2 := Nat.testBit_two_pow_sub_succ hor n
    rw [show (2 : Nat) ^ 32 - ((A ||| B) + 1) = 4294967295 - (A ||| B) by omega] at h2
    rw [h2, Nat.testBit_or]
    simp [hn]
  · split
    · refine withBit_low (A ^^^ B) _ _ ?_
      rw [Nat.testBit_xor]
      cases A.testBit n <;> cases B.testBit n <;> rfl
    · split
      · exact withBit_low (A ||| B) _ _ (Nat.testBit_or _ _ _).symm
      · exact withBit_low (A &&& B) _ _ (Nat.testBit_and _ _ _).symm
theorem bitsOf_u32 {k a b : Int} (ha : U32 a) (hb : U32 b) : U32 (bitsOf k a b) := by
  unfold bitsOf
  split
  · have := bor_u32 ha hb
    unfold bnor
    constructor <;> omega
  · split
    · exact bxor_u32 ha hb
    · split
      · exact bor_u32 ha hb
      · exact band_u32 ha
/-- an operation -/
structure Mic where
  k : Int
  d : Int
  a : Int
  b : Int
  i : Int
  c : Int
  deriving DecidableEq
def Mic.cells (m : Mic) : List Value := [.int .i64 m.k, .int .i64 m.d, .int .i64 m.a, .int .i64 m.b, .int .u32 m.i, .int .i64 m.c]
def Mic.val (m : Mic) : Value := .agg m.cells.toArray
def b01 (b : Bool) : Int := if b then 1 else 0
def valOf (k a b i : Int) : Int :=
  if k = 1 then i else if k = 2 then a else if k = 3 then (a + b) % 4294967296 else if k = 4 then (a - b) % 4294967296 else if k = 5 then band a b else if k = 6 then bor a b else if k = 7 then bxor a b else if k = 8 then bnor a b
  else if k = 9 then b01 (lessOf a b true) else if k = 10 then b01 (lessOf a b false) else if k = 11 then shiftOf 0 a (b % 32) else if k = 12 then shiftOf 1 a (b % 32) else shiftOf 2 a (b % 32)
theorem mod_u32 (z : Int) : U32 (z % 4294967296) := ⟨Int.emod_nonneg _ (by omega), Int.emod_lt_of_pos _ (by omega)⟩
theorem b01_u32 (b : Bool) : U32 (b01 b) := by cases b <;> simp [b01, U32]
theorem bnor_u32 {a b : Int} (ha : U32 a) (hb : U32 b) : U32 (bnor a b) := by
  have := bor_u32 ha hb
  unfold bnor
  constructor <;> omega
theorem ite_u32 {c : Prop} [Decidable c] {x y : Int} (hx : U32 x) (hy : U32 y) : U32 (if c then x else y) := by split <;> assumption
theorem valOf_u32 {k a b i : Int} (ha : U32 a) (hb : U32 b) (hi : U32 i) : U32 (valOf k a b i) :=
  ite_u32 hi (ite_u32 ha (ite_u32 (mod_u32 _) (ite_u32 (mod_u32 _) (ite_u32 (band_u32 ha) (ite_u32 (bor_u32 ha hb) (ite_u32 (bxor_u32 ha hb) (ite_u32 (bnor_u32 ha hb)
    (ite_u32 (b01_u32 _) (ite_u32 (b01_u32 _) (ite_u32 (shiftOf_u32 ha) (ite_u32 (shiftOf_u32 ha) (shiftOf_u32 ha))))))))))))
def valueOf (m : Mic) (n : Int) (r : List Int) : Int := if n = 32 then m.i else rg r (n % 32)
def doesOf (m : Mic) (r : List Int) : List Int :=
  if m.k ≠ 0 ∧ m.d % 32 ≠ 0 then r.set (m.d % 32).toNat (valOf m.k (valueOf m m.a r) (valueOf m m.b r) m.i) else r
theorem valueOf_u32 {m : Mic} {n : Int} {r : List Int} (hm : U32 m.i) (hr : Regs r) : U32 (valueOf m n r) := by
  unfold valueOf
  split
  · exact hm
  · exact hr.get (by omega)
theorem doesOf_regs {m : Mic} {r : List Int} (hm : U32 m.i) (hr : Regs r) : Regs (doesOf m r) := by
  unfold doesOf
  split
  · exact hr.set _ (valOf_u32 (valueOf_u32 hm hr) (valueOf_u32 hm hr) hm)
  · exact hr
theorem doesL_no {m : Mic} {g t : Nat} {r : List Int} (h : ¬ (m.k ≠ 0 ∧ m.d % 32 ≠ 0)) : [(⟨g, t, u32s r, (0, 0), true⟩ : Blk)] = [⟨g, t, u32s (doesOf m r), (0, 0), true⟩] := by
  rw [doesOf, if_neg h]
theorem doesL_yes {m : Mic} {g t : Nat} {r : List Int} (h1 : m.k ≠ 0) (h2 : m.d % 32 ≠ 0) :
    [(⟨g, t, setL (u32s r) (0 + (m.d % 32).toNat * 1) [.int .u32 (valOf m.k (valueOf m m.a r) (valueOf m m.b r) m.i)], (0, 0), true⟩ : Blk)] = [⟨g, t, u32s (doesOf m r), (0, 0), true⟩] := by
  rw [doesOf, if_pos ⟨h1, h2⟩, setL_u32s]
def micCells (l : List Mic) : List Value := l.flatMap Mic.cells
theorem mic_drop : ∀ {l : List Mic} {i : Nat} (h : i < l.length), ((micCells l).drop (i * 6)).take 6 = l[i].cells
  | m :: r, 0, _ => rfl
  | m :: r, i + 1, h => by
    have h6 : (i + 1) * 6 = (Mic.cells m).length + i * 6 := by simp [Mic.cells]; omega
    rw [micCells, List.flatMap_cons, h6, List.drop_append, Nat.add_sub_cancel_left, List.drop_of_length_le (by omega), List.nil_append]
    exact mic_drop (l := r) (by simpa using h)
theorem mic_slot {l : List Mic} {i : Nat} (h : i < l.length) {k : Nat} (hk : k < 6) : (micCells l)[i * 6 + k]? = l[i].cells[k]? := by
  rw [← mic_drop h, List.getElem?_take, if_pos hk, List.getElem?_drop]
theorem mic_ne {l : List Mic} {i : Nat} (h : i < l.length) : micCells l ≠ [] := fun h0 => by
  have := mic_drop h
  rw [h0] at this
  simp [Mic.cells] at this
def runOf (l : List Mic) (r : List Int) : List Int := l.foldl (fun r m => doesOf m r) r
def untilOf (n : Int) (l : List Mic) (r : List Int) : List Int := l.foldl (fun r m => if m.c ≤ n then doesOf m r else r) r
theorem take_step {l : List Mic} {k : Nat} (h : k < l.length) : l.take (k + 1) = l.take k ++ [l[k]] := List.take_succ_eq_append_getElem h
theorem runOf_step {l : List Mic} {k : Nat} (h : k < l.length) (r : List Int) : doesOf l[k] (runOf (l.take k) r) = runOf (l.take (k + 1)) r := by
  rw [take_step h, runOf, runOf, List.foldl_append]
  rfl
theorem untilOf_yes {l : List Mic} {k : Nat} {n : Int} (h : k < l.length) (hc : l[k].c ≤ n) (r : List Int) : doesOf l[k] (untilOf n (l.take k) r) = untilOf n (l.take (k + 1)) r := by
  rw [take_step h, untilOf, untilOf, List.foldl_append]
  simp [hc]
theorem untilOf_no {l : List Mic} {k : Nat} {n : Int} (h : k < l.length) (hc : ¬ l[k].c ≤ n) (r : List Int) : untilOf n (l.take k) r = untilOf n (l.take (k + 1)) r := by
  rw [take_step h, untilOf, untilOf, List.foldl_append]
  simp [hc]
theorem runOf_regs : ∀ {l : List Mic} {r : List Int}, (∀ m ∈ l, U32 m.i) → Regs r → Regs (runOf l r)
  | [], _, _, hr => hr
  | m :: l, _, hl, hr => runOf_regs (l := l) (fun x hx => hl x (List.mem_cons_of_mem _ hx)) (doesOf_regs (hl m List.mem_cons_self) hr)
theorem untilOf_regs {n : Int} : ∀ {l : List Mic} {r : List Int}, (∀ m ∈ l, U32 m.i) → Regs r → Regs (untilOf n l r)
  | [], _, _, hr => hr
  | m :: l, _, hl, hr => untilOf_regs (l := l) (fun x hx => hl x (List.mem_cons_of_mem _ hx)) (by
    show Regs (if m.c ≤ n then doesOf m _ else _)
    split
    · exact doesOf_regs (hl m List.mem_cons_self) hr
    · exact hr)
theorem u32_0 : U32 0 := by simp [U32]
theorem mem_takes {l : List Mic} {p : Mic → Prop} (h : ∀ m ∈ l, p m) (k : Nat) : ∀ m ∈ l.take k, p m := fun m hm => h m (List.mem_of_mem_take hm)
def fitsP (m : Mic) : Prop := 0 ≤ m.k ∧ m.k < 14 ∧ 0 ≤ m.c ∧ m.c ≤ 16 ∧ (m.i ≠ 0 → m.a = 32 ∨ m.b = 32 ∨ m.k = 1) ∧ (m.k = 0 → m.d = 0 ∧ m.a = 0 ∧ m.b = 0) ∧
  (m.k ≠ 0 → 1 ≤ m.d ∧ m.d ≤ 31 ∧ 0 ≤ m.a ∧ m.a ≤ 32 ∧ 0 ≤ m.b ∧ m.b ≤ 32) ∧ (m.k = 1 → m.a = 0 ∧ m.b = 0) ∧ (m.k = 2 → m.b = 0)
instance (m : Mic) : Decidable (fitsP m) := by unfold fitsP; infer_instance
theorem does_fit {m : Mic} {r : List Int} {a b : Int} (hf : fitsP m) (hk : m.k ≠ 0) (ha : (m.a < 32 → a = rg r m.a) ∧ (¬ m.a < 32 → a = m.i)) (hb : (m.b < 32 → b = rg r m.b) ∧ (¬ m.b < 32 → b = m.i)) :
    setL (u32s r) (0 + m.d.toNat * 1) [.int .u32 (valOf m.k a b m.i)] = u32s (doesOf m r) := by
  obtain ⟨-, -, -, -, -, -, h, -⟩ := hf
  obtain ⟨h1, h2, h3, h4, h5, h6⟩ := h hk
  have hv : ∀ n x : Int, 0 ≤ n → n ≤ 32 → (n < 32 → x = rg r n) ∧ (¬ n < 32 → x = m.i) → x = valueOf m n r := fun n x h0 h9 hx => by
    unfold valueOf
    by_cases hn : n = 32
    · rw [if_pos hn]; exact hx.2 (by omega)
    · rw [if_neg hn, hx.1 (by omega), Int.emod_eq_of_lt h0 (by omega)]
  rw [setL_u32s, doesOf, if_pos ⟨hk, by omega⟩, Int.emod_eq_of_lt (by omega) (by omega), ← hv m.a a h3 h4 ha, ← hv m.b b h5 h6 hb]
def mayL : Int → List Mic → Bool
  | _, [] => true
  | last, m :: r => decide (fitsP m) && (decide (last ≤ m.c) && mayL m.c r)
def mayOf (l : List Mic) : Bool := mayL 0 l && decide (l.length ≤ 16)
theorem mayL_step {l : List Mic} {k : Nat} {last : Int} (h : k < l.length) (hf : fitsP l[k]) (hc : last ≤ l[k].c) : mayL last (l.drop k) = mayL l[k].c (l.drop (k + 1)) := by
  rw [List.drop_eq_getElem_cons h, mayL, decide_eq_true hf, decide_eq_true hc]
  rfl
theorem mayL_bad {l : List Mic} {k : Nat} {last : Int} (h : k < l.length) (hf : ¬ (fitsP l[k] ∧ last ≤ l[k].c)) : mayL last (l.drop k) = false := by
  rw [List.drop_eq_getElem_cons h, mayL]
  by_cases h1 : fitsP l[k]
  · rw [decide_eq_false (fun h2 => hf ⟨h1, h2⟩)]; simp
  · rw [decide_eq_false h1]; rfl
theorem mayL_end {l : List Mic} {last : Int} : mayL last (l.drop l.length) = true := by rw [List.drop_length]; rfl
theorem mayL_fits : ∀ {l : List Mic} {last : Int}, mayL last l = true → ∀ m ∈ l, fitsP m
  | [], _, _, m, hm => by cases hm
  | x :: r, last, h, m, hm => by
    simp only [mayL, Bool.and_eq_true, decide_eq_true_eq] at h
    rcases List.mem_cons.1 hm with rfl | hm
    · exact h.1
    · exact mayL_fits h.2.2 m hm
theorem skip_fit {l : List Mic} {k : Nat} {n : Int} (h : k < l.length) (hs : (bif l[k].k == 0 then true else decide (l[k].c > n)) = true) {r : List Int} : untilOf n (l.take k) r = untilOf n (l.take (k + 1)) r := by
  rw [take_step h, untilOf, untilOf, List.foldl_append]
  show _ = if l[k].c ≤ n then doesOf l[k] _ else _
  split
  · have h0 : l[k].k = 0 := by (simp only [Bool.cond_false_right, Bool.cond_true_left, Bool.cond_false_left, Bool.cond_true_right, Bool.and_eq_true, Bool.or_eq_true, Bool.not_eq_true', Bool.and_eq_false_iff, Bool.or_eq_false_iff, Bool.not_eq_false', decide_eq_true_eq, decide_eq_false_iff_not, bne_iff_ne, beq_iff_eq, beq_eq_false_iff_ne, bne_eq_false_iff_eq, ne_eq, Bool.not_true, Bool.not_false, Bool.true_eq_false, Bool.false_eq_true, false_iff, iff_false, true_iff, iff_true] at *); omega
    rw [doesOf, if_neg (fun h1 => h1.1 h0)]
  · rfl
theorem Mic.inj {m m' : Mic} : m.cells = m'.cells ↔ m = m' := by
  obtain ⟨k, d, a, b, i, c⟩ := m
  obtain ⟨k', d', a', b', i', c'⟩ := m'
  simp [Mic.cells]
theorem Mic.fitsK (m : Mic) : FitsK [.i .i64, .i .i64, .i .i64, .i .i64, .i .u32, .i .i64] m.cells := ⟨⟨_, rfl⟩, ⟨_, rfl⟩, ⟨_, rfl⟩, ⟨_, rfl⟩, ⟨_, rfl⟩, ⟨_, rfl⟩, trivial⟩
theorem takes_eq {l l' : List Mic} {k : Nat} (h : k < l.length) (h' : k < l'.length) (hp : l.take k = l'.take k) (hk : l[k] = l'[k]) : l.take (k + 1) = l'.take (k + 1) := by
  rw [take_step h, take_step h', hp, hk]
theorem takes_ne {l l' : List Mic} {k : Nat} (h : k < l.length) (h' : k < l'.length) (hk : ¬ l[k] = l'[k]) : ¬ l = l' := fun he => by
  subst he
  exact hk rfl
end Go.Z

set_option linter.unusedSimpArgs false
set_option linter.unusedVariables false
namespace Go.X
open Go.Y
open Go.Z (U32 Regs rg kindOf lessOf shiftOf fillOf sg band bor bxor bnor bitsOf b01)
def valueOf (i : Int) (n : Int) (r : List Int) : Int := if n = 32 then i else rg r (n % 32)
def doesOf (m : Mic) (r : List Int) : List Int :=
  if m.k ≠ 0 ∧ m.d % 32 ≠ 0 then r.set (m.d % 32).toNat (Z.valOf m.k (valueOf m.i m.a r) (valueOf m.i m.b r) m.i) else r
theorem valueOf_u32 {i n : Int} {r : List Int} (hm : U32 i) (hr : Regs r) : U32 (valueOf i n r) := by
  unfold valueOf
  split
  · exact hm
  · exact hr.get (by omega)
theorem doesOf_regs {m : Mic} {r : List Int} (hm : U32 m.i) (hr : Regs r) : Regs (doesOf m r) := by
  unfold doesOf
  split
  · exact hr.set _ (Z.valOf_u32 (valueOf_u32 hm hr) (valueOf_u32 hm hr) hm)
  · exact hr
def runOf (l : List Mic) (r : List Int) : List Int := l.foldl (fun r m => doesOf m r) r
def untilOf (n : Int) (l : List Mic) (r : List Int) : List Int := l.foldl (fun r m => if m.c ≤ n then doesOf m r else r) r
theorem runOf_regs : ∀ {l : List Mic} {r : List Int}, (∀ m ∈ l, U32 m.i) → Regs r → Regs (runOf l r)
  | [], _, _, hr => hr
  | m :: l, _, hl, hr => runOf_regs (l := l) (fun x hx => hl x (List.mem_cons_of_mem _ hx)) (doesOf_regs (hl m List.mem_cons_self) hr)
theorem untilOf_regs {n : Int} : ∀ {l : List Mic} {r : List Int}, (∀ m ∈ l, U32 m.i) → Regs r → Regs (untilOf n l r)
  | [], _, _, hr => hr
  | m :: l, _, hl, hr => untilOf_regs (l := l) (fun x hx => hl x (List.mem_cons_of_mem _ hx)) (by
    show Regs (if m.c ≤ n then doesOf m _ else _)
    split
    · exact doesOf_regs (hl m List.mem_cons_self) hr
    · exact hr)
/-- a part of a row -/
def sub {α : Type} (l : List α) (o n : Nat) : List α := (l.drop o).take n
theorem sub_len {α : Type} {l : List α} {o n : Nat} (h : o + n ≤ l.length) : (sub l o n).length = n := by simp [sub]; omega
theorem sub_get {α : Type} {l : List α} {o n k : Nat} {d : α} (h : o + n ≤ l.length) (hk : k < n) : l.getD (o + k) d = (sub l o n)[k]'(by rw [sub_len h]; exact hk) := by
  simp only [sub, List.getElem_take, List.getElem_drop]
  rw [List.getD_eq_getElem?_getD, List.getElem?_eq_getElem (by omega)]
  rfl
theorem sub_step {α : Type} {l : List α} {o n k : Nat} {d : α} (h : o + n ≤ l.length) (hk : k < n) : (sub l o n).take (k + 1) = (sub l o n).take k ++ [l.getD (o + k) d] := by
  rw [sub_get h hk]
  exact List.take_succ_eq_append_getElem _
theorem sub_take {α : Type} {l : List α} {o n : Nat} (h : o + n ≤ l.length) : (sub l o n).take n = sub l o n := by rw [List.take_of_length_le (by rw [sub_len h]; exact Nat.le_refl _)]
theorem sub_mem {α : Type} {l : List α} {o n : Nat} {p : α → Prop} (hp : ∀ m ∈ sub l o n, p m) {k : Nat} {d : α} (h : o + n ≤ l.length) (hk : k < n) : p (l.getD (o + k) d) := by
  rw [sub_get h hk]
  exact hp _ (List.getElem_mem _)
theorem mem_takes {l : List Mic} {p : Mic → Prop} (h : ∀ m ∈ l, p m) (k : Nat) : ∀ m ∈ l.take k, p m := fun m hm => h m (List.mem_of_mem_take hm)
theorem runOf_snoc (l : List Mic) (m : Mic) (r : List Int) : runOf (l ++ [m]) r = doesOf m (runOf l r) := by simp [runOf]
theorem untilOf_snoc (n : Int) (l : List Mic) (m : Mic) (r : List Int) : untilOf n (l ++ [m]) r = if m.c ≤ n then doesOf m (untilOf n l r) else untilOf n l r := by simp [untilOf]
def fitsP (m : Mic) : Prop := 0 ≤ m.k ∧ m.k < 14 ∧ 0 ≤ m.c ∧ m.c ≤ 16 ∧ (m.i ≠ 0 → m.a = 32 ∨ m.b = 32 ∨ m.k = 1) ∧ (m.k = 0 → m.d = 0 ∧ m.a = 0 ∧ m.b = 0) ∧
  (m.k ≠ 0 → 1 ≤ m.d ∧ m.d ≤ 31 ∧ 0 ≤ m.a ∧ m.a ≤ 32 ∧ 0 ≤ m.b ∧ m.b ≤ 32) ∧ (m.k = 1 → m.a = 0 ∧ m.b = 0) ∧ (m.k = 2 → m.b = 0)
instance (m : Mic) : Decidable (fitsP m) := by unfold fitsP; infer_instance
def mayL : Int → List Mic → Bool
  | _, [] => true
  | last, m :: r => decide (fitsP m) && (decide (last ≤ m.c) && mayL m.c r)
def mayOf (l : List Mic) : Bool := mayL 0 l && decide (l.length ≤ 16)
/-- the last Count of a row -/
def lastC (l : List Mic) : Int := match l.getLast? with
  | some m => m.c
  | none => 0
theorem lastC_snoc (l : List Mic) (m : Mic) : lastC (l ++ [m]) = m.c := by simp [lastC]
theorem mayL_snoc : ∀ (l : List Mic) (last : Int) (m : Mic), mayL last (l ++ [m]) = (mayL last l && (decide (fitsP m) && decide ((match l.getLast? with | some x => x.c | none => last) ≤ m.c)))
  | [], last, m => by simp only [List.nil_append, mayL, List.getLast?_nil, Bool.true_and, Bool.and_true]; rfl
  | [x], last, m => by simp only [List.cons_append, List.nil_append, mayL, List.getLast?_singleton, Bool.and_true, Bool.and_assoc]; rfl
  | x :: y :: r, last, m => by
    have ih := mayL_snoc (y :: r) x.c m
    simp only [List.cons_append, mayL] at ih ⊢
    rw [ih]
    simp only [List.getLast?_cons_cons, Bool.and_assoc]
    cases h : (y :: r).getLast? with
    | none => simp at h
    | some z => rfl
theorem may_snoc (l : List Mic) (m : Mic) : mayL 0 (l ++ [m]) = (mayL 0 l && (decide (fitsP m) && decide (lastC l ≤ m.c))) := mayL_snoc l 0 m
theorem mayL_app_false : ∀ {l : List Mic} (r : List Mic) {last : Int}, mayL last l = false → mayL last (l ++ r) = false
  | [], _, _, h => by cases h
  | x :: l, r, last, h => by
    simp only [List.cons_append, mayL, Bool.and_eq_false_iff] at h ⊢
    rcases h with h | h | h
    · exact .inl h
    · exact .inr (.inl h)
    · exact .inr (.inr (mayL_app_false r h))
theorem mayL_fits : ∀ {l : List Mic} {last : Int}, mayL last l = true → ∀ m ∈ l, fitsP m
  | [], _, _, m, hm => by cases hm
  | x :: r, last, h, m, hm => by
    simp only [mayL, Bool.and_eq_true, decide_eq_true_eq] at h
    rcases List.mem_cons.1 hm with rfl | hm
    · exact h.1
    · exact mayL_fits h.2.2 m hm
end Go.X

set_option linter.unusedSimpArgs false
set_option linter.unusedVariables false
namespace Go.Z
/-- an instruction -/
structure Ins where
  op : Int
  rs : Int
  rt : Int
  rd : Int
  sa : Int
  imm : Int
  deriving DecidableEq
def Ins.cells (i : Ins) : List Value := [.int .i64 i.op, .int .i64 i.rs, .int .i64 i.rt, .int .i64 i.rd, .int .i64 i.sa, .int .i64 i.imm]
def Ins.val (i : Ins) : Value := .agg i.cells.toArray
theorem Ins.inj {i j : Ins} : i.cells = j.cells ↔ i = j := by
  obtain ⟨a, b, c, d, e, f⟩ := i
  obtain ⟨a', b', c', d', e', f'⟩ := j
  simp [Ins.cells]
theorem Ins.fitsK (i : Ins) : FitsK [.i .i64, .i .i64, .i .i64, .i .i64, .i .i64, .i .i64] i.cells := ⟨⟨_, rfl⟩, ⟨_, rfl⟩, ⟨_, rfl⟩, ⟨_, rfl⟩, ⟨_, rfl⟩, ⟨_, rfl⟩, trivial⟩
/-- a row of the table -/
structure RowP where
  nm : ByteArray
  f : Int
  M : Int
  m : Int
def RowP.cells (r : RowP) : List Value := [.string r.nm, .int .i64 r.f, .int .u32 r.M, .int .u32 r.m]
def RowP.val (r : RowP) : Value := .agg r.cells.toArray
def tab : List RowP := [
  ⟨⟨#[115, 108, 108]⟩, 0, 0, 0⟩,
  ⟨⟨#[115, 114, 108]⟩, 0, 0, 2⟩,
  ⟨⟨#[115, 114, 97]⟩, 0, 0, 3⟩,
  ⟨⟨#[115, 108, 108, 118]⟩, 1, 0, 4⟩,
  ⟨⟨#[115, 114, 108, 118]⟩, 1, 0, 6⟩,
  ⟨⟨#[115, 114, 97, 118]⟩, 1, 0, 7⟩,
  ⟨⟨#[106, 114]⟩, 2, 0, 8⟩,
  ⟨⟨#[106, 97, 108, 114]⟩, 3, 0, 9⟩,
  ⟨⟨#[109, 111, 118, 122]⟩, 4, 0, 10⟩,
  ⟨⟨#[109, 111, 118, 110]⟩, 4, 0, 11⟩,
  ⟨⟨#[115, 121, 115, 99, 97, 108, 108]⟩, 5, 0, 12⟩,
  ⟨⟨#[98, 114, 101, 97, 107]⟩, 5, 0, 13⟩,
  ⟨⟨#[109, 102, 104, 105]⟩, 6, 0, 16⟩,
  ⟨⟨#[109, 116, 104, 105]⟩, 7, 0, 17⟩,
  ⟨⟨#[109, 102, 108, 111]⟩, 6, 0, 18⟩,
  ⟨⟨#[109, 116, 108, 111]⟩, 7, 0, 19⟩,
  ⟨⟨#[109, 117, 108, 116]⟩, 8, 0, 24⟩,
  ⟨⟨#[109, 117, 108, 116, 117]⟩, 8, 0, 25⟩,
  ⟨⟨#[100, 105, 118]⟩, 8, 0, 26⟩,
  ⟨⟨#[100, 105, 118, 117]⟩, 8, 0, 27⟩,
  ⟨⟨#[97, 100, 100]⟩, 4, 0, 32⟩,
  ⟨⟨#[97, 100, 100, 117]⟩, 4, 0, 33⟩,
  ⟨⟨#[115, 117, 98]⟩, 4, 0, 34⟩,
  ⟨⟨#[115, 117, 98, 117]⟩, 4, 0, 35⟩,
  ⟨⟨#[97, 110, 100]⟩, 4, 0, 36⟩,
  ⟨⟨#[111, 114]⟩, 4, 0, 37⟩,
  ⟨⟨#[120, 111, 114]⟩, 4, 0, 38⟩,
  ⟨⟨#[110, 111, 114]⟩, 4, 0, 39⟩,
  ⟨⟨#[115, 108, 116]⟩, 4, 0, 42⟩,
  ⟨⟨#[115, 108, 116, 117]⟩, 4, 0, 43⟩,
  ⟨⟨#[116, 101, 113]⟩, 8, 0, 52⟩,
  ⟨⟨#[116, 110, 101]⟩, 8, 0, 54⟩,
  ⟨⟨#[109, 117, 108]⟩, 4, 28, 2⟩,
  ⟨⟨#[99, 108, 122]⟩, 9, 28, 32⟩,
  ⟨⟨#[99, 108, 111]⟩, 9, 28, 33⟩,
  ⟨⟨#[98, 108, 116, 122]⟩, 10, 1, 0⟩,
  ⟨⟨#[98, 103, 101, 122]⟩, 10, 1, 1⟩,
  ⟨⟨#[98, 108, 116, 122, 97, 108]⟩, 10, 1, 16⟩,
  ⟨⟨#[98, 103, 101, 122, 97, 108]⟩, 10, 1, 17⟩,
  ⟨⟨#[106]⟩, 11, 2, 0⟩,
  ⟨⟨#[106, 97, 108]⟩, 11, 3, 0⟩,
  ⟨⟨#[98, 101, 113]⟩, 12, 4, 0⟩,
  ⟨⟨#[98, 110, 101]⟩, 12, 5, 0⟩,
  ⟨⟨#[98, 108, 101, 122]⟩, 10, 6, 0⟩,
  ⟨⟨#[98, 103, 116, 122]⟩, 10, 7, 0⟩,
  ⟨⟨#[97, 100, 100, 105]⟩, 13, 8, 0⟩,
  ⟨⟨#[97, 100, 100, 105, 117]⟩, 13, 9, 0⟩,
  ⟨⟨#[115, 108, 116, 105]⟩, 13, 10, 0⟩,
  ⟨⟨#[115, 108, 116, 105, 117]⟩, 13, 11, 0⟩,
  ⟨⟨#[97, 110, 100, 105]⟩, 14, 12, 0⟩,
  ⟨⟨#[111, 114, 105]⟩, 14, 13, 0⟩,
  ⟨⟨#[120, 111, 114, 105]⟩, 14, 14, 0⟩,
  ⟨⟨#[108, 117, 105]⟩, 15, 15, 0⟩,
  ⟨⟨#[109, 102, 99, 48]⟩, 16, 16, 0⟩,
  ⟨⟨#[109, 116, 99, 48]⟩, 16, 16, 4⟩,
  ⟨⟨#[116, 108, 98, 114]⟩, 17, 16, 1⟩,
  ⟨⟨#[116, 108, 98, 119, 105]⟩, 17, 16, 2⟩,
  ⟨⟨#[116, 108, 98, 112]⟩, 17, 16, 8⟩,
  ⟨⟨#[101, 114, 101, 116]⟩, 17, 16, 24⟩,
  ⟨⟨#[108, 98]⟩, 18, 32, 0⟩,
  ⟨⟨#[108, 104]⟩, 18, 33, 0⟩,
  ⟨⟨#[108, 119]⟩, 18, 35, 0⟩,
  ⟨⟨#[108, 98, 117]⟩, 18, 36, 0⟩,
  ⟨⟨#[108, 104, 117]⟩, 18, 37, 0⟩,
  ⟨⟨#[115, 98]⟩, 18, 40, 0⟩,
  ⟨⟨#[115, 104]⟩, 18, 41, 0⟩,
  ⟨⟨#[115, 119]⟩, 18, 43, 0⟩,
  ⟨⟨#[108, 108]⟩, 18, 48, 0⟩,
  ⟨⟨#[115, 99]⟩, 18, 56, 0⟩]
def tabCells : List Value := tab.flatMap RowP.cells
def RowP.ok (r : RowP) : Bool := decide (0 ≤ r.f) && (decide (r.f < 19) && (decide (0 ≤ r.M) && (decide (r.M < 64) && (decide (0 ≤ r.m) && (decide (r.m < 64) && (!(r.f == 10 || r.f == 16) || decide (r.m < 32)))))))
theorem tab_ok : tab.all RowP.ok = true := by decide
theorem tab_len : tab.length = 69 := rfl
/-- the fields of a word -/
structure Lay where
  rs : Int
  rt : Int
  rd : Int
  sa : Int
  minor : Int
  imm : Int
def Lay.cells (l : Lay) : List Value := [.int .u32 l.rs, .int .u32 l.rt, .int .u32 l.rd, .int .u32 l.sa, .int .u32 l.minor, .int .u32 l.imm]
def Lay.val (l : Lay) : Value := .agg l.cells.toArray
def layOf (f m : Int) (i : Ins) : Lay :=
  if f = 9 then ⟨i.rs % 32, i.rd % 32, i.rd % 32, 0, m, 0⟩
  else if f = 10 then ⟨i.rs % 32, m, 0, 0, 0, i.imm % 65536⟩
  else if f = 11 then ⟨0, 0, 0, 0, 0, i.imm % 67108864⟩
  else if f = 12 ∨ f = 13 ∨ f = 14 ∨ f = 15 ∨ f = 18 then ⟨i.rs % 32, i.rt % 32, 0, 0, 0, i.imm % 65536⟩
  else if f = 16 then ⟨m, i.rt % 32, i.rd % 32, 0, 0, 0⟩
  else if f = 17 then ⟨16, 0, 0, 0, m, 0⟩
  else ⟨i.rs % 32, i.rt % 32, i.rd % 32, i.sa % 32, m, 0⟩
def Lay.word (l : Lay) (M : Int) : Int := M * 67108864 + l.rs * 2097152 + l.rt * 65536 + l.rd * 2048 + l.sa * 64 + l.minor + l.imm
/-- fields that stand in nobody's way -/
def Lay.ok (l : Lay) : Prop := (0 ≤ l.rs ∧ l.rs < 32) ∧ (0 ≤ l.rt ∧ l.rt < 32) ∧ (0 ≤ l.rd ∧ l.rd < 32) ∧ (0 ≤ l.sa ∧ l.sa < 32) ∧ (0 ≤ l.minor ∧ l.minor < 64) ∧
  (l.imm = 0 ∨ (0 ≤ l.imm ∧ l.imm < 65536 ∧ l.rd = 0 ∧ l.sa = 0 ∧ l.minor = 0) ∨ (0 ≤ l.imm ∧ l.imm < 67108864 ∧ l.rs = 0 ∧ l.rt = 0 ∧ l.rd = 0 ∧ l.sa = 0 ∧ l.minor = 0))
theorem layOf_ok {f m : Int} {i : Ins} (hm : 0 ≤ m ∧ m < 64) (h : f = 10 ∨ f = 16 → m < 32) : (layOf f m i).ok := by
  unfold layOf
  (repeat' split) <;> refine ⟨?_, ?_, ?_, ?_, ?_, ?_⟩ <;> dsimp only <;> first | omega | exact .inl rfl | exact .inr (.inl (by omega)) | exact .inr (.inr (by omega))
def sign16 (x : Int) : Int := if x < 32768 then x else x - 65536
theorem wI16 {x : Int} (h : 0 ≤ x ∧ x < 65536) : IntKind.i16.wrap x = sign16 x := by
  unfold sign16
  simp only [IntKind.wrap, IntKind.bits, IntKind.signed]
  simp
  omega
def takeOf (f op w : Int) : Ins :=
  let rs := w / 2097152 % 32
  let rt := w / 65536 % 32
  let rd := w / 2048 % 32
  let sa := w / 64 % 32
  let imm := sign16 (w % 65536)
  if f = 0 then ⟨op, 0, rt, rd, sa, 0⟩
  else if f = 1 ∨ f = 4 then ⟨op, rs, rt, rd, 0, 0⟩
  else if f = 2 ∨ f = 7 then ⟨op, rs, 0, 0, 0, 0⟩
  else if f = 3 ∨ f = 9 then ⟨op, rs, 0, rd, 0, 0⟩
  else if f = 6 then ⟨op, 0, 0, rd, 0, 0⟩
  else if f = 8 then ⟨op, rs, rt, 0, 0, 0⟩
  else if f = 10 then ⟨op, rs, 0, 0, 0, imm⟩
  else if f = 11 then ⟨op, 0, 0, 0, 0, w % 67108864⟩
  else if f = 12 ∨ f = 13 ∨ f = 18 then ⟨op, rs, rt, 0, 0, imm⟩
  else if f = 14 then ⟨op, rs, rt, 0, 0, imm % 65536⟩
  else if f = 15 then ⟨op, 0, rt, 0, 0, imm % 65536⟩
  else if f = 16 then ⟨op, 0, rt, rd, 0, 0⟩
  else ⟨op, 0, 0, 0, 0, 0⟩
/-- is this op's word w? -/
def hit (w : Int) (k : Nat) : Bool := match tab[k]? with
  | none => false
  | some r => decide (r.M = w / 67108864) && decide ((layOf r.f r.m (takeOf r.f k w)).word r.M = w)
def decOf (w : Int) : Option Nat := (List.range 69).find? (hit w)
def insOf (w : Int) (k : Nat) : Ins := takeOf ((tab[k]?.map RowP.f).getD 0) k w
/-- what Decode hands back -/
def decVal (w : Int) : Value := match decOf w with
  | some k => .tuple #[(insOf w k).val, .int .i64 0]
  | none => .tuple #[(⟨0, 0, 0, 0, 0, 0⟩ : Ins).val, .int .i64 40]
theorem row_cells_len (r : RowP) : r.cells.length = 4 := rfl
theorem find_first {p : Nat → Bool} {n k : Nat} (hk : k < n) (hp : p k = true) (h : ∀ j, j < k → p j = false) : (List.range n).find? p = some k := by
  rw [List.find?_range_eq_some]
  exact ⟨hp, by simpa using hk, fun j hj => by simp [h j hj]⟩
theorem find_none {p : Nat → Bool} {n : Nat} (h : ∀ j, j < n → p j = false) : (List.range n).find? p = none := by
  rw [List.find?_eq_none]
  intro j hj
  simp [h j (List.mem_range.1 hj)]
theorem tabCells_len : tabCells.length = 276 := by kernel_rfl
theorem tab_take : (tabCells.drop 0).take 276 = tabCells := by rw [List.drop_zero, List.take_of_length_le (Nat.le_of_eq tabCells_len)]
theorem row_ok {k : Nat} (h : k < tab.length) : (0 ≤ tab[k].f ∧ tab[k].f < 19) ∧ (0 ≤ tab[k].M ∧ tab[k].M < 64) ∧ (0 ≤ tab[k].m ∧ tab[k].m < 64) ∧ (tab[k].f = 10 ∨ tab[k].f = 16 → tab[k].m < 32) := by
  have := List.all_eq_true.1 tab_ok _ (List.getElem_mem h)
  simp only [RowP.ok, Bool.and_eq_true, decide_eq_true_eq, Bool.or_eq_true, Bool.not_eq_true', Bool.or_eq_false_iff, beq_eq_false_iff_ne, ne_eq] at this
  omega
theorem row_drop {k : Nat} (h : k < tab.length) : (tabCells.drop (k * 4)).take 4 = tab[k].cells := flat_drop row_cells_len h
theorem hit_of {w : Int} {k : Nat} (h : k < tab.length) : hit w k = (decide (tab[k].M = w / 67108864) && decide ((layOf tab[k].f tab[k].m (takeOf tab[k].f k w)).word tab[k].M = w)) := by
  simp only [hit, List.getElem?_eq_getElem h]
theorem hit_no1 {w : Int} {k : Nat} (h : k < tab.length) (hM : ¬ tab[k].M = w / 67108864) : hit w k = false := by rw [hit_of h, decide_eq_false hM]; rfl
theorem hit_no2 {w : Int} {k : Nat} (h : k < tab.length) (hW : ¬ (layOf tab[k].f tab[k].m (takeOf tab[k].f k w)).word tab[k].M = w) : hit w k = false := by rw [hit_of h, decide_eq_false hW, Bool.and_false]
theorem dec_hit {w : Int} {k : Nat} (h : k < tab.length) (hf : ∀ j, j < k → hit w j = false) (hM : tab[k].M = w / 67108864) (hW : (layOf tab[k].f tab[k].m (takeOf tab[k].f k w)).word tab[k].M = w) :
    decVal w = .tuple #[(takeOf tab[k].f k w).val, .int .i64 0] := by
  have h1 : decOf w = some k := find_first (by rw [tab_len] at h; exact h) (by rw [hit_of h, decide_eq_true hM, decide_eq_true hW]; rfl) hf
  simp only [decVal, h1, insOf, List.getElem?_eq_getElem h, Option.map_some, Option.getD_some]
theorem dec_none {w : Int} (hf : ∀ j, j < 69 → hit w j = false) : decVal w = .tuple #[(⟨0, 0, 0, 0, 0, 0⟩ : Ins).val, .int .i64 40] := by
  have h1 : decOf w = none := find_none hf
  simp only [decVal, h1]
theorem miss_step {w : Int} {k : Nat} (hf : ∀ j, j < k → hit w j = false) (h : hit w k = false) : ∀ j, j < k + 1 → hit w j = false := fun j hj => by
  by_cases hjk : j = k
  · rw [hjk]; exact h
  · exact hf j (by omega)
theorem tk0 {f op w : Int} (h : f = 0) : takeOf f op w = ⟨op, 0, w / 65536 % 32, w / 2048 % 32, w / 64 % 32, 0⟩ := by
  subst h; rfl
theorem tk1 {f op w : Int} (h : f = 1 ∨ f = 4) : takeOf f op w = ⟨op, w / 2097152 % 32, w / 65536 % 32, w / 2048 % 32, 0, 0⟩ := by
  rcases h with rfl | rfl <;> rfl
theorem tk2 {f op w : Int} (h : f = 2 ∨ f = 7) : takeOf f op w = ⟨op, w / 2097152 % 32, 0, 0, 0, 0⟩ := by
  rcases h with rfl | rfl <;> rfl
theorem tk3 {f op w : Int} (h : f = 3 ∨ f = 9) : takeOf f op w = ⟨op, w / 2097152 % 32, 0, w / 2048 % 32, 0, 0⟩ := by
  rcases h with rfl | rfl <;> rfl
theorem tk4 {f op w : Int} (h : f = 6) : takeOf f op w = ⟨op, 0, 0, w / 2048 % 32, 0, 0⟩ := by
  subst h; rfl
theorem tk5 {f op w : Int} (h : f = 8) : takeOf f op w = ⟨op, w / 2097152 % 32, w / 65536 % 32, 0, 0, 0⟩ := by
  subst h; rfl
theorem tk6 {f op w : Int} (h : f = 10) : takeOf f op w = ⟨op, w / 2097152 % 32, 0, 0, 0, sign16 (w % 65536)⟩ := by
  subst h; rfl
theorem tk7 {f op w : Int} (h : f = 11) : takeOf f op w = ⟨op, 0, 0, 0, 0, w % 67108864⟩ := by
  subst h; rfl
theorem tk8 {f op w : Int} (h : f = 12 ∨ f = 13 ∨ f = 18) : takeOf f op w = ⟨op, w / 2097152 % 32, w / 65536 % 32, 0, 0, sign16 (w % 65536)⟩ := by
  rcases h with rfl | rfl | rfl <;> rfl
theorem tk9 {f op w : Int} (h : f = 14) : takeOf f op w = ⟨op, w / 2097152 % 32, w / 65536 % 32, 0, 0, sign16 (w % 65536) % 65536⟩ := by
  subst h; rfl
theorem tk10 {f op w : Int} (h : f = 15) : takeOf f op w = ⟨op, 0, w / 65536 % 32, 0, 0, sign16 (w % 65536) % 65536⟩ := by
  subst h; rfl
theorem tk11 {f op w : Int} (h : f = 16) : takeOf f op w = ⟨op, 0, w / 65536 % 32, w / 2048 % 32, 0, 0⟩ := by
  subst h; rfl
theorem tk12 {f op w : Int} (h : f ≠ 0 ∧ f ≠ 1 ∧ f ≠ 2 ∧ f ≠ 3 ∧ f ≠ 4 ∧ f ≠ 6 ∧ f ≠ 7 ∧ f ≠ 8 ∧ f ≠ 9 ∧ f ≠ 10 ∧ f ≠ 11 ∧ f ≠ 12 ∧ f ≠ 13 ∧ f ≠ 14 ∧ f ≠ 15 ∧ f ≠ 16 ∧ f ≠ 18) : takeOf f op w = ⟨op, 0, 0, 0, 0, 0⟩ := by
  unfold takeOf
  dsimp only
  rw [if_neg (by omega)]
  rw [if_neg (by omega)]
  rw [if_neg (by omega)]
  rw [if_neg (by omega)]
  rw [if_neg (by omega)]
  rw [if_neg (by omega)]
  rw [if_neg (by omega)]
  rw [if_neg (by omega)]
  rw [if_neg (by omega)]
  rw [if_neg (by omega)]
  rw [if_neg (by omega)]
  rw [if_neg (by omega)]
def formNames : List ByteArray := [⟨#[83, 72]⟩, ⟨#[83, 86]⟩, ⟨#[74, 82]⟩, ⟨#[74, 65, 76, 82]⟩, ⟨#[82]⟩, ⟨#[78]⟩, ⟨#[77, 70]⟩, ⟨#[77, 84]⟩, ⟨#[77, 68]⟩, ⟨#[67, 76]⟩, ⟨#[66, 90]⟩, ⟨#[74]⟩, ⟨#[66, 50]⟩, ⟨#[73]⟩, ⟨#[73, 85]⟩, ⟨#[76, 85, 73]⟩, ⟨#[67, 48]⟩, ⟨#[67, 79]⟩, ⟨#[77]⟩]
def formName (f : Int) : ByteArray := formNames.getD f.toNat ⟨#[]⟩
def formOf (op : Int) : ByteArray := if 0 ≤ op then (match tab[op.toNat]? with | some r => formName r.f | none => ⟨#[]⟩) else ⟨#[]⟩
theorem formOf_row {k : Nat} (h : k < tab.length) : formOf k = formName tab[k].f := by
  unfold formOf
  rw [if_pos (Int.natCast_nonneg k), Int.toNat_natCast, List.getElem?_eq_getElem h]
theorem formOf_no {op : Int} (h : op < 0 ∨ 69 ≤ op) : formOf op = ⟨#[]⟩ := by
  unfold formOf
  split
  · rw [List.getElem?_eq_none (by rw [tab_len]; omega)]
  · rfl
theorem form_slot {f : Int} (h : 0 ≤ f ∧ f < 19) : (formNames.map Value.string)[0 + f.toNat * 1]? = some (.string (formName f)) := by
  have hl : f.toNat < formNames.length := by show f.toNat < 19; omega
  rw [Nat.zero_add, Nat.mul_one, List.getElem?_map, List.getElem?_eq_getElem hl, formName, List.getD_eq_getElem?_getD, List.getElem?_eq_getElem hl]
  rfl
attribute [irreducible] tab
end Go.Z

set_option linter.unusedSimpArgs false
set_option linter.unusedVariables false
namespace Go.Z
def oneM (i : Ins) : Mic :=
  if formOf i.op = ⟨#[83, 72]⟩ then ⟨kindOf i.op, i.rd, i.rt, 32, i.sa % 4294967296, 0⟩
  else if formOf i.op = ⟨#[83, 86]⟩ then ⟨kindOf i.op, i.rd, i.rt, i.rs, 0, 0⟩
  else if formOf i.op = ⟨#[73]⟩ ∨ formOf i.op = ⟨#[73, 85]⟩ then ⟨kindOf i.op, i.rt, i.rs, 32, i.imm % 4294967296, 0⟩
  else if formOf i.op = ⟨#[76, 85, 73]⟩ then ⟨kindOf i.op, i.rt, 0, 0, i.imm % 4294967296 * 65536 % 4294967296, 0⟩
  else ⟨kindOf i.op, i.rd, i.rs, i.rt, 0, 0⟩
def oneOf (i : Ins) : Mic := if (oneM i).d = 0 then ⟨0, 0, 0, 0, 0, 0⟩ else oneM i
theorem oneSH {i : Ins} (h : formOf i.op = ⟨#[83, 72]⟩) : oneM i = ⟨kindOf i.op, i.rd, i.rt, 32, i.sa % 4294967296, 0⟩ := if_pos h
theorem oneSV {i : Ins} (h0 : ¬ formOf i.op = ⟨#[83, 72]⟩) (h : formOf i.op = ⟨#[83, 86]⟩) : oneM i = ⟨kindOf i.op, i.rd, i.rt, i.rs, 0, 0⟩ := by rw [oneM, if_neg h0, if_pos h]
theorem oneI {i : Ins} (h0 : ¬ formOf i.op = ⟨#[83, 72]⟩) (h1 : ¬ formOf i.op = ⟨#[83, 86]⟩) (h : formOf i.op = ⟨#[73]⟩ ∨ formOf i.op = ⟨#[73, 85]⟩) : oneM i = ⟨kindOf i.op, i.rt, i.rs, 32, i.imm % 4294967296, 0⟩ := by
  rw [oneM, if_neg h0, if_neg h1, if_pos h]
theorem oneL {i : Ins} (h0 : ¬ formOf i.op = ⟨#[83, 72]⟩) (h1 : ¬ formOf i.op = ⟨#[83, 86]⟩) (h2 : ¬ (formOf i.op = ⟨#[73]⟩ ∨ formOf i.op = ⟨#[73, 85]⟩)) (h : formOf i.op = ⟨#[76, 85, 73]⟩) :
    oneM i = ⟨kindOf i.op, i.rt, 0, 0, i.imm % 4294967296 * 65536 % 4294967296, 0⟩ := by rw [oneM, if_neg h0, if_neg h1, if_neg h2, if_pos h]
theorem oneR {i : Ins} (h0 : ¬ formOf i.op = ⟨#[83, 72]⟩) (h1 : ¬ formOf i.op = ⟨#[83, 86]⟩) (h2 : ¬ (formOf i.op = ⟨#[73]⟩ ∨ formOf i.op = ⟨#[73, 85]⟩)) (h : ¬ formOf i.op = ⟨#[76, 85, 73]⟩) :
    oneM i = ⟨kindOf i.op, i.rd, i.rs, i.rt, 0, 0⟩ := by rw [oneM, if_neg h0, if_neg h1, if_neg h2, if_neg h]
theorem one_no {i : Ins} {m : Mic} (hm : oneM i = m) (hd : m.d = 0) : oneOf i = ⟨0, 0, 0, 0, 0, 0⟩ := by rw [oneOf, if_pos (by rw [hm]; exact hd)]
theorem one_yes {i : Ins} {m : Mic} (hm : oneM i = m) (hd : ¬ m.d = 0) : oneOf i = m := by rw [oneOf, if_neg (by rw [hm]; exact hd), hm]
end Go.Z

set_option linter.unusedSimpArgs false
set_option linter.unusedVariables false
namespace Go.X
open Go.Y
open Go.Z (U32 tab formOf formName formNames)
def tabT : List Tbl := tab.map fun r => ⟨r.nm.data.toList, r.f, r.M, r.m⟩
def formsT : List (List UInt8) := formNames.map fun x => x.data.toList
def formL (op : Int) : List UInt8 := (formOf op).data.toList
theorem tabT_get {k : Nat} (h : k < tab.length) (d : Tbl) : tabT.getD k d = ⟨tab[k].nm.data.toList, tab[k].f, tab[k].M, tab[k].m⟩ := by
  rw [List.getD_eq_getElem?_getD, tabT, List.getElem?_map, List.getElem?_eq_getElem h]
  rfl
theorem formsT_get {f : Int} (h : 0 ≤ f ∧ f < 19) (d : List UInt8) : formsT.getD f.toNat d = (formName f).data.toList := by
  have hl : f.toNat < formNames.length := by show f.toNat < 19; omega
  rw [List.getD_eq_getElem?_getD, formsT, List.getElem?_map, List.getElem?_eq_getElem hl, formName, List.getD_eq_getElem?_getD, List.getElem?_eq_getElem hl]
  rfl
theorem tabT_len : tabT.length = 69 := by rw [tabT, List.length_map, Z.tab_len]
theorem formsT_len : formsT.length = 19 := rfl
theorem formL_eq {op : Int} {b : ByteArray} : formL op = b.data.toList ↔ formOf op = b := by
  unfold formL
  refine ⟨fun h => ?_, fun h => by rw [h]⟩
  have h1 := Array.toList_inj.1 h
  cases hf : formOf op with
  | mk x => cases b with
    | mk y =>
      rw [hf] at h1
      exact congrArg ByteArray.mk h1
/-- what Decode hands back -/
def decI (w : Int) : Z.Ins := match Z.decOf w with
  | some k => Z.insOf w k
  | none => ⟨0, 0, 0, 0, 0, 0⟩
def decE (w : Int) : Int := match Z.decOf w with
  | some _ => 0
  | none => 40
def decB (w : Int) : Bool := (Z.decOf w).isSome
end Go.X

set_option linter.unusedSimpArgs false
set_option linter.unusedVariables false
namespace Go.X
open Go.Y
def okW (w : Int) : Bool := decide (decE w = 0) && !decide (Z.kindOf (decI w).op = 0)
def micW (w : Int) (n : Int) : Mic := ⟨(Z.oneOf (decI w)).k, (Z.oneOf (decI w)).d, (Z.oneOf (decI w)).a, (Z.oneOf (decI w)).b, (Z.oneOf (decI w)).i, n⟩
def micsW (n : Int) : List Int → List Mic
  | [] => []
  | w :: r => micW w (n + 1) :: micsW (n + 1) r
def trOf (l : List Int) : List Mic := micsW 0 ((l.take 16).takeWhile okW)
theorem micsW_len : ∀ (l : List Int) (n : Int), (micsW n l).length = l.length
  | [], _ => rfl
  | _ :: r, n => by simp [micsW, micsW_len r]
theorem micsW_snoc : ∀ (l : List Int) (n : Int) (w : Int), micsW n (l ++ [w]) = micsW n l ++ [micW w (n + l.length + 1)]
  | [], n, w => by simp [micsW]
  | x :: r, n, w => by
    simp only [List.cons_append, micsW, micsW_snoc r, List.length_cons]
    rw [show n + 1 + (r.length : Int) + 1 = n + ((r.length + 1 : Nat) : Int) + 1 by omega]
theorem while_take : ∀ {l : List Int} {s : Nat}, (∀ j, j < s → okW (l.getD j 0) = true) → s ≤ l.length → (s = l.length ∨ okW (l.getD s 0) = false) → l.takeWhile okW = l.take s
  | [], s, _, h, _ => by simp
  | x :: r, 0, _, _, h => by
    rcases h with h | h
    · simp at h
    · simp at h; simp [List.takeWhile_cons, h]
  | x :: r, s + 1, hj, hs, h => by
    have h0 := hj 0 (by omega)
    simp at h0
    rw [List.takeWhile_cons, h0, List.take_succ_cons]
    simp only [if_true]
    rw [while_take (l := r) (s := s) (fun j hjs => by simpa using hj (j + 1) (by omega)) (by simpa using hs) (by simpa using h)]
theorem mics_step {s : List Int} {k : Nat} (h : k < s.length) : micsW 0 (s.take (k + 1)) = micsW 0 (s.take k) ++ [micW (s.getD k 0) ((k : Int) + 1)] := by
  rw [List.take_succ_eq_append_getElem h, micsW_snoc, List.length_take, Nat.min_eq_left (Nat.le_of_lt h), List.getD_eq_getElem?_getD, List.getElem?_eq_getElem h]
  simp
def TrI (s : List Int) (k : Nat) : Option (Nat × List Mic) → Prop
  | none => k = 0
  | some (cq, q) => 0 < k ∧ k ≤ cq ∧ q.length = cq ∧ q.take k = micsW 0 (s.take k)
def trM (s : List Int) : List Mic := micsW 0 (s.takeWhile okW)
theorem trM_len {s : List Int} {k : Nat} (hj : ∀ j, j < k → okW (s.getD j 0) = true) (hs : k ≤ s.length) (h : k = s.length ∨ okW (s.getD k 0) = false) : (trM s).length = k ∧ trM s = micsW 0 (s.take k) := by
  have hw := while_take hj hs h
  unfold trM
  rw [hw, micsW_len, List.length_take]
  exact ⟨by omega, rfl⟩
theorem ok_step {s : List Int} {k : Nat} (hj : ∀ j, j < k → okW (s.getD j 0) = true) (h : okW (s.getD k 0) = true) : ∀ j, j < k + 1 → okW (s.getD j 0) = true := fun j hk => by
  by_cases hjk : j = k
  · rw [hjk]; exact h
  · exact hj j (by omega)
theorem sub_getD {α : Type} {l : List α} {o n k : Nat} (d : α) (h : o + n ≤ l.length) (hk : k < n) : (sub l o n).getD k d = l.getD (o + k) d := by
  rw [sub_get h hk, List.getD_eq_getElem?_getD, List.getElem?_eq_getElem (by rw [sub_len h]; exact hk)]
  rfl
theorem okW_bif (w : Int) : (bif !decide (decE w = 0) then true else decide (Z.kindOf (decI w).op = 0)) = !okW w := by
  unfold okW
  cases decide (decE w = 0) <;> simp
theorem micW_mk (w : Int) (k : Nat) (h : k < 65536) : Mic.mk (Z.Mic.k (Z.oneOf (decI w))) (Z.Mic.d (Z.oneOf (decI w))) (Z.Mic.a (Z.oneOf (decI w))) (Z.Mic.b (Z.oneOf (decI w))) (Z.Mic.i (Z.oneOf (decI w))) (IntKind.i64.wrap ((k : Int) + 1)) = micW w ((k : Int) + 1) := by
  rw [Z.wI64 (by omega)]; rfl
theorem sub_min {α : Type} (l : List α) (o n k : Nat) : sub l o (min k n) = (sub l o n).take k := by
  rw [sub, sub, List.take_take]
theorem toNat_min (n : Nat) : Int.toNat (if (16 : Int) < (n : Int) then 16 else (n : Int)) = min 16 n := by split <;> omega
theorem mic_eq (x y : Mic) : (decide (x.k = y.k) && (decide (x.d = y.d) && (decide (x.a = y.a) && (decide (x.b = y.b) && (decide (x.i = y.i) && decide (x.c = y.c)))))) = decide (x = y) := by
  cases x; cases y
  rw [Bool.eq_iff_iff]
  simp
theorem does_fit {m : Mic} {r : List Int} {a b : Int} (hf : fitsP m) (hk : m.k ≠ 0) (ha : (m.a < 32 → a = r.getD m.a.toNat 0) ∧ (¬ m.a < 32 → a = m.i)) (hb : (m.b < 32 → b = r.getD m.b.toNat 0) ∧ (¬ m.b < 32 → b = m.i)) :
    r.set m.d.toNat (Z.valOf m.k a b m.i) = doesOf m r := by
  obtain ⟨-, -, -, -, -, -, h, -⟩ := hf
  obtain ⟨h1, h2, h3, h4, h5, h6⟩ := h hk
  have hv : ∀ n x : Int, 0 ≤ n → n ≤ 32 → (n < 32 → x = r.getD n.toNat 0) ∧ (¬ n < 32 → x = m.i) → x = valueOf m.i n r := fun n x h0 h9 hx => by
    unfold valueOf
    by_cases hn : n = 32
    · rw [if_pos hn]; exact hx.2 (by omega)
    · rw [if_neg hn, hx.1 (by omega), Int.emod_eq_of_lt h0 (by omega)]; rfl
  rw [doesOf, if_pos ⟨hk, by omega⟩, Int.emod_eq_of_lt (by omega) (by omega), ← hv m.a a h3 h4 ha, ← hv m.b b h5 h6 hb]
theorem until_fit {n : Int} {m : Mic} {r : List Int} {a b : Int} (hf : fitsP m) (hs : ¬ (m.k = 0 ∨ n < m.c)) (ha : (m.a < 32 → a = r.getD m.a.toNat 0) ∧ (¬ m.a < 32 → a = m.i)) (hb : (m.b < 32 → b = r.getD m.b.toNat 0) ∧ (¬ m.b < 32 → b = m.i)) :
    r.set m.d.toNat (Z.valOf m.k a b m.i) = if m.c ≤ n then doesOf m r else r := by
  rw [if_pos (by omega), does_fit hf (by omega) ha hb]
theorem until_skip {n : Int} {m : Mic} {r : List Int} (hs : m.k = 0 ∨ n < m.c) : r = if m.c ≤ n then doesOf m r else r := by
  split
  · rw [doesOf, if_neg (by omega)]
  · rfl
theorem regs_getD {r : List Int} (h : Z.Regs r) {i : Int} (hi : 0 ≤ i ∧ i < 32) : Z.U32 (r.getD i.toNat 0) := h.get hi
end Go.X

set_option linter.unusedSimpArgs false
set_option linter.unusedVariables false
namespace Go.X
open Go.Y
open Go.Z (U32 Regs rg)
theorem toNat_min20 (n : Nat) : Int.toNat (if (20 : Int) < (n : Int) then 20 else (n : Int)) = min 20 n := by split <;> omega
theorem toNat_min16 (n : Nat) : Int.toNat (if (16 : Int) < (n : Int) then 16 else (n : Int)) = min 16 n := by split <;> omega
theorem may_fits {l : List Mic} (h : mayOf l = true) : ∀ m ∈ l, fitsP m := by
  unfold mayOf at h
  rw [Bool.and_eq_true] at h
  exact mayL_fits h.1
theorem until_all {n : Int} : ∀ {l : List Mic} {r : List Int}, (∀ m ∈ l, m.c ≤ n) → untilOf n l r = runOf l r
  | [], _, _ => rfl
  | m :: l, r, h => by
    show untilOf n l (if m.c ≤ n then doesOf m r else r) = runOf l (doesOf m r)
    rw [if_pos (h m List.mem_cons_self)]
    exact until_all fun x hx => h x (List.mem_cons_of_mem _ hx)
theorem until_may {l : List Mic} {r : List Int} (h : mayOf l = true) : untilOf 16 l r = runOf l r := until_all fun m hm => (may_fits h m hm).2.2.2.1
/-- which registers are known -/
def knS (m : Mic) (K : List Bool) : List Bool := if m.k = 0 then K else K.set m.d.toNat (decide (m.k = 1) || (K.getD m.a.toNat false && (decide (m.k = 2) || K.getD m.b.toNat false)))
def knOf (l : List Mic) (K : List Bool) : List Bool := l.foldl (fun K m => knS m K) K
theorem knOf_snoc (l : List Mic) (m : Mic) (K : List Bool) : knOf (l ++ [m]) K = knS m (knOf l K) := by simp [knOf]
theorem knS_len (m : Mic) (K : List Bool) : (knS m K).length = K.length := by unfold knS; split <;> simp
theorem knOf_len : ∀ (l : List Mic) (K : List Bool), (knOf l K).length = K.length
  | [], _ => rfl
  | m :: l, K => (knOf_len l (knS m K)).trans (knS_len m K)
theorem getD_set {α : Type} (l : List α) (i j : Nat) (x d : α) : (l.set i x).getD j d = if i = j ∧ j < l.length then x else l.getD j d := by
  simp only [List.getD_eq_getElem?_getD, List.getElem?_set]
  by_cases h1 : i = j
  · subst h1
    by_cases h2 : i < l.length
    · simp [h2]
    · simp [h2]
  · simp [h1]
theorem doesOf_len (m : Mic) (r : List Int) : (doesOf m r).length = r.length := by unfold doesOf; split <;> simp
theorem doesOf_get {m : Mic} {r : List Int} (hr : r.length = 32) (n : Nat) (hn : n < 32) : (doesOf m r).getD n 0 = if m.k ≠ 0 ∧ n ≠ 0 ∧ (n : Int) = m.d % 32 then Z.valOf m.k (valueOf m.i m.a r) (valueOf m.i m.b r) m.i else r.getD n 0 := by
  unfold doesOf
  by_cases h : m.k ≠ 0 ∧ m.d % 32 ≠ 0
  · rw [if_pos h, getD_set]
    by_cases h1 : (n : Int) = m.d % 32
    · rw [if_pos (by omega), if_pos (by omega)]
    · rw [if_neg (by omega), if_neg (by omega)]
  · rw [if_neg h, if_neg (by omega)]
theorem kn_step {m : Mic} {K : List Bool} {r s : List Int} (hf : fitsP m) (hK : K.length = 33) (hr : r.length = 32) (hs : s.length = 32) (h : ∀ n, n < 32 → K.getD n false = true → r.getD n 0 = s.getD n 0) :
    ∀ n, n < 32 → (knS m K).getD n false = true → (doesOf m r).getD n 0 = (doesOf m s).getD n 0 := by
  intro n hn hk
  rw [doesOf_get hr n hn, doesOf_get hs n hn]
  obtain ⟨-, -, -, -, -, -, hd, -⟩ := hf
  by_cases h0 : m.k = 0
  · rw [if_neg (fun c => c.1 h0), if_neg (fun c => c.1 h0)]
    rw [knS, if_pos h0] at hk
    exact h n hn hk
  · obtain ⟨d1, d2, a1, a2, b1, b2⟩ := hd h0
    rw [knS, if_neg h0, getD_set] at hk
    have e : m.d % 32 = m.d := Int.emod_eq_of_lt (by omega) (by omega)
    by_cases h1 : (n : Int) = m.d
    · rw [if_pos ⟨by omega, by rw [hK]; omega⟩] at hk
      rw [if_pos ⟨h0, by omega, by omega⟩, if_pos ⟨h0, by omega, by omega⟩]
      have hv : ∀ x : Int, 0 ≤ x → x ≤ 32 → K.getD x.toNat false = true → valueOf m.i x r = valueOf m.i x s := fun x x1 x2 hx => by
        unfold valueOf
        split
        · rfl
        · rename_i hne
          unfold Z.rg
          rw [Int.emod_eq_of_lt x1 (by omega)]
          exact h _ (by omega) hx
      simp only [Bool.or_eq_true, Bool.and_eq_true, decide_eq_true_eq] at hk
      rcases hk with hk | ⟨hk1, hk2 | hk2⟩
      · rw [hk]; rfl
      · rw [hk2]; exact hv _ a1 a2 hk1
      · rw [hv _ a1 a2 hk1, hv _ b1 b2 hk2]
    · rw [if_neg (by omega)] at hk
      rw [if_neg (by omega), if_neg (by omega)]
      exact h n hn hk
theorem runOf_len : ∀ (l : List Mic) (r : List Int), (runOf l r).length = r.length
  | [], _ => rfl
  | m :: l, r => (runOf_len l (doesOf m r)).trans (doesOf_len m r)
theorem kn_run : ∀ {l : List Mic} {K : List Bool} {r s : List Int}, (∀ m ∈ l, fitsP m) → K.length = 33 → r.length = 32 → s.length = 32 → (∀ n, n < 32 → K.getD n false = true → r.getD n 0 = s.getD n 0) →
    ∀ n, n < 32 → (knOf l K).getD n false = true → (runOf l r).getD n 0 = (runOf l s).getD n 0
  | [], _, _, _, _, _, _, _, h => h
  | m :: l, K, r, s, hf, hK, hr, hs, h => kn_run (l := l) (fun x hx => hf x (List.mem_cons_of_mem _ hx)) (by rw [knS_len, hK]) (by rw [doesOf_len, hr]) (by rw [doesOf_len, hs]) (kn_step (hf m List.mem_cons_self) hK hr hs h)
theorem run_zero : ∀ {l : List Mic} {r : List Int}, r.length = 32 → (runOf l r).getD 0 0 = r.getD 0 0
  | [], _, _ => rfl
  | m :: l, r, hr => (run_zero (l := l) (by rw [doesOf_len, hr])).trans (by rw [doesOf_get hr 0 (by omega), if_neg (fun c => c.2.1 rfl)])
theorem trM_le (s : List Int) : (trM s).length ≤ s.length := by
  unfold trM
  rw [micsW_len]
  exact (List.takeWhile_sublist _).length_le
theorem min_min16 (n : Nat) : min 16 (min 16 n) = min 16 n := by omega
theorem take_min16 (l : List Int) (o n : Nat) : ((sub l o (min 16 n)).take 16) = (sub l o n).take 16 := by rw [sub_min, List.take_take, Nat.min_self]
theorem micsW_c : ∀ (l : List Int) (n : Int) (j : Nat), j < l.length → ((micsW n l).getD j ⟨0, 0, 0, 0, 0, 0⟩).c = n + (j : Int) + 1
  | [], _, _, h => by simp at h
  | w :: r, n, 0, _ => by simp [micsW, micW]
  | w :: r, n, j + 1, h => by
    have := micsW_c r (n + 1) j (by simpa using h)
    simp only [micsW, List.getD_cons_succ]
    rw [this]; omega
theorem trM_c {s : List Int} {j : Nat} (h : j < (trM s).length) : ((trM s).getD j ⟨0, 0, 0, 0, 0, 0⟩).c = (j : Int) + 1 := by
  unfold trM at h ⊢
  rw [micsW_len] at h
  rw [micsW_c _ _ _ h]; omega
theorem run_app (a b : List Mic) (r : List Int) : runOf (a ++ b) r = runOf b (runOf a r) := by simp [runOf]
theorem run_set0 {l : List Mic} {r : List Int} (hr : r.length = 32) (h0 : r.getD 0 0 = 0) : (runOf l r).set 0 0 = runOf l r := by
  have h := run_zero (l := l) hr
  rw [h0] at h
  have hl : 0 < (runOf l r).length := by rw [runOf_len, hr]; omega
  rw [List.getD_eq_getElem?_getD, List.getElem?_eq_getElem hl] at h
  have h : (runOf l r)[0] = 0 := h
  apply List.ext_getElem?
  intro i
  rw [List.getElem?_set]
  split
  · rename_i hi
    subst hi
    first | rw [if_pos hl, List.getElem?_eq_getElem hl, h] | rw [List.getElem?_eq_getElem hl, h]
  · rfl
theorem until_low {n : Int} : ∀ {l : List Mic} {r : List Int}, (∀ m ∈ l, n < m.c) → untilOf n l r = r
  | [], _, _ => rfl
  | m :: l, r, h => by
    show untilOf n l (if m.c ≤ n then doesOf m r else r) = r
    rw [if_neg (by have := h m List.mem_cons_self; omega)]
    exact until_low fun x hx => h x (List.mem_cons_of_mem _ hx)
theorem until_take {l : List Mic} {r : List Int} (hc : ∀ j, j < l.length → (l.getD j ⟨0, 0, 0, 0, 0, 0⟩).c = (j : Int) + 1) {k : Nat} (hk : k ≤ l.length) : untilOf (k : Int) l r = runOf (l.take k) r := by
  have h1 : ∀ m ∈ l.take k, m.c ≤ (k : Int) := fun m hm => by
    obtain ⟨j, hj, rfl⟩ := List.getElem_of_mem hm
    have hj' : j < k ∧ j < l.length := by rw [List.length_take] at hj; omega
    have := hc j hj'.2
    rw [List.getD_eq_getElem?_getD, List.getElem?_eq_getElem hj'.2] at this
    simp only [Option.getD_some] at this
    rw [List.getElem_take, this]; omega
  have h2 : ∀ m ∈ l.drop k, (k : Int) < m.c := fun m hm => by
    obtain ⟨j, hj, rfl⟩ := List.getElem_of_mem hm
    have hj' : k + j < l.length := by have : j < l.length - k := by simpa using hj
                                      omega
    have := hc (k + j) hj'
    rw [List.getD_eq_getElem?_getD, List.getElem?_eq_getElem hj'] at this
    simp only [Option.getD_some] at this
    rw [List.getElem_drop, this]; omega
  have e : untilOf (k : Int) l r = untilOf (k : Int) (l.drop k) (untilOf (k : Int) (l.take k) r) := by
    conv => lhs; rw [← List.take_append_drop k l]
    exact List.foldl_append
  rw [e, until_low h2, until_all h1]
theorem micW_u32 (w : Int) (n : Int) : Z.U32 (micW w n).i   := by
  show Z.U32 (Z.oneOf (decI w)).i
  unfold Z.oneOf
  split
  · exact Z.u32_0
  · unfold Z.oneM
    repeat' split
    all_goals first | exact Z.u32_0 | exact Z.mod_u32 _
theorem micsW_u32 : ∀ (l : List Int) (n : Int), ∀ m ∈ micsW n l, Z.U32 m.i
  | [], _, m, hm => by cases hm
  | w :: r, n, m, hm => by
    simp only [micsW, List.mem_cons] at hm
    rcases hm with rfl | hm
    · exact micW_u32 w _
    · exact micsW_u32 r _ m hm
theorem trM_u32 (s : List Int) : ∀ m ∈ trM s, Z.U32 m.i := micsW_u32 _ _
end Go.X

set_option linter.unusedSimpArgs false
set_option linter.unusedVariables false
namespace Go.X
open Go.Y
open Go.Z (U32 tab formOf formName)
def nameL (op : Int) : List UInt8 := if 0 ≤ op ∧ op < 69 then ((tab[op.toNat]?.map fun r => r.nm.data.toList).getD []) else []
def majO (op : Int) : Int := if 0 ≤ op ∧ op < 69 then ((tab[op.toNat]?.map fun r => r.M).getD 0) else 0
def minO (op : Int) : Int := if 0 ≤ op ∧ op < 69 then ((tab[op.toNat]?.map fun r => r.m).getD 0) else 0
theorem nameL_no {op : Int} (h : ¬ (0 ≤ op ∧ op < 69)) : nameL op = [] := if_neg h
theorem majO_no {op : Int} (h : ¬ (0 ≤ op ∧ op < 69)) : majO op = 0 := if_neg h
theorem minO_no {op : Int} (h : ¬ (0 ≤ op ∧ op < 69)) : minO op = 0 := if_neg h
theorem formL_no {op : Int} (h : ¬ (0 ≤ op ∧ op < 69)) : formL op = [] := by rw [formL, Z.formOf_no (by omega)]
theorem nameL_row {k : Nat} (h : k < tab.length) : nameL k = tab[k].nm.data.toList := by
  have : k < 69 := by rw [Z.tab_len] at h; exact h
  rw [nameL, if_pos (by omega), Int.toNat_natCast, List.getElem?_eq_getElem h]; rfl
theorem majO_row {k : Nat} (h : k < tab.length) : majO k = tab[k].M := by
  have : k < 69 := by rw [Z.tab_len] at h; exact h
  rw [majO, if_pos (by omega), Int.toNat_natCast, List.getElem?_eq_getElem h]; rfl
theorem minO_row {k : Nat} (h : k < tab.length) : minO k = tab[k].m := by
  have : k < 69 := by rw [Z.tab_len] at h; exact h
  rw [minO, if_pos (by omega), Int.toNat_natCast, List.getElem?_eq_getElem h]; rfl
theorem formL_row {k : Nat} (h : k < tab.length) : formL k = (formName tab[k].f).data.toList := by rw [formL, Z.formOf_row h]
def fO (op : Int) : Int := if 0 ≤ op ∧ op < 69 then ((tab[op.toNat]?.map fun r => r.f).getD 0) else 0
theorem fO_row {k : Nat} (h : k < tab.length) : fO k = tab[k].f := by
  have : k < 69 := by rw [Z.tab_len] at h; exact h
  rw [fO, if_pos (by omega), Int.toNat_natCast, List.getElem?_eq_getElem h]; rfl
theorem names_ok : tab.all (fun r => !r.nm.data.toList.isEmpty) = true := by kernel_rfl
theorem op_ok {op : Int} (h : 0 ≤ op ∧ op < 69) : (0 ≤ fO op ∧ fO op < 19) ∧ (0 ≤ majO op ∧ majO op < 64) ∧ (0 ≤ minO op ∧ minO op < 64) ∧ (fO op = 10 ∨ fO op = 16 → minO op < 32) ∧ formL op = (formName (fO op)).data.toList ∧ nameL op ≠ [] := by
  obtain ⟨k, rfl⟩ : ∃ k : Nat, op = k := ⟨op.toNat, by omega⟩
  have hk : k < tab.length := by rw [Z.tab_len]; omega
  rw [fO_row hk, majO_row hk, minO_row hk, formL_row hk, nameL_row hk]
  obtain ⟨h1, h2, h3, h4⟩ := Z.row_ok hk
  refine ⟨h1, h2, h3, h4, rfl, fun he => ?_⟩
  have := List.all_eq_true.1 names_ok _ (List.getElem_mem hk)
  rw [he] at this
  cases this
/-- words and what is left of instructions, by their forms -/
def bareW (fo : List UInt8) (M m rs rt rd sa : Int) : Int :=
  if fo = [83, 72] then M * 67108864 + rt * 65536 + rd * 2048 + sa * 64 + m
  else if fo = [83, 86] ∨ fo = [82] then M * 67108864 + rs * 2097152 + rt * 65536 + rd * 2048 + m
  else if fo = [74, 82] ∨ fo = [77, 84] then M * 67108864 + rs * 2097152 + m
  else if fo = [74, 65, 76, 82] then M * 67108864 + rs * 2097152 + rd * 2048 + m
  else if fo = [67, 76] then M * 67108864 + rs * 2097152 + rd * 65536 + rd * 2048 + m
  else if fo = [77, 70] then M * 67108864 + rd * 2048 + m
  else if fo = [77, 68] then M * 67108864 + rs * 2097152 + rt * 65536 + m
  else if fo = [67, 79] then M * 67108864 + 16 * 2097152 + m
  else if fo = [67, 48] then M * 67108864 + m * 2097152 + rt * 65536 + rd * 2048
  else M * 67108864 + m
def restV (fo : List UInt8) (i : Z.Ins) : Z.Ins := ⟨0, if fo = [83, 86] ∨ fo = [82] ∨ fo = [74, 82] ∨ fo = [77, 84] ∨ fo = [74, 65, 76, 82] ∨ fo = [67, 76] ∨ fo = [77, 68] then 0 else i.rs, if fo = [83, 72] ∨ fo = [83, 86] ∨ fo = [82] ∨ fo = [77, 68] ∨ fo = [67, 48] then 0 else i.rt, if fo = [83, 72] ∨ fo = [83, 86] ∨ fo = [82] ∨ fo = [74, 65, 76, 82] ∨ fo = [67, 76] ∨ fo = [77, 70] ∨ fo = [67, 48] then 0 else i.rd, if fo = [83, 72] then 0 else i.sa, i.imm⟩
def kndN (q : List UInt8) : Int :=
  if q = [115, 108, 108] ∨ q = [115, 108, 108, 118] then 11
  else if q = [115, 114, 108] ∨ q = [115, 114, 108, 118] then 12
  else if q = [115, 114, 97] ∨ q = [115, 114, 97, 118] then 13
  else if q = [97, 100, 100, 117] ∨ q = [97, 100, 100, 105, 117] then 3
  else if q = [115, 117, 98, 117] then 4
  else if q = [97, 110, 100] ∨ q = [97, 110, 100, 105] then 5
  else if q = [111, 114] ∨ q = [111, 114, 105] then 6
  else if q = [120, 111, 114] ∨ q = [120, 111, 114, 105] then 7
  else if q = [110, 111, 114] then 8
  else if q = [115, 108, 116] ∨ q = [115, 108, 116, 105] then 9
  else if q = [115, 108, 116, 117] ∨ q = [115, 108, 116, 105, 117] then 10
  else if q = [108, 117, 105] then 1
  else -1
theorem kindOf_nn (op : Int) : 0 ≤ Z.kindOf op := by
  unfold Z.kindOf
  repeat' split
  all_goals decide
theorem takeOf_op (f op w : Int) : (Z.takeOf f op w).op = op := by
  by_cases h0 : f = 0
  · rw [Z.tk0 h0]
  by_cases h1 : f = 1 ∨ f = 4
  · rw [Z.tk1 h1]
  by_cases h2 : f = 2 ∨ f = 7
  · rw [Z.tk2 h2]
  by_cases h3 : f = 3 ∨ f = 9
  · rw [Z.tk3 h3]
  by_cases h4 : f = 6
  · rw [Z.tk4 h4]
  by_cases h5 : f = 8
  · rw [Z.tk5 h5]
  by_cases h6 : f = 10
  · rw [Z.tk6 h6]
  by_cases h7 : f = 11
  · rw [Z.tk7 h7]
  by_cases h8 : f = 12 ∨ f = 13 ∨ f = 18
  · rw [Z.tk8 h8]
  by_cases h9 : f = 14
  · rw [Z.tk9 h9]
  by_cases h10 : f = 15
  · rw [Z.tk10 h10]
  by_cases h11 : f = 16
  · rw [Z.tk11 h11]
  rw [Z.tk12 (by omega)]
theorem dec_op {w : Int} (h : decE w = 0) : 0 ≤ (decI w).op ∧ (decI w).op < 69 := by
  unfold decE at h
  unfold decI
  cases hd : Z.decOf w with
  | none => rw [hd] at h; cases h
  | some k =>
    have : k < 69 := by
      unfold Z.decOf at hd
      have := List.mem_of_find?_eq_some hd
      exact List.mem_range.1 this
    simp only [Z.insOf, takeOf_op]
    omega
theorem knd_all : (List.range 69).all (fun (k : Nat) => decide (kndN (nameL (k : Int)) = if Z.kindOf (k : Int) = 0 then -1 else Z.kindOf (k : Int))) = true := by kernel_rfl
theorem knd_op {op : Int} (h : 0 ≤ op ∧ op < 69) : kndN (nameL op) = if Z.kindOf op = 0 then -1 else Z.kindOf op := by
  obtain ⟨k, rfl⟩ : ∃ k : Nat, op = k := ⟨op.toNat, by omega⟩
  exact of_decide_eq_true (List.all_eq_true.1 knd_all k (List.mem_range.2 (by omega)))
theorem okR (w : Int) : (bif !decide (decE w = 0) then true else decide (kndN (nameL (decI w).op) < 0)) = !okW w := by
  unfold okW
  by_cases h : decE w = 0
  · have hk := knd_op (dec_op h)
    have hn := kindOf_nn (decI w).op
    rw [decide_eq_true h, hk]
    by_cases h0 : Z.kindOf (decI w).op = 0
    · simp [h0]
    · have : ¬ Z.kindOf (decI w).op < 0 := by omega
      simp [h0, this]
  · simp [h]
theorem okR_knd {w : Int} (h : okW w = true) : kndN (nameL (decI w).op) = Z.kindOf (decI w).op := by
  unfold okW at h
  simp only [Bool.and_eq_true, decide_eq_true_eq, Bool.not_eq_true', decide_eq_false_iff_not] at h
  rw [knd_op (dec_op h.1), if_neg h.2]
theorem mic_yes {w c k d a b i : Int} (hm : Z.oneM (decI w) = ⟨k, d, a, b, i, 0⟩) (hd : ¬ d = 0) : Mic.mk k d a b i c = micW w c := by
  rw [micW, Z.one_yes hm hd]
theorem mic_no {w c k d a b i : Int} (hm : Z.oneM (decI w) = ⟨k, d, a, b, i, 0⟩) (hd : d = 0) : Mic.mk 0 0 0 0 0 c = micW w c := by
  rw [micW, Z.one_no hm hd]
theorem frm {op : Int} (l : List UInt8) : formL op = l ↔ Z.formOf op = ⟨⟨l⟩⟩ := formL_eq (b := ⟨⟨l⟩⟩)
theorem one1 {i : Z.Ins} (h : formL i.op = [83, 72]) : Z.oneM i = ⟨Z.kindOf i.op, i.rd, i.rt, 32, i.sa % 4294967296, 0⟩ := Z.oneSH ((frm _).1 h)
theorem one2 {i : Z.Ins} (h0 : ¬ formL i.op = [83, 72]) (h : formL i.op = [83, 86]) : Z.oneM i = ⟨Z.kindOf i.op, i.rd, i.rt, i.rs, 0, 0⟩ := Z.oneSV (fun e => h0 ((frm _).2 e)) ((frm _).1 h)
theorem one3 {i : Z.Ins} (h0 : ¬ formL i.op = [83, 72]) (h1 : ¬ formL i.op = [83, 86]) (h : formL i.op = [73] ∨ formL i.op = [73, 85]) : Z.oneM i = ⟨Z.kindOf i.op, i.rt, i.rs, 32, i.imm % 4294967296, 0⟩ :=
  Z.oneI (fun e => h0 ((frm _).2 e)) (fun e => h1 ((frm _).2 e)) (h.imp (frm _).1 (frm _).1)
theorem one4 {i : Z.Ins} (h0 : ¬ formL i.op = [83, 72]) (h1 : ¬ formL i.op = [83, 86]) (h2 : ¬ (formL i.op = [73] ∨ formL i.op = [73, 85])) (h : formL i.op = [76, 85, 73]) : Z.oneM i = ⟨Z.kindOf i.op, i.rt, 0, 0, i.imm % 4294967296 * 65536 % 4294967296, 0⟩ :=
  Z.oneL (fun e => h0 ((frm _).2 e)) (fun e => h1 ((frm _).2 e)) (fun e => h2 (e.imp (frm _).2 (frm _).2)) ((frm _).1 h)
theorem one5 {i : Z.Ins} (h0 : ¬ formL i.op = [83, 72]) (h1 : ¬ formL i.op = [83, 86]) (h2 : ¬ (formL i.op = [73] ∨ formL i.op = [73, 85])) (h : ¬ formL i.op = [76, 85, 73]) : Z.oneM i = ⟨Z.kindOf i.op, i.rd, i.rs, i.rt, 0, 0⟩ :=
  Z.oneR (fun e => h0 ((frm _).2 e)) (fun e => h1 ((frm _).2 e)) (fun e => h2 (e.imp (frm _).2 (frm _).2)) (fun e => h ((frm _).2 e))
theorem lui_mod (x : Int) (h : -9223372036854775808 ≤ x * 65536 ∧ x * 65536 ≤ 9223372036854775807) : IntKind.i64.wrap (x * 65536) % 4294967296 = x % 4294967296 * 65536 % 4294967296 := by
  rw [Z.wI64 h, Int.mul_emod x 65536, Int.mul_emod (x % 4294967296) 65536, Int.emod_emod_of_dvd _ (Int.dvd_refl _)]
theorem takeOf_imm (f op w : Int) : -32768 ≤ (Z.takeOf f op w).imm ∧ (Z.takeOf f op w).imm ≤ 67108864 := by
  have hsg : -32768 ≤ Z.sign16 (w % 65536) ∧ Z.sign16 (w % 65536) < 32768 := by unfold Z.sign16; split <;> omega
  by_cases h0 : f = 0
  · rw [Z.tk0 h0]; dsimp only; omega
  by_cases h1 : f = 1 ∨ f = 4
  · rw [Z.tk1 h1]; dsimp only; omega
  by_cases h2 : f = 2 ∨ f = 7
  · rw [Z.tk2 h2]; dsimp only; omega
  by_cases h3 : f = 3 ∨ f = 9
  · rw [Z.tk3 h3]; dsimp only; omega
  by_cases h4 : f = 6
  · rw [Z.tk4 h4]; dsimp only; omega
  by_cases h5 : f = 8
  · rw [Z.tk5 h5]; dsimp only; omega
  by_cases h6 : f = 10
  · rw [Z.tk6 h6]; dsimp only; omega
  by_cases h7 : f = 11
  · rw [Z.tk7 h7]; dsimp only; omega
  by_cases h8 : f = 12 ∨ f = 13 ∨ f = 18
  · rw [Z.tk8 h8]; dsimp only; omega
  by_cases h9 : f = 14
  · rw [Z.tk9 h9]; dsimp only; omega
  by_cases h10 : f = 15
  · rw [Z.tk10 h10]; dsimp only; omega
  by_cases h11 : f = 16
  · rw [Z.tk11 h11]; dsimp only; omega
  rw [Z.tk12 (by omega)]; dsimp only; omega
theorem decI_imm (w : Int) : -32768 ≤ (decI w).imm ∧ (decI w).imm ≤ 67108864 := by
  unfold decI
  split
  · exact takeOf_imm _ _ _
  · exact ⟨by decide, by decide⟩
def isNil (q : List Mic) : Prop := q = []
end Go.X
