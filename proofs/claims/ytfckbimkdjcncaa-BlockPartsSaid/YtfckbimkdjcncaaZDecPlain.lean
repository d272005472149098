/- Words as instructions: the plain side. -/
import Derived.Test.YtfckbimkdjcncaaZNew
import Derived.KernelRfl
set_option linter.unusedSimpArgs false
set_option linter.unusedVariables false
namespace Go.Z
/-- an instruction -/
structure Ins where
  op : Int
  rs : Int
  rt : Int
  rd : Int
  sa : Int
  imm : Int
  deriving DecidableEq
def Ins.cells (i : Ins) : List Value := [.int .i64 i.op, .int .i64 i.rs, .int .i64 i.rt, .int .i64 i.rd, .int .i64 i.sa, .int .i64 i.imm]
def Ins.val (i : Ins) : Value := .agg i.cells.toArray
theorem Ins.inj {i j : Ins} : i.cells = j.cells ↔ i = j := by
  obtain ⟨a, b, c, d, e, f⟩ := i
  obtain ⟨a', b', c', d', e', f'⟩ := j
  simp [Ins.cells]
theorem Ins.fitsK (i : Ins) : FitsK [.i .i64, .i .i64, .i .i64, .i .i64, .i .i64, .i .i64] i.cells := ⟨⟨_, rfl⟩, ⟨_, rfl⟩, ⟨_, rfl⟩, ⟨_, rfl⟩, ⟨_, rfl⟩, ⟨_, rfl⟩, trivial⟩
/-- a row of the table -/
structure RowP where
  nm : ByteArray
  f : Int
  M : Int
  m : Int
def RowP.cells (r : RowP) : List Value := [.string r.nm, .int .i64 r.f, .int .u32 r.M, .int .u32 r.m]
def RowP.val (r : RowP) : Value := .agg r.cells.toArray
def tab : List RowP := [
  ⟨⟨#[115, 108, 108]⟩, 0, 0, 0⟩,
  ⟨⟨#[115, 114, 108]⟩, 0, 0, 2⟩,
  ⟨⟨#[115, 114, 97]⟩, 0, 0, 3⟩,
  ⟨⟨#[115, 108, 108, 118]⟩, 1, 0, 4⟩,
  ⟨⟨#[115, 114, 108, 118]⟩, 1, 0, 6⟩,
  ⟨⟨#[115, 114, 97, 118]⟩, 1, 0, 7⟩,
  ⟨⟨#[106, 114]⟩, 2, 0, 8⟩,
  ⟨⟨#[106, 97, 108, 114]⟩, 3, 0, 9⟩,
  ⟨⟨#[109, 111, 118, 122]⟩, 4, 0, 10⟩,
  ⟨⟨#[109, 111, 118, 110]⟩, 4, 0, 11⟩,
  ⟨⟨#[115, 121, 115, 99, 97, 108, 108]⟩, 5, 0, 12⟩,
  ⟨⟨#[98, 114, 101, 97, 107]⟩, 5, 0, 13⟩,
  ⟨⟨#[109, 102, 104, 105]⟩, 6, 0, 16⟩,
  ⟨⟨#[109, 116, 104, 105]⟩, 7, 0, 17⟩,
  ⟨⟨#[109, 102, 108, 111]⟩, 6, 0, 18⟩,
  ⟨⟨#[109, 116, 108, 111]⟩, 7, 0, 19⟩,
  ⟨⟨#[109, 117, 108, 116]⟩, 8, 0, 24⟩,
  ⟨⟨#[109, 117, 108, 116, 117]⟩, 8, 0, 25⟩,
  ⟨⟨#[100, 105, 118]⟩, 8, 0, 26⟩,
  ⟨⟨#[100, 105, 118, 117]⟩, 8, 0, 27⟩,
  ⟨⟨#[97, 100, 100]⟩, 4, 0, 32⟩,
  ⟨⟨#[97, 100, 100, 117]⟩, 4, 0, 33⟩,
  ⟨⟨#[115, 117, 98]⟩, 4, 0, 34⟩,
  ⟨⟨#[115, 117, 98, 117]⟩, 4, 0, 35⟩,
  ⟨⟨#[97, 110, 100]⟩, 4, 0, 36⟩,
  ⟨⟨#[111, 114]⟩, 4, 0, 37⟩,
  ⟨⟨#[120, 111, 114]⟩, 4, 0, 38⟩,
  ⟨⟨#[110, 111, 114]⟩, 4, 0, 39⟩,
  ⟨⟨#[115, 108, 116]⟩, 4, 0, 42⟩,
  ⟨⟨#[115, 108, 116, 117]⟩, 4, 0, 43⟩,
  ⟨⟨#[116, 101, 113]⟩, 8, 0, 52⟩,
  ⟨⟨#[116, 110, 101]⟩, 8, 0, 54⟩,
  ⟨⟨#[109, 117, 108]⟩, 4, 28, 2⟩,
  ⟨⟨#[99, 108, 122]⟩, 9, 28, 32⟩,
  ⟨⟨#[99, 108, 111]⟩, 9, 28, 33⟩,
  ⟨⟨#[98, 108, 116, 122]⟩, 10, 1, 0⟩,
  ⟨⟨#[98, 103, 101, 122]⟩, 10, 1, 1⟩,
  ⟨⟨#[98, 108, 116, 122, 97, 108]⟩, 10, 1, 16⟩,
  ⟨⟨#[98, 103, 101, 122, 97, 108]⟩, 10, 1, 17⟩,
  ⟨⟨#[106]⟩, 11, 2, 0⟩,
  ⟨⟨#[106, 97, 108]⟩, 11, 3, 0⟩,
  ⟨⟨#[98, 101, 113]⟩, 12, 4, 0⟩,
  ⟨⟨#[98, 110, 101]⟩, 12, 5, 0⟩,
  ⟨⟨#[98, 108, 101, 122]⟩, 10, 6, 0⟩,
  ⟨⟨#[98, 103, 116, 122]⟩, 10, 7, 0⟩,
  ⟨⟨#[97, 100, 100, 105]⟩, 13, 8, 0⟩,
  ⟨⟨#[97, 100, 100, 105, 117]⟩, 13, 9, 0⟩,
  ⟨⟨#[115, 108, 116, 105]⟩, 13, 10, 0⟩,
  ⟨⟨#[115, 108, 116, 105, 117]⟩, 13, 11, 0⟩,
  ⟨⟨#[97, 110, 100, 105]⟩, 14, 12, 0⟩,
  ⟨⟨#[111, 114, 105]⟩, 14, 13, 0⟩,
  ⟨⟨#[120, 111, 114, 105]⟩, 14, 14, 0⟩,
  ⟨⟨#[108, 117, 105]⟩, 15, 15, 0⟩,
  ⟨⟨#[109, 102, 99, 48]⟩, 16, 16, 0⟩,
  ⟨⟨#[109, 116, 99, 48]⟩, 16, 16, 4⟩,
  ⟨⟨#[116, 108, 98, 114]⟩, 17, 16, 1⟩,
  ⟨⟨#[116, 108, 98, 119, 105]⟩, 17, 16, 2⟩,
  ⟨⟨#[116, 108, 98, 112]⟩, 17, 16, 8⟩,
  ⟨⟨#[101, 114, 101, 116]⟩, 17, 16, 24⟩,
  ⟨⟨#[108, 98]⟩, 18, 32, 0⟩,
  ⟨⟨#[108, 104]⟩, 18, 33, 0⟩,
  ⟨⟨#[108, 119]⟩, 18, 35, 0⟩,
  ⟨⟨#[108, 98, 117]⟩, 18, 36, 0⟩,
  ⟨⟨#[108, 104, 117]⟩, 18, 37, 0⟩,
  ⟨⟨#[115, 98]⟩, 18, 40, 0⟩,
  ⟨⟨#[115, 104]⟩, 18, 41, 0⟩,
  ⟨⟨#[115, 119]⟩, 18, 43, 0⟩,
  ⟨⟨#[108, 108]⟩, 18, 48, 0⟩,
  ⟨⟨#[115, 99]⟩, 18, 56, 0⟩]
def tabCells : List Value := tab.flatMap RowP.cells
def RowP.ok (r : RowP) : Bool := decide (0 ≤ r.f) && (decide (r.f < 19) && (decide (0 ≤ r.M) && (decide (r.M < 64) && (decide (0 ≤ r.m) && (decide (r.m < 64) && (!(r.f == 10 || r.f == 16) || decide (r.m < 32)))))))
theorem tab_ok : tab.all RowP.ok = true := by decide
theorem tab_len : tab.length = 69 := rfl
/-- the fields of a word -/
structure Lay where
  rs : Int
  rt : Int
  rd : Int
  sa : Int
  minor : Int
  imm : Int
def Lay.cells (l : Lay) : List Value := [.int .u32 l.rs, .int .u32 l.rt, .int .u32 l.rd, .int .u32 l.sa, .int .u32 l.minor, .int .u32 l.imm]
def Lay.val (l : Lay) : Value := .agg l.cells.toArray
def layOf (f m : Int) (i : Ins) : Lay :=
  if f = 9 then ⟨i.rs % 32, i.rd % 32, i.rd % 32, 0, m, 0⟩
  else if f = 10 then ⟨i.rs % 32, m, 0, 0, 0, i.imm % 65536⟩
  else if f = 11 then ⟨0, 0, 0, 0, 0, i.imm % 67108864⟩
  else if f = 12 ∨ f = 13 ∨ f = 14 ∨ f = 15 ∨ f = 18 then ⟨i.rs % 32, i.rt % 32, 0, 0, 0, i.imm % 65536⟩
  else if f = 16 then ⟨m, i.rt % 32, i.rd % 32, 0, 0, 0⟩
  else if f = 17 then ⟨16, 0, 0, 0, m, 0⟩
  else ⟨i.rs % 32, i.rt % 32, i.rd % 32, i.sa % 32, m, 0⟩
def Lay.word (l : Lay) (M : Int) : Int := M * 67108864 + l.rs * 2097152 + l.rt * 65536 + l.rd * 2048 + l.sa * 64 + l.minor + l.imm
/-- fields that stand in nobody's way -/
def Lay.ok (l : Lay) : Prop := (0 ≤ l.rs ∧ l.rs < 32) ∧ (0 ≤ l.rt ∧ l.rt < 32) ∧ (0 ≤ l.rd ∧ l.rd < 32) ∧ (0 ≤ l.sa ∧ l.sa < 32) ∧ (0 ≤ l.minor ∧ l.minor < 64) ∧
  (l.imm = 0 ∨ (0 ≤ l.imm ∧ l.imm < 65536 ∧ l.rd = 0 ∧ l.sa = 0 ∧ l.minor = 0) ∨ (0 ≤ l.imm ∧ l.imm < 67108864 ∧ l.rs = 0 ∧ l.rt = 0 ∧ l.rd = 0 ∧ l.sa = 0 ∧ l.minor = 0))
theorem layOf_ok {f m : Int} {i : Ins} (hm : 0 ≤ m ∧ m < 64) (h : f = 10 ∨ f = 16 → m < 32) : (layOf f m i).ok := by
  unfold layOf
  (repeat' split) <;> refine ⟨?_, ?_, ?_, ?_, ?_, ?_⟩ <;> dsimp only <;> first | omega | exact .inl rfl | exact .inr (.inl (by omega)) | exact .inr (.inr (by omega))
def sign16 (x : Int) : Int := if x < 32768 then x else x - 65536
theorem wI16 {x : Int} (h : 0 ≤ x ∧ x < 65536) : IntKind.i16.wrap x = sign16 x := by
  unfold sign16
  simp only [IntKind.wrap, IntKind.bits, IntKind.signed]
  simp
  omega
def takeOf (f op w : Int) : Ins :=
  let rs := w / 2097152 % 32
  let rt := w / 65536 % 32
  let rd := w / 2048 % 32
  let sa := w / 64 % 32
  let imm := sign16 (w % 65536)
  if f = 0 then ⟨op, 0, rt, rd, sa, 0⟩
  else if f = 1 ∨ f = 4 then ⟨op, rs, rt, rd, 0, 0⟩
  else if f = 2 ∨ f = 7 then ⟨op, rs, 0, 0, 0, 0⟩
  else if f = 3 ∨ f = 9 then ⟨op, rs, 0, rd, 0, 0⟩
  else if f = 6 then ⟨op, 0, 0, rd, 0, 0⟩
  else if f = 8 then ⟨op, rs, rt, 0, 0, 0⟩
  else if f = 10 then ⟨op, rs, 0, 0, 0, imm⟩
  else if f = 11 then ⟨op, 0, 0, 0, 0, w % 67108864⟩
  else if f = 12 ∨ f = 13 ∨ f = 18 then ⟨op, rs, rt, 0, 0, imm⟩
  else if f = 14 then ⟨op, rs, rt, 0, 0, imm % 65536⟩
  else if f = 15 then ⟨op, 0, rt, 0, 0, imm % 65536⟩
  else if f = 16 then ⟨op, 0, rt, rd, 0, 0⟩
  else ⟨op, 0, 0, 0, 0, 0⟩
/-- is this op's word w? -/
def hit (w : Int) (k : Nat) : Bool := match tab[k]? with
  | none => false
  | some r => decide (r.M = w / 67108864) && decide ((layOf r.f r.m (takeOf r.f k w)).word r.M = w)
def decOf (w : Int) : Option Nat := (List.range 69).find? (hit w)
def insOf (w : Int) (k : Nat) : Ins := takeOf ((tab[k]?.map RowP.f).getD 0) k w
/-- what Decode hands back -/
def decVal (w : Int) : Value := match decOf w with
  | some k => .tuple #[(insOf w k).val, .int .i64 0]
  | none => .tuple #[(⟨0, 0, 0, 0, 0, 0⟩ : Ins).val, .int .i64 40]
theorem row_cells_len (r : RowP) : r.cells.length = 4 := rfl
theorem find_first {p : Nat → Bool} {n k : Nat} (hk : k < n) (hp : p k = true) (h : ∀ j, j < k → p j = false) : (List.range n).find? p = some k := by
  rw [List.find?_range_eq_some]
  exact ⟨hp, by simpa using hk, fun j hj => by simp [h j hj]⟩
theorem find_none {p : Nat → Bool} {n : Nat} (h : ∀ j, j < n → p j = false) : (List.range n).find? p = none := by
  rw [List.find?_eq_none]
  intro j hj
  simp [h j (List.mem_range.1 hj)]
theorem tabCells_len : tabCells.length = 276 := by kernel_rfl
theorem tab_take : (tabCells.drop 0).take 276 = tabCells := by rw [List.drop_zero, List.take_of_length_le (Nat.le_of_eq tabCells_len)]
theorem row_ok {k : Nat} (h : k < tab.length) : (0 ≤ tab[k].f ∧ tab[k].f < 19) ∧ (0 ≤ tab[k].M ∧ tab[k].M < 64) ∧ (0 ≤ tab[k].m ∧ tab[k].m < 64) ∧ (tab[k].f = 10 ∨ tab[k].f = 16 → tab[k].m < 32) := by
  have := List.all_eq_true.1 tab_ok _ (List.getElem_mem h)
  simp only [RowP.ok, Bool.and_eq_true, decide_eq_true_eq, Bool.or_eq_true, Bool.not_eq_true', Bool.or_eq_false_iff, beq_eq_false_iff_ne, ne_eq] at this
  omega
theorem row_drop {k : Nat} (h : k < tab.length) : (tabCells.drop (k * 4)).take 4 = tab[k].cells := flat_drop row_cells_len h
theorem hit_of {w : Int} {k : Nat} (h : k < tab.length) : hit w k = (decide (tab[k].M = w / 67108864) && decide ((layOf tab[k].f tab[k].m (takeOf tab[k].f k w)).word tab[k].M = w)) := by
  simp only [hit, List.getElem?_eq_getElem h]
theorem hit_no1 {w : Int} {k : Nat} (h : k < tab.length) (hM : ¬ tab[k].M = w / 67108864) : hit w k = false := by rw [hit_of h, decide_eq_false hM]; rfl
theorem hit_no2 {w : Int} {k : Nat} (h : k < tab.length) (hW : ¬ (layOf tab[k].f tab[k].m (takeOf tab[k].f k w)).word tab[k].M = w) : hit w k = false := by rw [hit_of h, decide_eq_false hW, Bool.and_false]
theorem dec_hit {w : Int} {k : Nat} (h : k < tab.length) (hf : ∀ j, j < k → hit w j = false) (hM : tab[k].M = w / 67108864) (hW : (layOf tab[k].f tab[k].m (takeOf tab[k].f k w)).word tab[k].M = w) :
    decVal w = .tuple #[(takeOf tab[k].f k w).val, .int .i64 0] := by
  have h1 : decOf w = some k := find_first (by rw [tab_len] at h; exact h) (by rw [hit_of h, decide_eq_true hM, decide_eq_true hW]; rfl) hf
  simp only [decVal, h1, insOf, List.getElem?_eq_getElem h, Option.map_some, Option.getD_some]
theorem dec_none {w : Int} (hf : ∀ j, j < 69 → hit w j = false) : decVal w = .tuple #[(⟨0, 0, 0, 0, 0, 0⟩ : Ins).val, .int .i64 40] := by
  have h1 : decOf w = none := find_none hf
  simp only [decVal, h1]
theorem miss_step {w : Int} {k : Nat} (hf : ∀ j, j < k → hit w j = false) (h : hit w k = false) : ∀ j, j < k + 1 → hit w j = false := fun j hj => by
  by_cases hjk : j = k
  · rw [hjk]; exact h
  · exact hf j (by omega)
theorem tk0 {f op w : Int} (h : f = 0) : takeOf f op w = ⟨op, 0, w / 65536 % 32, w / 2048 % 32, w / 64 % 32, 0⟩ := by
  subst h; rfl
theorem tk1 {f op w : Int} (h : f = 1 ∨ f = 4) : takeOf f op w = ⟨op, w / 2097152 % 32, w / 65536 % 32, w / 2048 % 32, 0, 0⟩ := by
  rcases h with rfl | rfl <;> rfl
theorem tk2 {f op w : Int} (h : f = 2 ∨ f = 7) : takeOf f op w = ⟨op, w / 2097152 % 32, 0, 0, 0, 0⟩ := by
  rcases h with rfl | rfl <;> rfl
theorem tk3 {f op w : Int} (h : f = 3 ∨ f = 9) : takeOf f op w = ⟨op, w / 2097152 % 32, 0, w / 2048 % 32, 0, 0⟩ := by
  rcases h with rfl | rfl <;> rfl
theorem tk4 {f op w : Int} (h : f = 6) : takeOf f op w = ⟨op, 0, 0, w / 2048 % 32, 0, 0⟩ := by
  subst h; rfl
theorem tk5 {f op w : Int} (h : f = 8) : takeOf f op w = ⟨op, w / 2097152 % 32, w / 65536 % 32, 0, 0, 0⟩ := by
  subst h; rfl
theorem tk6 {f op w : Int} (h : f = 10) : takeOf f op w = ⟨op, w / 2097152 % 32, 0, 0, 0, sign16 (w % 65536)⟩ := by
  subst h; rfl
theorem tk7 {f op w : Int} (h : f = 11) : takeOf f op w = ⟨op, 0, 0, 0, 0, w % 67108864⟩ := by
  subst h; rfl
theorem tk8 {f op w : Int} (h : f = 12 ∨ f = 13 ∨ f = 18) : takeOf f op w = ⟨op, w / 2097152 % 32, w / 65536 % 32, 0, 0, sign16 (w % 65536)⟩ := by
  rcases h with rfl | rfl | rfl <;> rfl
theorem tk9 {f op w : Int} (h : f = 14) : takeOf f op w = ⟨op, w / 2097152 % 32, w / 65536 % 32, 0, 0, sign16 (w % 65536) % 65536⟩ := by
  subst h; rfl
theorem tk10 {f op w : Int} (h : f = 15) : takeOf f op w = ⟨op, 0, w / 65536 % 32, 0, 0, sign16 (w % 65536) % 65536⟩ := by
  subst h; rfl
theorem tk11 {f op w : Int} (h : f = 16) : takeOf f op w = ⟨op, 0, w / 65536 % 32, w / 2048 % 32, 0, 0⟩ := by
  subst h; rfl
theorem tk12 {f op w : Int} (h : f ≠ 0 ∧ f ≠ 1 ∧ f ≠ 2 ∧ f ≠ 3 ∧ f ≠ 4 ∧ f ≠ 6 ∧ f ≠ 7 ∧ f ≠ 8 ∧ f ≠ 9 ∧ f ≠ 10 ∧ f ≠ 11 ∧ f ≠ 12 ∧ f ≠ 13 ∧ f ≠ 14 ∧ f ≠ 15 ∧ f ≠ 16 ∧ f ≠ 18) : takeOf f op w = ⟨op, 0, 0, 0, 0, 0⟩ := by
  unfold takeOf
  dsimp only
  rw [if_neg (by omega)]
  rw [if_neg (by omega)]
  rw [if_neg (by omega)]
  rw [if_neg (by omega)]
  rw [if_neg (by omega)]
  rw [if_neg (by omega)]
  rw [if_neg (by omega)]
  rw [if_neg (by omega)]
  rw [if_neg (by omega)]
  rw [if_neg (by omega)]
  rw [if_neg (by omega)]
  rw [if_neg (by omega)]
def formNames : List ByteArray := [⟨#[83, 72]⟩, ⟨#[83, 86]⟩, ⟨#[74, 82]⟩, ⟨#[74, 65, 76, 82]⟩, ⟨#[82]⟩, ⟨#[78]⟩, ⟨#[77, 70]⟩, ⟨#[77, 84]⟩, ⟨#[77, 68]⟩, ⟨#[67, 76]⟩, ⟨#[66, 90]⟩, ⟨#[74]⟩, ⟨#[66, 50]⟩, ⟨#[73]⟩, ⟨#[73, 85]⟩, ⟨#[76, 85, 73]⟩, ⟨#[67, 48]⟩, ⟨#[67, 79]⟩, ⟨#[77]⟩]
def formName (f : Int) : ByteArray := formNames.getD f.toNat ⟨#[]⟩
def formOf (op : Int) : ByteArray := if 0 ≤ op then (match tab[op.toNat]? with | some r => formName r.f | none => ⟨#[]⟩) else ⟨#[]⟩
theorem formOf_row {k : Nat} (h : k < tab.length) : formOf k = formName tab[k].f := by
  unfold formOf
  rw [if_pos (Int.natCast_nonneg k), Int.toNat_natCast, List.getElem?_eq_getElem h]
theorem formOf_no {op : Int} (h : op < 0 ∨ 69 ≤ op) : formOf op = ⟨#[]⟩ := by
  unfold formOf
  split
  · rw [List.getElem?_eq_none (by rw [tab_len]; omega)]
  · rfl
theorem form_slot {f : Int} (h : 0 ≤ f ∧ f < 19) : (formNames.map Value.string)[0 + f.toNat * 1]? = some (.string (formName f)) := by
  have hl : f.toNat < formNames.length := by show f.toNat < 19; omega
  rw [Nat.zero_add, Nat.mul_one, List.getElem?_map, List.getElem?_eq_getElem hl, formName, List.getD_eq_getElem?_getD, List.getElem?_eq_getElem hl]
  rfl
attribute [irreducible] tab
end Go.Z
