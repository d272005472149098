/- What the Block functions compute, in plain Lean, over the reckoner's forms. -/
import Derived.Test.YtfckbimkdjcncaaYSeat
import Derived.Test.YtfckbimkdjcncaaZBlkPlain
set_option linter.unusedSimpArgs false
set_option linter.unusedVariables false
namespace Go.X
open Go.Y
open Go.Z (U32 Regs rg kindOf lessOf shiftOf fillOf sg band bor bxor bnor bitsOf b01)
def valueOf (i : Int) (n : Int) (r : List Int) : Int := if n = 32 then i else rg r (n % 32)
def doesOf (m : Mic) (r : List Int) : List Int :=
  if m.k ≠ 0 ∧ m.d % 32 ≠ 0 then r.set (m.d % 32).toNat (Z.valOf m.k (valueOf m.i m.a r) (valueOf m.i m.b r) m.i) else r
theorem valueOf_u32 {i n : Int} {r : List Int} (hm : U32 i) (hr : Regs r) : U32 (valueOf i n r) := by
  unfold valueOf
  split
  · exact hm
  · exact hr.get (by omega)
theorem doesOf_regs {m : Mic} {r : List Int} (hm : U32 m.i) (hr : Regs r) : Regs (doesOf m r) := by
  unfold doesOf
  split
  · exact hr.set _ (Z.valOf_u32 (valueOf_u32 hm hr) (valueOf_u32 hm hr) hm)
  · exact hr
def runOf (l : List Mic) (r : List Int) : List Int := l.foldl (fun r m => doesOf m r) r
def untilOf (n : Int) (l : List Mic) (r : List Int) : List Int := l.foldl (fun r m => if m.c ≤ n then doesOf m r else r) r
theorem runOf_regs : ∀ {l : List Mic} {r : List Int}, (∀ m ∈ l, U32 m.i) → Regs r → Regs (runOf l r)
  | [], _, _, hr => hr
  | m :: l, _, hl, hr => runOf_regs (l := l) (fun x hx => hl x (List.mem_cons_of_mem _ hx)) (doesOf_regs (hl m List.mem_cons_self) hr)
theorem untilOf_regs {n : Int} : ∀ {l : List Mic} {r : List Int}, (∀ m ∈ l, U32 m.i) → Regs r → Regs (untilOf n l r)
  | [], _, _, hr => hr
  | m :: l, _, hl, hr => untilOf_regs (l := l) (fun x hx => hl x (List.mem_cons_of_mem _ hx)) (by
    show Regs (if m.c ≤ n then doesOf m _ else _)
    split
    · exact doesOf_regs (hl m List.mem_cons_self) hr
    · exact hr)
/-- a part of a row -/
def sub {α : Type} (l : List α) (o n : Nat) : List α := (l.drop o).take n
theorem sub_len {α : Type} {l : List α} {o n : Nat} (h : o + n ≤ l.length) : (sub l o n).length = n := by simp [sub]; omega
theorem sub_get {α : Type} {l : List α} {o n k : Nat} {d : α} (h : o + n ≤ l.length) (hk : k < n) : l.getD (o + k) d = (sub l o n)[k]'(by rw [sub_len h]; exact hk) := by
  simp only [sub, List.getElem_take, List.getElem_drop]
  rw [List.getD_eq_getElem?_getD, List.getElem?_eq_getElem (by omega)]
  rfl
theorem sub_step {α : Type} {l : List α} {o n k : Nat} {d : α} (h : o + n ≤ l.length) (hk : k < n) : (sub l o n).take (k + 1) = (sub l o n).take k ++ [l.getD (o + k) d] := by
  rw [sub_get h hk]
  exact List.take_succ_eq_append_getElem _
theorem sub_take {α : Type} {l : List α} {o n : Nat} (h : o + n ≤ l.length) : (sub l o n).take n = sub l o n := by rw [List.take_of_length_le (by rw [sub_len h]; exact Nat.le_refl _)]
theorem sub_mem {α : Type} {l : List α} {o n : Nat} {p : α → Prop} (hp : ∀ m ∈ sub l o n, p m) {k : Nat} {d : α} (h : o + n ≤ l.length) (hk : k < n) : p (l.getD (o + k) d) := by
  rw [sub_get h hk]
  exact hp _ (List.getElem_mem _)
theorem mem_takes {l : List Mic} {p : Mic → Prop} (h : ∀ m ∈ l, p m) (k : Nat) : ∀ m ∈ l.take k, p m := fun m hm => h m (List.mem_of_mem_take hm)
theorem runOf_snoc (l : List Mic) (m : Mic) (r : List Int) : runOf (l ++ [m]) r = doesOf m (runOf l r) := by simp [runOf]
theorem untilOf_snoc (n : Int) (l : List Mic) (m : Mic) (r : List Int) : untilOf n (l ++ [m]) r = if m.c ≤ n then doesOf m (untilOf n l r) else untilOf n l r := by simp [untilOf]
def fitsP (m : Mic) : Prop := 0 ≤ m.k ∧ m.k < 14 ∧ 0 ≤ m.c ∧ m.c ≤ 16 ∧ (m.i ≠ 0 → m.a = 32 ∨ m.b = 32 ∨ m.k = 1) ∧ (m.k = 0 → m.d = 0 ∧ m.a = 0 ∧ m.b = 0) ∧
  (m.k ≠ 0 → 1 ≤ m.d ∧ m.d ≤ 31 ∧ 0 ≤ m.a ∧ m.a ≤ 32 ∧ 0 ≤ m.b ∧ m.b ≤ 32) ∧ (m.k = 1 → m.a = 0 ∧ m.b = 0) ∧ (m.k = 2 → m.b = 0)
instance (m : Mic) : Decidable (fitsP m) := by unfold fitsP; infer_instance
def mayL : Int → List Mic → Bool
  | _, [] => true
  | last, m :: r => decide (fitsP m) && (decide (last ≤ m.c) && mayL m.c r)
def mayOf (l : List Mic) : Bool := mayL 0 l && decide (l.length ≤ 16)
/-- the last Count of a row -/
def lastC (l : List Mic) : Int := match l.getLast? with
  | some m => m.c
  | none => 0
theorem lastC_snoc (l : List Mic) (m : Mic) : lastC (l ++ [m]) = m.c := by simp [lastC]
theorem mayL_snoc : ∀ (l : List Mic) (last : Int) (m : Mic), mayL last (l ++ [m]) = (mayL last l && (decide (fitsP m) && decide ((match l.getLast? with | some x => x.c | none => last) ≤ m.c)))
  | [], last, m => by simp only [List.nil_append, mayL, List.getLast?_nil, Bool.true_and, Bool.and_true]; rfl
  | [x], last, m => by simp only [List.cons_append, List.nil_append, mayL, List.getLast?_singleton, Bool.and_true, Bool.and_assoc]; rfl
  | x :: y :: r, last, m => by
    have ih := mayL_snoc (y :: r) x.c m
    simp only [List.cons_append, mayL] at ih ⊢
    rw [ih]
    simp only [List.getLast?_cons_cons, Bool.and_assoc]
    cases h : (y :: r).getLast? with
    | none => simp at h
    | some z => rfl
theorem may_snoc (l : List Mic) (m : Mic) : mayL 0 (l ++ [m]) = (mayL 0 l && (decide (fitsP m) && decide (lastC l ≤ m.c))) := mayL_snoc l 0 m
theorem mayL_app_false : ∀ {l : List Mic} (r : List Mic) {last : Int}, mayL last l = false → mayL last (l ++ r) = false
  | [], _, _, h => by cases h
  | x :: l, r, last, h => by
    simp only [List.cons_append, mayL, Bool.and_eq_false_iff] at h ⊢
    rcases h with h | h | h
    · exact .inl h
    · exact .inr (.inl h)
    · exact .inr (.inr (mayL_app_false r h))
theorem mayL_fits : ∀ {l : List Mic} {last : Int}, mayL last l = true → ∀ m ∈ l, fitsP m
  | [], _, _, m, hm => by cases hm
  | x :: r, last, h, m, hm => by
    simp only [mayL, Bool.and_eq_true, decide_eq_true_eq] at h
    rcases List.mem_cons.1 hm with rfl | hm
    · exact h.1
    · exact mayL_fits h.2.2 m hm
end Go.X
