/- The Block laws' own steps, in plain Lean. -/
import Derived.Test.YtfckbimkdjcncaaXTr
set_option linter.unusedSimpArgs false
set_option linter.unusedVariables false
namespace Go.X
open Go.Y
open Go.Z (U32 Regs rg)
theorem toNat_min20 (n : Nat) : Int.toNat (if (20 : Int) < (n : Int) then 20 else (n : Int)) = min 20 n := by split <;> omega
theorem toNat_min16 (n : Nat) : Int.toNat (if (16 : Int) < (n : Int) then 16 else (n : Int)) = min 16 n := by split <;> omega
theorem may_fits {l : List Mic} (h : mayOf l = true) : ∀ m ∈ l, fitsP m := by
  unfold mayOf at h
  rw [Bool.and_eq_true] at h
  exact mayL_fits h.1
theorem until_all {n : Int} : ∀ {l : List Mic} {r : List Int}, (∀ m ∈ l, m.c ≤ n) → untilOf n l r = runOf l r
  | [], _, _ => rfl
  | m :: l, r, h => by
    show untilOf n l (if m.c ≤ n then doesOf m r else r) = runOf l (doesOf m r)
    rw [if_pos (h m List.mem_cons_self)]
    exact until_all fun x hx => h x (List.mem_cons_of_mem _ hx)
theorem until_may {l : List Mic} {r : List Int} (h : mayOf l = true) : untilOf 16 l r = runOf l r := until_all fun m hm => (may_fits h m hm).2.2.2.1
end Go.X
