/- The Block laws' own steps, in plain Lean. -/
import Derived.Test.YtfckbimkdjcncaaXTr
set_option linter.unusedSimpArgs false
set_option linter.unusedVariables false
namespace Go.X
open Go.Y
open Go.Z (U32 Regs rg)
theorem toNat_min20 (n : Nat) : Int.toNat (if (20 : Int) < (n : Int) then 20 else (n : Int)) = min 20 n := by split <;> omega
theorem toNat_min16 (n : Nat) : Int.toNat (if (16 : Int) < (n : Int) then 16 else (n : Int)) = min 16 n := by split <;> omega
theorem may_fits {l : List Mic} (h : mayOf l = true) : ∀ m ∈ l, fitsP m := by
  unfold mayOf at h
  rw [Bool.and_eq_true] at h
  exact mayL_fits h.1
theorem until_all {n : Int} : ∀ {l : List Mic} {r : List Int}, (∀ m ∈ l, m.c ≤ n) → untilOf n l r = runOf l r
  | [], _, _ => rfl
  | m :: l, r, h => by
    show untilOf n l (if m.c ≤ n then doesOf m r else r) = runOf l (doesOf m r)
    rw [if_pos (h m List.mem_cons_self)]
    exact until_all fun x hx => h x (List.mem_cons_of_mem _ hx)
theorem until_may {l : List Mic} {r : List Int} (h : mayOf l = true) : untilOf 16 l r = runOf l r := until_all fun m hm => (may_fits h m hm).2.2.2.1
/-- which registers are known -/
def knS (m : Mic) (K : List Bool) : List Bool := if m.k = 0 then K else K.set m.d.toNat (decide (m.k = 1) || (K.getD m.a.toNat false && (decide (m.k = 2) || K.getD m.b.toNat false)))
def knOf (l : List Mic) (K : List Bool) : List Bool := l.foldl (fun K m => knS m K) K
theorem knOf_snoc (l : List Mic) (m : Mic) (K : List Bool) : knOf (l ++ [m]) K = knS m (knOf l K) := by simp [knOf]
theorem knS_len (m : Mic) (K : List Bool) : (knS m K).length = K.length := by unfold knS; split <;> simp
theorem knOf_len : ∀ (l : List Mic) (K : List Bool), (knOf l K).length = K.length
  | [], _ => rfl
  | m :: l, K => (knOf_len l (knS m K)).trans (knS_len m K)
theorem getD_set {α : Type} (l : List α) (i j : Nat) (x d : α) : (l.set i x).getD j d = if i = j ∧ j < l.length then x else l.getD j d := by
  simp only [List.getD_eq_getElem?_getD, List.getElem?_set]
  by_cases h1 : i = j
  · subst h1
    by_cases h2 : i < l.length
    · simp [h2]
    · simp [h2]
  · simp [h1]
theorem doesOf_len (m : Mic) (r : List Int) : (doesOf m r).length = r.length := by unfold doesOf; split <;> simp
theorem doesOf_get {m : Mic} {r : List Int} (hr : r.length = 32) (n : Nat) (hn : n < 32) : (doesOf m r).getD n 0 = if m.k ≠ 0 ∧ n ≠ 0 ∧ (n : Int) = m.d % 32 then Z.valOf m.k (valueOf m.i m.a r) (valueOf m.i m.b r) m.i else r.getD n 0 := by
  unfold doesOf
  by_cases h : m.k ≠ 0 ∧ m.d % 32 ≠ 0
  · rw [if_pos h, getD_set]
    by_cases h1 : (n : Int) = m.d % 32
    · rw [if_pos (by omega), if_pos (by omega)]
    · rw [if_neg (by omega), if_neg (by omega)]
  · rw [if_neg h, if_neg (by omega)]
theorem kn_step {m : Mic} {K : List Bool} {r s : List Int} (hf : fitsP m) (hK : K.length = 33) (hr : r.length = 32) (hs : s.length = 32) (h : ∀ n, n < 32 → K.getD n false = true → r.getD n 0 = s.getD n 0) :
    ∀ n, n < 32 → (knS m K).getD n false = true → (doesOf m r).getD n 0 = (doesOf m s).getD n 0 := by
  intro n hn hk
  rw [doesOf_get hr n hn, doesOf_get hs n hn]
  obtain ⟨-, -, -, -, -, -, hd, -⟩ := hf
  by_cases h0 : m.k = 0
  · rw [if_neg (fun c => c.1 h0), if_neg (fun c => c.1 h0)]
    rw [knS, if_pos h0] at hk
    exact h n hn hk
  · obtain ⟨d1, d2, a1, a2, b1, b2⟩ := hd h0
    rw [knS, if_neg h0, getD_set] at hk
    have e : m.d % 32 = m.d := Int.emod_eq_of_lt (by omega) (by omega)
    by_cases h1 : (n : Int) = m.d
    · rw [if_pos ⟨by omega, by rw [hK]; omega⟩] at hk
      rw [if_pos ⟨h0, by omega, by omega⟩, if_pos ⟨h0, by omega, by omega⟩]
      have hv : ∀ x : Int, 0 ≤ x → x ≤ 32 → K.getD x.toNat false = true → valueOf m.i x r = valueOf m.i x s := fun x x1 x2 hx => by
        unfold valueOf
        split
        · rfl
        · rename_i hne
          unfold Z.rg
          rw [Int.emod_eq_of_lt x1 (by omega)]
          exact h _ (by omega) hx
      simp only [Bool.or_eq_true, Bool.and_eq_true, decide_eq_true_eq] at hk
      rcases hk with hk | ⟨hk1, hk2 | hk2⟩
      · rw [hk]; rfl
      · rw [hk2]; exact hv _ a1 a2 hk1
      · rw [hv _ a1 a2 hk1, hv _ b1 b2 hk2]
    · rw [if_neg (by omega)] at hk
      rw [if_neg (by omega), if_neg (by omega)]
      exact h n hn hk
theorem runOf_len : ∀ (l : List Mic) (r : List Int), (runOf l r).length = r.length
  | [], _ => rfl
  | m :: l, r => (runOf_len l (doesOf m r)).trans (doesOf_len m r)
theorem kn_run : ∀ {l : List Mic} {K : List Bool} {r s : List Int}, (∀ m ∈ l, fitsP m) → K.length = 33 → r.length = 32 → s.length = 32 → (∀ n, n < 32 → K.getD n false = true → r.getD n 0 = s.getD n 0) →
    ∀ n, n < 32 → (knOf l K).getD n false = true → (runOf l r).getD n 0 = (runOf l s).getD n 0
  | [], _, _, _, _, _, _, _, h => h
  | m :: l, K, r, s, hf, hK, hr, hs, h => kn_run (l := l) (fun x hx => hf x (List.mem_cons_of_mem _ hx)) (by rw [knS_len, hK]) (by rw [doesOf_len, hr]) (by rw [doesOf_len, hs]) (kn_step (hf m List.mem_cons_self) hK hr hs h)
theorem run_zero : ∀ {l : List Mic} {r : List Int}, r.length = 32 → (runOf l r).getD 0 0 = r.getD 0 0
  | [], _, _ => rfl
  | m :: l, r, hr => (run_zero (l := l) (by rw [doesOf_len, hr])).trans (by rw [doesOf_get hr 0 (by omega), if_neg (fun c => c.2.1 rfl)])
theorem trM_le (s : List Int) : (trM s).length ≤ s.length := by
  unfold trM
  rw [micsW_len]
  exact (List.takeWhile_sublist _).length_le
theorem min_min16 (n : Nat) : min 16 (min 16 n) = min 16 n := by omega
theorem take_min16 (l : List Int) (o n : Nat) : ((sub l o (min 16 n)).take 16) = (sub l o n).take 16 := by rw [sub_min, List.take_take, Nat.min_self]
theorem micsW_c : ∀ (l : List Int) (n : Int) (j : Nat), j < l.length → ((micsW n l).getD j ⟨0, 0, 0, 0, 0, 0⟩).c = n + (j : Int) + 1
  | [], _, _, h => by simp at h
  | w :: r, n, 0, _ => by simp [micsW, micW]
  | w :: r, n, j + 1, h => by
    have := micsW_c r (n + 1) j (by simpa using h)
    simp only [micsW, List.getD_cons_succ]
    rw [this]; omega
theorem trM_c {s : List Int} {j : Nat} (h : j < (trM s).length) : ((trM s).getD j ⟨0, 0, 0, 0, 0, 0⟩).c = (j : Int) + 1 := by
  unfold trM at h ⊢
  rw [micsW_len] at h
  rw [micsW_c _ _ _ h]; omega
theorem run_app (a b : List Mic) (r : List Int) : runOf (a ++ b) r = runOf b (runOf a r) := by simp [runOf]
theorem run_set0 {l : List Mic} {r : List Int} (hr : r.length = 32) (h0 : r.getD 0 0 = 0) : (runOf l r).set 0 0 = runOf l r := by
  have h := run_zero (l := l) hr
  rw [h0] at h
  have hl : 0 < (runOf l r).length := by rw [runOf_len, hr]; omega
  rw [List.getD_eq_getElem?_getD, List.getElem?_eq_getElem hl] at h
  have h : (runOf l r)[0] = 0 := h
  apply List.ext_getElem?
  intro i
  rw [List.getElem?_set]
  split
  · rename_i hi
    subst hi
    first | rw [if_pos hl, List.getElem?_eq_getElem hl, h] | rw [List.getElem?_eq_getElem hl, h]
  · rfl
theorem until_low {n : Int} : ∀ {l : List Mic} {r : List Int}, (∀ m ∈ l, n < m.c) → untilOf n l r = r
  | [], _, _ => rfl
  | m :: l, r, h => by
    show untilOf n l (if m.c ≤ n then doesOf m r else r) = r
    rw [if_neg (by have := h m List.mem_cons_self; omega)]
    exact until_low fun x hx => h x (List.mem_cons_of_mem _ hx)
theorem until_take {l : List Mic} {r : List Int} (hc : ∀ j, j < l.length → (l.getD j ⟨0, 0, 0, 0, 0, 0⟩).c = (j : Int) + 1) {k : Nat} (hk : k ≤ l.length) : untilOf (k : Int) l r = runOf (l.take k) r := by
  have h1 : ∀ m ∈ l.take k, m.c ≤ (k : Int) := fun m hm => by
    obtain ⟨j, hj, rfl⟩ := List.getElem_of_mem hm
    have hj' : j < k ∧ j < l.length := by rw [List.length_take] at hj; omega
    have := hc j hj'.2
    rw [List.getD_eq_getElem?_getD, List.getElem?_eq_getElem hj'.2] at this
    simp only [Option.getD_some] at this
    rw [List.getElem_take, this]; omega
  have h2 : ∀ m ∈ l.drop k, (k : Int) < m.c := fun m hm => by
    obtain ⟨j, hj, rfl⟩ := List.getElem_of_mem hm
    have hj' : k + j < l.length := by have : j < l.length - k := by simpa using hj
                                      omega
    have := hc (k + j) hj'
    rw [List.getD_eq_getElem?_getD, List.getElem?_eq_getElem hj'] at this
    simp only [Option.getD_some] at this
    rw [List.getElem_drop, this]; omega
  have e : untilOf (k : Int) l r = untilOf (k : Int) (l.drop k) (untilOf (k : Int) (l.take k) r) := by
    conv => lhs; rw [← List.take_append_drop k l]
    exact List.foldl_append
  rw [e, until_low h2, until_all h1]
theorem micW_u32 (w : Int) (n : Int) : Z.U32 (micW w n).i   := by
  show Z.U32 (Z.oneOf (decI w)).i
  unfold Z.oneOf
  split
  · exact Z.u32_0
  · unfold Z.oneM
    repeat' split
    all_goals first | exact Z.u32_0 | exact Z.mod_u32 _
theorem micsW_u32 : ∀ (l : List Int) (n : Int), ∀ m ∈ micsW n l, Z.U32 m.i
  | [], _, m, hm => by cases hm
  | w :: r, n, m, hm => by
    simp only [micsW, List.mem_cons] at hm
    rcases hm with rfl | hm
    · exact micW_u32 w _
    · exact micsW_u32 r _ m hm
theorem trM_u32 (s : List Int) : ∀ m ∈ trM s, Z.U32 m.i := micsW_u32 _ _
end Go.X
