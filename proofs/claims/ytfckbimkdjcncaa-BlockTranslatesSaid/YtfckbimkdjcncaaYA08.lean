/- PRINTED by wip/tools/ybuild.py: contracts of ir.Translate, zoetroperef14.Same, zoetroperef14.May, zoetroperef14.Until. -/
import Derived.Test.YtfckbimkdjcncaaYTyA
import Derived.Test.YtfckbimkdjcncaaG6
import Derived.Test.YtfckbimkdjcncaaYA00
import Derived.Test.YtfckbimkdjcncaaYA01
import Derived.Test.YtfckbimkdjcncaaYA02
import Derived.Test.YtfckbimkdjcncaaYA03
import Derived.Test.YtfckbimkdjcncaaYA04
import Derived.Test.YtfckbimkdjcncaaYA05
import Derived.Test.YtfckbimkdjcncaaYA06
import Derived.Test.YtfckbimkdjcncaaYA07
set_option maxRecDepth 100000
set_option linter.unusedSimpArgs false
set_option linter.unusedVariables false
namespace Go.Y
open Go.Proofs Go.X
open Go.Z (U32 Regs rg kindOf lessOf shiftOf fillOf sg bitAt withBit bnor bor band bxor b01 bitsOf)
noncomputable def lp_Tr : LpT := fun e H W => match canE 0 [3, 13, 14, 15] e H, W with
  | some ([(.v (.c .ns)), (.v (.c (.rs 0 1 eo n cap A))), (.v (.c (.i .i64 m))), (.v (.c (.i .i64 i)))], []), ⟨0, l⟩ :: W => .ass ((m = (n : Int) ∧ i = 0) ∧ n ≤ 16 ∧ n ≤ 65536 ∧ eo + n ≤ l.length ∧ (∀ x ∈ sub l eo n, U32 x)) (.ite (decide ((trM (sub l eo n)).length = 0)) (.ret (.ex 0, [(3, .v (.c (.ns)))], [])) (.any Nat fun cq => .any (List Mic) fun q => .hyp ((trM (sub l eo n)).length ≤ cq ∧ q.length = cq ∧ q.take (trM (sub l eo n)).length = trM (sub l eo n)) (.ret (.ex 0, [(3, .v (.c (.sl 0 0 6 0 (trM (sub l eo n)).length cq)))], [⟨28, [.arr 5 cq q], true⟩]))))
  | _, _ => .stuck 901
noncomputable def lp_TrB : LpT := fun e H W => match canE 1 [3, 13, 14, 15] e H, W with
  | some ([(.v (.c .ns)), (.v (.c (.sl 0 0 1 eo n cap))), (.v (.c (.i .i64 m))), (.v (.c (.i .i64 i)))], [⟨26, [.arr 0 N l], wr⟩]), W => .ass ((m = (n : Int) ∧ i = 0) ∧ n ≤ 16 ∧ n ≤ 65536 ∧ eo + n ≤ N ∧ N ≤ l.length ∧ (∀ x ∈ sub l eo n, U32 x)) (.ite (decide ((trM (sub l eo n)).length = 0)) (.ret (.ex 0, [(3, .v (.c (.ns)))], [⟨26, [.arr 0 N l], wr⟩])) (.any Nat fun cq => .any (List Mic) fun q => .hyp ((trM (sub l eo n)).length ≤ cq ∧ q.length = cq ∧ q.take (trM (sub l eo n)).length = trM (sub l eo n)) (.ret (.ex 0, [(3, .v (.c (.sl 1 0 6 0 (trM (sub l eo n)).length cq)))], [⟨26, [.arr 0 N l], wr⟩, ⟨28, [.arr 5 cq q], true⟩]))))
  | _, _ => .stuck 901
noncomputable def cx_ir_Translate : Ctx := mkCtx tys eqs [(24, con_decode_Decode), (25, con_ir_kind), (26, con_ir_one)] [(3, lp_Tr)]
noncomputable def cx_ir_Translate_v2 : Ctx := mkCtx tys eqs [(24, con_decode_Decode), (25, con_ir_kind), (26, con_ir_one)] [(3, lp_TrB)]
theorem cx_ir_Translate_ok : CtxOK Try.prog cx_ir_Translate := mkCtx_ok _ mixed tys_ok eqs_ok ⟨⟨ok_decode_Decode, Try.call24⟩, ⟨⟨ok_ir_kind, Try.call25⟩, ⟨⟨ok_ir_one, Try.call26⟩, trivial⟩⟩⟩
theorem cx_ir_Translate_v2_ok : CtxOK Try.prog cx_ir_Translate_v2 := mkCtx_ok _ mixed tys_ok eqs_ok ⟨⟨ok_decode_Decode, Try.call24⟩, ⟨⟨ok_ir_kind, Try.call25⟩, ⟨⟨ok_ir_one, Try.call26⟩, trivial⟩⟩⟩
noncomputable def outr_lp_Tr (eo : Nat) (n : Nat) (cap : Nat) (A : Option Addr) (m : Int) (i : Int) (l : List (Sh 0)) : Tr (X × List SV × List Bk) :=
Tr.ite (decide (i < m))
 (Tr.ass ((0 : Int) ≤ i ∧ i < (↑n : Int))
 (Tr.ass (eo + Int.toNat i < List.length l)
 (Tr.ass (Z.U32 (List.getD l (eo + Int.toNat i) (0 : Int)))
 (Tr.ite
 (bif !decide (X.decE (List.getD l (eo + Int.toNat i) (0 : Int)) = (0 : Int)) then true
 else decide (Z.kindOf (Z.Ins.op (X.decI (List.getD l (eo + Int.toNat i) (0 : Int)))) = (0 : Int)))
 (Tr.ret
 (X.ex (nat_lit 0),
 [SV.v (V1.c Sc.ns), SV.v (V1.c (Sc.rs (nat_lit 0) (nat_lit 1) eo n cap A)), SV.v (V1.c (Sc.i IntKind.i64 m)),
 SV.v (V1.c (Sc.i IntKind.i64 i))],
 []))
 (Tr.ass ((1 : Nat) ≤ (1 : Nat))
 (Tr.ass ((1 : Nat) ≤ (65536 : Nat))
 (Tr.ite (decide ((1 : Nat) = (0 : Nat)))
 (Tr.ret
 (X.nor,
 [SV.v (V1.c Sc.ns), SV.v (V1.c (Sc.rs (nat_lit 0) (nat_lit 1) eo n cap A)), SV.v (V1.c (Sc.i IntKind.i64 m)),
 SV.v (V1.c (Sc.i IntKind.i64 (IntKind.wrap IntKind.i64 (i + (1 : Int)))))],
 []))
 (Tr.any Nat fun x =>
 Tr.any (List (Sh (5 : Nat))) fun x_1 =>
 Tr.hyp
 ((1 : Nat) ≤ x ∧
 List.length x_1 = x ∧
 List.take (1 : Nat) x_1 =
 [Mic.mk (Z.Mic.k (Z.oneOf (X.decI (List.getD l (eo + Int.toNat i) (0 : Int)))))
 (Z.Mic.d (Z.oneOf (X.decI (List.getD l (eo + Int.toNat i) (0 : Int))))) (Z.Mic.a (Z.oneOf (X.decI (List.getD l (eo + Int.toNat i) (0 : Int)))))
 (Z.Mic.b (Z.oneOf (X.decI (List.getD l (eo + Int.toNat i) (0 : Int))))) (Z.Mic.i (Z.oneOf (X.decI (List.getD l (eo + Int.toNat i) (0 : Int)))))
 (IntKind.wrap IntKind.i64 (i + (1 : Int)))])
 (Tr.ret
 (X.nor,
 [SV.v (V1.c (Sc.sl (nat_lit 0) (nat_lit 0) (nat_lit 6) (nat_lit 0) (nat_lit 1) x)), SV.v (V1.c (Sc.rs (nat_lit 0) (nat_lit 1) eo n cap A)),
 SV.v (V1.c (Sc.i IntKind.i64 m)), SV.v (V1.c (Sc.i IntKind.i64 (IntKind.wrap IntKind.i64 (i + (1 : Int)))))],
 [Bk.mk (nat_lit 28) [Seg.arr (nat_lit 5) x x_1] true]))))))))))
 (Tr.ret
 (X.ex (nat_lit 0),
 [SV.v (V1.c Sc.ns), SV.v (V1.c (Sc.rs (nat_lit 0) (nat_lit 1) eo n cap A)), SV.v (V1.c (Sc.i IntKind.i64 m)),
 SV.v (V1.c (Sc.i IntKind.i64 i))],
 []))

theorem rnd_lp_Tr (eo : Nat) (n : Nat) (cap : Nat) (A : Option Addr) (m : Int) (i : Int) (l : List (Sh 0)) (W : List Rw) : rnd cx_ir_Translate 44 (⟨0, l⟩ :: W) (loopC 3 (codeOf Try.f10)) [3, 13, 14, 15] 0 (zipE [3, 13, 14, 15] [(.v (.c .ns)), (.v (.c (.rs 0 1 eo n cap A))), (.v (.c (.i .i64 m))), (.v (.c (.i .i64 i)))]) [] = outr_lp_Tr eo n cap A m i l := by kernel_rfl
noncomputable def outr_lp_Tr_2 (nq : Nat) (cq : Nat) (eo : Nat) (n : Nat) (cap : Nat) (A : Option Addr) (m : Int) (i : Int) (q : List (Sh 5)) (l : List (Sh 0)) : Tr (X × List SV × List Bk) :=
Tr.ite (decide (i < m))
 (Tr.ass ((0 : Int) ≤ i ∧ i < (↑n : Int))
 (Tr.ass (eo + Int.toNat i < List.length l)
 (Tr.ass (Z.U32 (List.getD l (eo + Int.toNat i) (0 : Int)))
 (Tr.ite
 (bif !decide (X.decE (List.getD l (eo + Int.toNat i) (0 : Int)) = (0 : Int)) then true
 else decide (Z.kindOf (Z.Ins.op (X.decI (List.getD l (eo + Int.toNat i) (0 : Int)))) = (0 : Int)))
 (Tr.ret
 (X.ex (nat_lit 0),
 [SV.v (V1.c (Sc.sl (nat_lit 0) (nat_lit 0) (nat_lit 6) (nat_lit 0) nq cq)), SV.v (V1.c (Sc.rs (nat_lit 0) (nat_lit 1) eo n cap A)),
 SV.v (V1.c (Sc.i IntKind.i64 m)), SV.v (V1.c (Sc.i IntKind.i64 i))],
 [Bk.mk (nat_lit 28) [Seg.arr (nat_lit 5) cq q] true]))
 (Tr.ass ((1 : Nat) ≤ (1 : Nat))
 (Tr.ass (nq ≤ cq ∧ cq ≤ cq ∧ nq + (1 : Nat) ≤ (65536 : Nat))
 (Tr.ite (decide (nq + (1 : Nat) ≤ cq))
 (Tr.any (List (Sh (5 : Nat))) fun x =>
 Tr.hyp
 (List.length x = cq ∧
 List.take (nq + (1 : Nat)) x =
 List.take nq q ++
 [Mic.mk (Z.Mic.k (Z.oneOf (X.decI (List.getD l (eo + Int.toNat i) (0 : Int))))) (Z.Mic.d (Z.oneOf (X.decI (List.getD l (eo + Int.toNat i) (0 : Int)))))
 (Z.Mic.a (Z.oneOf (X.decI (List.getD l (eo + Int.toNat i) (0 : Int))))) (Z.Mic.b (Z.oneOf (X.decI (List.getD l (eo + Int.toNat i) (0 : Int)))))
 (Z.Mic.i (Z.oneOf (X.decI (List.getD l (eo + Int.toNat i) (0 : Int))))) (IntKind.wrap IntKind.i64 (i + (1 : Int)))])
 (Tr.ret
 (X.nor,
 [SV.v (V1.c (Sc.sl (nat_lit 0) (nat_lit 0) (nat_lit 6) (nat_lit 0) (nq + (1 : Nat)) cq)), SV.v (V1.c (Sc.rs (nat_lit 0) (nat_lit 1) eo n cap A)),
 SV.v (V1.c (Sc.i IntKind.i64 m)), SV.v (V1.c (Sc.i IntKind.i64 (IntKind.wrap IntKind.i64 (i + (1 : Int)))))],
 [Bk.mk (nat_lit 28) [Seg.arr (nat_lit 5) cq x] true])))
 (Tr.any Nat fun x =>
 Tr.any (List (Sh (5 : Nat))) fun x_1 =>
 Tr.hyp
 (nq + (1 : Nat) ≤ x ∧
 List.length x_1 = x ∧
 List.take (nq + (1 : Nat)) x_1 =
 List.take nq q ++
 [Mic.mk (Z.Mic.k (Z.oneOf (X.decI (List.getD l (eo + Int.toNat i) (0 : Int)))))
 (Z.Mic.d (Z.oneOf (X.decI (List.getD l (eo + Int.toNat i) (0 : Int))))) (Z.Mic.a (Z.oneOf (X.decI (List.getD l (eo + Int.toNat i) (0 : Int)))))
 (Z.Mic.b (Z.oneOf (X.decI (List.getD l (eo + Int.toNat i) (0 : Int))))) (Z.Mic.i (Z.oneOf (X.decI (List.getD l (eo + Int.toNat i) (0 : Int)))))
 (IntKind.wrap IntKind.i64 (i + (1 : Int)))])
 (Tr.ret
 (X.nor,
 [SV.v (V1.c (Sc.sl (nat_lit 0) (nat_lit 0) (nat_lit 6) (nat_lit 0) (nq + (1 : Nat)) x)), SV.v (V1.c (Sc.rs (nat_lit 0) (nat_lit 1) eo n cap A)),
 SV.v (V1.c (Sc.i IntKind.i64 m)), SV.v (V1.c (Sc.i IntKind.i64 (IntKind.wrap IntKind.i64 (i + (1 : Int)))))],
 [Bk.mk (nat_lit 28) [Seg.arr (nat_lit 5) x x_1] true]))))))))))
 (Tr.ret
 (X.ex (nat_lit 0),
 [SV.v (V1.c (Sc.sl (nat_lit 0) (nat_lit 0) (nat_lit 6) (nat_lit 0) nq cq)), SV.v (V1.c (Sc.rs (nat_lit 0) (nat_lit 1) eo n cap A)),
 SV.v (V1.c (Sc.i IntKind.i64 m)), SV.v (V1.c (Sc.i IntKind.i64 i))],
 [Bk.mk (nat_lit 28) [Seg.arr (nat_lit 5) cq q] true]))

theorem rnd_lp_Tr_2 (nq : Nat) (cq : Nat) (eo : Nat) (n : Nat) (cap : Nat) (A : Option Addr) (m : Int) (i : Int) (q : List (Sh 5)) (l : List (Sh 0)) (W : List Rw) : rnd cx_ir_Translate 44 (⟨0, l⟩ :: W) (loopC 3 (codeOf Try.f10)) [3, 13, 14, 15] 0 (zipE [3, 13, 14, 15] [(.v (.c (.sl 0 0 6 0 nq cq))), (.v (.c (.rs 0 1 eo n cap A))), (.v (.c (.i .i64 m))), (.v (.c (.i .i64 i)))]) [⟨28, [.arr 5 cq q], true⟩] = outr_lp_Tr_2 nq cq eo n cap A m i q l := by kernel_rfl
theorem lpp_lp_Tr {c0 : Z.Cx} {ρ0 : List Nat} (eo : Nat) (n : Nat) (cap : Nat) (A : Option Addr) (m : Int) (i : Int) (l : List (Sh 0)) (W : List Rw) (hR : repR (⟨0, l⟩ :: W) c0.R) (hne : ρ0.length ≤ 0) {Q : Exit → Act → World → Prop} {e : Env} {H : List Bk} (hsel : canE 0 [3, 13, 14, 15] e H = some ([(.v (.c .ns)), (.v (.c (.rs 0 1 eo n cap A))), (.v (.c (.i .i64 m))), (.v (.c (.i .i64 i)))], [])) (h : (.ass ((m = (n : Int) ∧ i = 0) ∧ n ≤ 16 ∧ n ≤ 65536 ∧ eo + n ≤ l.length ∧ (∀ x ∈ sub l eo n, U32 x)) (.ite (decide ((trM (sub l eo n)).length = 0)) (.ret (.ex 0, [(3, .v (.c (.ns)))], [])) (.any Nat fun cq => .any (List Mic) fun q => .hyp ((trM (sub l eo n)).length ≤ cq ∧ q.length = cq ∧ q.take (trM (sub l eo n)).length = trM (sub l eo n)) (.ret (.ex 0, [(3, .v (.c (.sl 0 0 6 0 (trM (sub l eo n)).length cq)))], [⟨28, [.arr 5 cq q], true⟩])))) : Tr (X × Env × List Bk)).all (fun y => YE c0 ρ0 Q 44 (toX y.1) y.2.1 y.2.2)) : YC Try.prog c0 ρ0 Q 44 (.loop (loopC 3 (codeOf Try.f10))) e H := by
  obtain ⟨hp, h⟩ := h
  replace h := h hp
  obtain ⟨⟨rfl, rfl⟩, h16, hn, hN, hu⟩ := hp
  have hle : eo + n ≤ l.length := by omega
  have hsl := sub_len hle
  refine YC.canon hne hsel ?_
  have key := loop_sound (P := Try.prog) (c := c0) (ρ0 := ρ0) (N := 44) (Q := Q) cx_ir_Translate_ok hR (LpOK.no (by kernel_rfl)) [3, 13, 14, 15] 0 hne (σ := Nat × Option (Nat × List Mic)) (body := (loopC 3 (codeOf Try.f10))) (fun s => match s with | (k, none) => [.v (.c .ns), .v (.c (.rs 0 1 eo n cap A)), .v (.c (.i .i64 ((n : Int)))), .v (.c (.i .i64 ((k : Int))))] | (k, some (cq, _)) => [.v (.c (.sl 0 0 6 0 k cq)), .v (.c (.rs 0 1 eo n cap A)), .v (.c (.i .i64 ((n : Int)))), .v (.c (.i .i64 ((k : Int))))]) (fun s => match s with | (_, none) => [] | (_, some (cq, q)) => [⟨28, [.arr 5 cq q], true⟩]) (fun s => s.1 ≤ n ∧ (∀ j, j < s.1 → okW ((sub l eo n).getD j (0 : Int)) = true) ∧ TrI (sub l eo n) s.1 s.2) (fun s => n - s.1) (fun y => ∃ s : Nat × Option (Nat × List Mic), (s.1 ≤ n ∧ (∀ j, j < s.1 → okW ((sub l eo n).getD j (0 : Int)) = true) ∧ TrI (sub l eo n) s.1 s.2) ∧ (s.1 = n ∨ okW ((sub l eo n).getD s.1 (0 : Int)) = false) ∧ y = (.ex 0, (match s with | (k, none) => [.v (.c .ns), .v (.c (.rs 0 1 eo n cap A)), .v (.c (.i .i64 ((n : Int)))), .v (.c (.i .i64 ((k : Int))))] | (k, some (cq, _)) => [.v (.c (.sl 0 0 6 0 k cq)), .v (.c (.rs 0 1 eo n cap A)), .v (.c (.i .i64 ((n : Int)))), .v (.c (.i .i64 ((k : Int))))]), (match s with | (_, none) => [] | (_, some (cq, q)) => [⟨28, [.arr 5 cq q], true⟩]))) ?round ?post (0, none) ⟨Nat.zero_le _, fun j hj => absurd hj (Nat.not_lt_zero _), rfl⟩
  case round =>
    intro s hI
    obtain ⟨k, o⟩ := s
    obtain ⟨hk, hall, ho⟩ := hI
    dsimp only at hk hall ho
    have hi : eo + ((k : Nat) : Int).toNat = eo + k := by omega
    rcases o with _ | ⟨cq, q⟩
    · have ho : k = 0 := ho
      dsimp only
      rw [rnd_lp_Tr]
      unfold outr_lp_Tr
      simp only [Tr.all, hi, okW_bif]
      refine ⟨fun hc => ?_, fun hc => Or.inr ⟨nofun, (k, none), ⟨hk, hall, ho⟩, .inl (by have := of_decide_eq_false hc; omega), rfl⟩⟩
      have hc := of_decide_eq_true hc
      have hkn : k < n := by omega
      have hg := sub_getD (0 : Int) hle hkn
      refine ⟨by omega, fun _ => ⟨by omega, fun _ => ⟨sub_mem hu hle hkn, fun _ => ⟨fun hb => Or.inr ⟨nofun, (k, none), ⟨hk, hall, ho⟩, .inr (by rw [hg]; simpa using hb), rfl⟩, fun hb => ⟨Nat.le_refl _, fun _ => ⟨by decide, fun _ => ⟨fun hx => absurd hx (by decide), fun _ x x1 hx => Or.inl ⟨trivial, (k + 1, some (x, x1)), ⟨hkn, ok_step hall (by rw [hg]; simpa using hb), Nat.succ_pos _, ?_, hx.2.1, ?_⟩, ?_, ?_, rfl⟩⟩⟩⟩⟩⟩⟩⟩
      · omega
      · rw [mics_step (by rw [hsl]; exact hkn), hg]
        subst ho
        exact hx.2.2.trans (by rw [micW_mk _ 0 (by omega)]; rfl)
      · show n - (k + 1) < n - k; omega
      · rw [Z.wI64 (z := (k : Int) + 1) (by omega)]; subst ho; rfl
    · obtain ⟨h0, h1, h2, h3⟩ := ho
      dsimp only
      rw [rnd_lp_Tr_2]
      unfold outr_lp_Tr_2
      simp only [Tr.all, hi, okW_bif]
      refine ⟨fun hc => ?_, fun hc => Or.inr ⟨nofun, (k, some (cq, q)), ⟨hk, hall, ⟨h0, h1, h2, h3⟩⟩, .inl (by have := of_decide_eq_false hc; omega), rfl⟩⟩
      have hc := of_decide_eq_true hc
      have hkn : k < n := by omega
      have hg := sub_getD (0 : Int) hle hkn
      have hst := mics_step (s := sub l eo n) (k := k) (by rw [hsl]; exact hkn)
      rw [hg] at hst
      refine ⟨by omega, fun _ => ⟨by omega, fun _ => ⟨sub_mem hu hle hkn, fun _ => ⟨fun hb => Or.inr ⟨nofun, (k, some (cq, q)), ⟨hk, hall, ⟨h0, h1, h2, h3⟩⟩, .inr (by rw [hg]; simpa using hb), rfl⟩, fun hb => ⟨Nat.le_refl _, fun _ => ⟨⟨h1, Nat.le_refl _, by omega⟩, fun _ => ⟨fun hx x hy => Or.inl ⟨trivial, (k + 1, some (cq, x)), ⟨hkn, ok_step hall (by rw [hg]; simpa using hb), Nat.succ_pos _, of_decide_eq_true hx, hy.1, ?_⟩, ?_, ?_, rfl⟩, fun _ x x1 hx => Or.inl ⟨trivial, (k + 1, some (x, x1)), ⟨hkn, ok_step hall (by rw [hg]; simpa using hb), Nat.succ_pos _, hx.1, hx.2.1, ?_⟩, ?_, ?_, rfl⟩⟩⟩⟩⟩⟩⟩⟩
      · rw [hst]; exact hy.2.trans (by rw [micW_mk _ k (by omega), h3])
      · show n - (k + 1) < n - k; omega
      · rw [Z.wI64 (z := (k : Int) + 1) (by omega)]; rfl
      · rw [hst]; exact hx.2.2.trans (by rw [micW_mk _ k (by omega), h3])
      · show n - (k + 1) < n - k; omega
      · rw [Z.wI64 (z := (k : Int) + 1) (by omega)]; rfl
  case post =>
    intro y hy hp
    obtain ⟨⟨k, o⟩, ⟨hk, hall, ho⟩, hend, rfl⟩ := hp
    dsimp only at hk hall ho hend
    obtain ⟨e1, e2⟩ := trM_len hall (by rw [hsl]; exact hk) (by rw [hsl]; exact hend)
    rw [e1] at h
    rcases o with _ | ⟨cq, q⟩
    · have ho : k = 0 := ho
      exact YE.weaken (Sub.cons rfl Sub.nil) (h.1 (decide_eq_true ho))
    · obtain ⟨h0, h1, h2, h3⟩ := ho
      exact YE.weaken (Sub.cons rfl Sub.nil) (h.2 (decide_eq_false (by omega)) cq q ⟨h1, h2, h3.trans e2.symm⟩)
  exact key
theorem lpc_lp_Tr (c : Z.Cx) (ρ0 : List Nat) (W : List Rw) (hR : repR W c.R) (hne : ρ0.length ≤ 0) : ∀ Q e H, (lp_Tr e H W).all (fun y => YE c ρ0 Q 44 (toX y.1) y.2.1 y.2.2) → YC Try.prog c ρ0 Q 44 (.loop (loopC 3 (codeOf Try.f10))) e H := by
  intro Q e H h
  unfold lp_Tr at h
  (try simp only at h)
  split at h
  · rename_i heq
    exact lpp_lp_Tr _ _ _ _ _ _ _ _ hR hne (by assumption) h
  · exact h.elim
noncomputable def outr_lp_TrB (eo : Nat) (n : Nat) (cap : Nat) (m : Int) (i : Int) (wr : Bool) (N : Nat) (l : List (Sh 0)) : Tr (X × List SV × List Bk) :=
Tr.ite (decide (i < m))
 (Tr.ass ((0 : Int) ≤ i ∧ i < (↑n : Int))
 (Tr.ass (eo + Int.toNat i < N)
 (Tr.ass (Z.U32 (List.getD l (eo + Int.toNat i) (0 : Int)))
 (Tr.ite
 (bif !decide (X.decE (List.getD l (eo + Int.toNat i) (0 : Int)) = (0 : Int)) then true
 else decide (Z.kindOf (Z.Ins.op (X.decI (List.getD l (eo + Int.toNat i) (0 : Int)))) = (0 : Int)))
 (Tr.ret
 (X.ex (nat_lit 0),
 [SV.v (V1.c Sc.ns), SV.v (V1.c (Sc.sl (nat_lit 0) (nat_lit 0) (nat_lit 1) eo n cap)), SV.v (V1.c (Sc.i IntKind.i64 m)),
 SV.v (V1.c (Sc.i IntKind.i64 i))],
 [Bk.mk (nat_lit 26) [Seg.arr (nat_lit 0) N l] wr]))
 (Tr.ass ((1 : Nat) ≤ (1 : Nat))
 (Tr.ass ((1 : Nat) ≤ (65536 : Nat))
 (Tr.ite (decide ((1 : Nat) = (0 : Nat)))
 (Tr.ret
 (X.nor,
 [SV.v (V1.c Sc.ns), SV.v (V1.c (Sc.sl (nat_lit 0) (nat_lit 0) (nat_lit 1) eo n cap)), SV.v (V1.c (Sc.i IntKind.i64 m)),
 SV.v (V1.c (Sc.i IntKind.i64 (IntKind.wrap IntKind.i64 (i + (1 : Int)))))],
 [Bk.mk (nat_lit 26) [Seg.arr (nat_lit 0) N l] wr]))
 (Tr.any Nat fun x =>
 Tr.any (List (Sh (5 : Nat))) fun x_1 =>
 Tr.hyp
 ((1 : Nat) ≤ x ∧
 List.length x_1 = x ∧
 List.take (1 : Nat) x_1 =
 [Mic.mk (Z.Mic.k (Z.oneOf (X.decI (List.getD l (eo + Int.toNat i) (0 : Int)))))
 (Z.Mic.d (Z.oneOf (X.decI (List.getD l (eo + Int.toNat i) (0 : Int))))) (Z.Mic.a (Z.oneOf (X.decI (List.getD l (eo + Int.toNat i) (0 : Int)))))
 (Z.Mic.b (Z.oneOf (X.decI (List.getD l (eo + Int.toNat i) (0 : Int))))) (Z.Mic.i (Z.oneOf (X.decI (List.getD l (eo + Int.toNat i) (0 : Int)))))
 (IntKind.wrap IntKind.i64 (i + (1 : Int)))])
 (Tr.ret
 (X.nor,
 [SV.v (V1.c (Sc.sl (nat_lit 1) (nat_lit 0) (nat_lit 6) (nat_lit 0) (nat_lit 1) x)),
 SV.v (V1.c (Sc.sl (nat_lit 0) (nat_lit 0) (nat_lit 1) eo n cap)), SV.v (V1.c (Sc.i IntKind.i64 m)),
 SV.v (V1.c (Sc.i IntKind.i64 (IntKind.wrap IntKind.i64 (i + (1 : Int)))))],
 [Bk.mk (nat_lit 26) [Seg.arr (nat_lit 0) N l] wr, Bk.mk (nat_lit 28) [Seg.arr (nat_lit 5) x x_1] true]))))))))))
 (Tr.ret
 (X.ex (nat_lit 0),
 [SV.v (V1.c Sc.ns), SV.v (V1.c (Sc.sl (nat_lit 0) (nat_lit 0) (nat_lit 1) eo n cap)), SV.v (V1.c (Sc.i IntKind.i64 m)),
 SV.v (V1.c (Sc.i IntKind.i64 i))],
 [Bk.mk (nat_lit 26) [Seg.arr (nat_lit 0) N l] wr]))

theorem rnd_lp_TrB (eo : Nat) (n : Nat) (cap : Nat) (m : Int) (i : Int) (wr : Bool) (N : Nat) (l : List (Sh 0)) (W : List Rw) : rnd cx_ir_Translate_v2 44 W (loopC 3 (codeOf Try.f10)) [3, 13, 14, 15] 1 (zipE [3, 13, 14, 15] [(.v (.c .ns)), (.v (.c (.sl 0 0 1 eo n cap))), (.v (.c (.i .i64 m))), (.v (.c (.i .i64 i)))]) [⟨26, [.arr 0 N l], wr⟩] = outr_lp_TrB eo n cap m i wr N l := by kernel_rfl
noncomputable def outr_lp_TrB_2 (nq : Nat) (cq : Nat) (eo : Nat) (n : Nat) (cap : Nat) (m : Int) (i : Int) (wr : Bool) (N : Nat) (l : List (Sh 0)) (q : List (Sh 5)) : Tr (X × List SV × List Bk) :=
Tr.ite (decide (i < m))
 (Tr.ass ((0 : Int) ≤ i ∧ i < (↑n : Int))
 (Tr.ass (eo + Int.toNat i < N)
 (Tr.ass (Z.U32 (List.getD l (eo + Int.toNat i) (0 : Int)))
 (Tr.ite
 (bif !decide (X.decE (List.getD l (eo + Int.toNat i) (0 : Int)) = (0 : Int)) then true
 else decide (Z.kindOf (Z.Ins.op (X.decI (List.getD l (eo + Int.toNat i) (0 : Int)))) = (0 : Int)))
 (Tr.ret
 (X.ex (nat_lit 0),
 [SV.v (V1.c (Sc.sl (nat_lit 1) (nat_lit 0) (nat_lit 6) (nat_lit 0) nq cq)), SV.v (V1.c (Sc.sl (nat_lit 0) (nat_lit 0) (nat_lit 1) eo n cap)),
 SV.v (V1.c (Sc.i IntKind.i64 m)), SV.v (V1.c (Sc.i IntKind.i64 i))],
 [Bk.mk (nat_lit 26) [Seg.arr (nat_lit 0) N l] wr, Bk.mk (nat_lit 28) [Seg.arr (nat_lit 5) cq q] true]))
 (Tr.ass ((1 : Nat) ≤ (1 : Nat))
 (Tr.ass (nq ≤ cq ∧ cq ≤ cq ∧ nq + (1 : Nat) ≤ (65536 : Nat))
 (Tr.ite (decide (nq + (1 : Nat) ≤ cq))
 (Tr.any (List (Sh (5 : Nat))) fun x =>
 Tr.hyp
 (List.length x = cq ∧
 List.take (nq + (1 : Nat)) x =
 List.take nq q ++
 [Mic.mk (Z.Mic.k (Z.oneOf (X.decI (List.getD l (eo + Int.toNat i) (0 : Int))))) (Z.Mic.d (Z.oneOf (X.decI (List.getD l (eo + Int.toNat i) (0 : Int)))))
 (Z.Mic.a (Z.oneOf (X.decI (List.getD l (eo + Int.toNat i) (0 : Int))))) (Z.Mic.b (Z.oneOf (X.decI (List.getD l (eo + Int.toNat i) (0 : Int)))))
 (Z.Mic.i (Z.oneOf (X.decI (List.getD l (eo + Int.toNat i) (0 : Int))))) (IntKind.wrap IntKind.i64 (i + (1 : Int)))])
 (Tr.ret
 (X.nor,
 [SV.v (V1.c (Sc.sl (nat_lit 1) (nat_lit 0) (nat_lit 6) (nat_lit 0) (nq + (1 : Nat)) cq)),
 SV.v (V1.c (Sc.sl (nat_lit 0) (nat_lit 0) (nat_lit 1) eo n cap)), SV.v (V1.c (Sc.i IntKind.i64 m)),
 SV.v (V1.c (Sc.i IntKind.i64 (IntKind.wrap IntKind.i64 (i + (1 : Int)))))],
 [Bk.mk (nat_lit 26) [Seg.arr (nat_lit 0) N l] wr, Bk.mk (nat_lit 28) [Seg.arr (nat_lit 5) cq x] true])))
 (Tr.any Nat fun x =>
 Tr.any (List (Sh (5 : Nat))) fun x_1 =>
 Tr.hyp
 (nq + (1 : Nat) ≤ x ∧
 List.length x_1 = x ∧
 List.take (nq + (1 : Nat)) x_1 =
 List.take nq q ++
 [Mic.mk (Z.Mic.k (Z.oneOf (X.decI (List.getD l (eo + Int.toNat i) (0 : Int)))))
 (Z.Mic.d (Z.oneOf (X.decI (List.getD l (eo + Int.toNat i) (0 : Int))))) (Z.Mic.a (Z.oneOf (X.decI (List.getD l (eo + Int.toNat i) (0 : Int)))))
 (Z.Mic.b (Z.oneOf (X.decI (List.getD l (eo + Int.toNat i) (0 : Int))))) (Z.Mic.i (Z.oneOf (X.decI (List.getD l (eo + Int.toNat i) (0 : Int)))))
 (IntKind.wrap IntKind.i64 (i + (1 : Int)))])
 (Tr.ret
 (X.nor,
 [SV.v (V1.c (Sc.sl (nat_lit 1) (nat_lit 0) (nat_lit 6) (nat_lit 0) (nq + (1 : Nat)) x)),
 SV.v (V1.c (Sc.sl (nat_lit 0) (nat_lit 0) (nat_lit 1) eo n cap)), SV.v (V1.c (Sc.i IntKind.i64 m)),
 SV.v (V1.c (Sc.i IntKind.i64 (IntKind.wrap IntKind.i64 (i + (1 : Int)))))],
 [Bk.mk (nat_lit 26) [Seg.arr (nat_lit 0) N l] wr, Bk.mk (nat_lit 28) [Seg.arr (nat_lit 5) x x_1] true]))))))))))
 (Tr.ret
 (X.ex (nat_lit 0),
 [SV.v (V1.c (Sc.sl (nat_lit 1) (nat_lit 0) (nat_lit 6) (nat_lit 0) nq cq)), SV.v (V1.c (Sc.sl (nat_lit 0) (nat_lit 0) (nat_lit 1) eo n cap)),
 SV.v (V1.c (Sc.i IntKind.i64 m)), SV.v (V1.c (Sc.i IntKind.i64 i))],
 [Bk.mk (nat_lit 26) [Seg.arr (nat_lit 0) N l] wr, Bk.mk (nat_lit 28) [Seg.arr (nat_lit 5) cq q] true]))

theorem rnd_lp_TrB_2 (nq : Nat) (cq : Nat) (eo : Nat) (n : Nat) (cap : Nat) (m : Int) (i : Int) (wr : Bool) (N : Nat) (l : List (Sh 0)) (q : List (Sh 5)) (W : List Rw) : rnd cx_ir_Translate_v2 44 W (loopC 3 (codeOf Try.f10)) [3, 13, 14, 15] 1 (zipE [3, 13, 14, 15] [(.v (.c (.sl 1 0 6 0 nq cq))), (.v (.c (.sl 0 0 1 eo n cap))), (.v (.c (.i .i64 m))), (.v (.c (.i .i64 i)))]) [⟨26, [.arr 0 N l], wr⟩, ⟨28, [.arr 5 cq q], true⟩] = outr_lp_TrB_2 nq cq eo n cap m i wr N l q := by kernel_rfl
theorem lpp_lp_TrB {c0 : Z.Cx} {ρ0 : List Nat} (eo : Nat) (n : Nat) (cap : Nat) (m : Int) (i : Int) (wr : Bool) (N : Nat) (l : List (Sh 0)) (W : List Rw) (hR : repR W c0.R) (hne : ρ0.length ≤ 1) {Q : Exit → Act → World → Prop} {e : Env} {H : List Bk} (hsel : canE 1 [3, 13, 14, 15] e H = some ([(.v (.c .ns)), (.v (.c (.sl 0 0 1 eo n cap))), (.v (.c (.i .i64 m))), (.v (.c (.i .i64 i)))], [⟨26, [.arr 0 N l], wr⟩])) (h : (.ass ((m = (n : Int) ∧ i = 0) ∧ n ≤ 16 ∧ n ≤ 65536 ∧ eo + n ≤ N ∧ N ≤ l.length ∧ (∀ x ∈ sub l eo n, U32 x)) (.ite (decide ((trM (sub l eo n)).length = 0)) (.ret (.ex 0, [(3, .v (.c (.ns)))], [⟨26, [.arr 0 N l], wr⟩])) (.any Nat fun cq => .any (List Mic) fun q => .hyp ((trM (sub l eo n)).length ≤ cq ∧ q.length = cq ∧ q.take (trM (sub l eo n)).length = trM (sub l eo n)) (.ret (.ex 0, [(3, .v (.c (.sl 1 0 6 0 (trM (sub l eo n)).length cq)))], [⟨26, [.arr 0 N l], wr⟩, ⟨28, [.arr 5 cq q], true⟩])))) : Tr (X × Env × List Bk)).all (fun y => YE c0 ρ0 Q 44 (toX y.1) y.2.1 y.2.2)) : YC Try.prog c0 ρ0 Q 44 (.loop (loopC 3 (codeOf Try.f10))) e H := by
  obtain ⟨hp, h⟩ := h
  replace h := h hp
  obtain ⟨⟨rfl, rfl⟩, h16, hn, hN, hNl, hu⟩ := hp
  have hle : eo + n ≤ l.length := by omega
  have hsl := sub_len hle
  refine YC.canon hne hsel ?_
  have key := loop_sound (P := Try.prog) (c := c0) (ρ0 := ρ0) (N := 44) (Q := Q) cx_ir_Translate_v2_ok hR (LpOK.no (by kernel_rfl)) [3, 13, 14, 15] 1 hne (σ := Nat × Option (Nat × List Mic)) (body := (loopC 3 (codeOf Try.f10))) (fun s => match s with | (k, none) => [.v (.c .ns), .v (.c (.sl 0 0 1 eo n cap)), .v (.c (.i .i64 ((n : Int)))), .v (.c (.i .i64 ((k : Int))))] | (k, some (cq, _)) => [.v (.c (.sl 1 0 6 0 k cq)), .v (.c (.sl 0 0 1 eo n cap)), .v (.c (.i .i64 ((n : Int)))), .v (.c (.i .i64 ((k : Int))))]) (fun s => match s with | (_, none) => [⟨26, [.arr 0 N l], wr⟩] | (_, some (cq, q)) => [⟨26, [.arr 0 N l], wr⟩, ⟨28, [.arr 5 cq q], true⟩]) (fun s => s.1 ≤ n ∧ (∀ j, j < s.1 → okW ((sub l eo n).getD j (0 : Int)) = true) ∧ TrI (sub l eo n) s.1 s.2) (fun s => n - s.1) (fun y => ∃ s : Nat × Option (Nat × List Mic), (s.1 ≤ n ∧ (∀ j, j < s.1 → okW ((sub l eo n).getD j (0 : Int)) = true) ∧ TrI (sub l eo n) s.1 s.2) ∧ (s.1 = n ∨ okW ((sub l eo n).getD s.1 (0 : Int)) = false) ∧ y = (.ex 0, (match s with | (k, none) => [.v (.c .ns), .v (.c (.sl 0 0 1 eo n cap)), .v (.c (.i .i64 ((n : Int)))), .v (.c (.i .i64 ((k : Int))))] | (k, some (cq, _)) => [.v (.c (.sl 1 0 6 0 k cq)), .v (.c (.sl 0 0 1 eo n cap)), .v (.c (.i .i64 ((n : Int)))), .v (.c (.i .i64 ((k : Int))))]), (match s with | (_, none) => [⟨26, [.arr 0 N l], wr⟩] | (_, some (cq, q)) => [⟨26, [.arr 0 N l], wr⟩, ⟨28, [.arr 5 cq q], true⟩]))) ?round ?post (0, none) ⟨Nat.zero_le _, fun j hj => absurd hj (Nat.not_lt_zero _), rfl⟩
  case round =>
    intro s hI
    obtain ⟨k, o⟩ := s
    obtain ⟨hk, hall, ho⟩ := hI
    dsimp only at hk hall ho
    have hi : eo + ((k : Nat) : Int).toNat = eo + k := by omega
    rcases o with _ | ⟨cq, q⟩
    · have ho : k = 0 := ho
      dsimp only
      rw [rnd_lp_TrB]
      unfold outr_lp_TrB
      simp only [Tr.all, hi, okW_bif]
      refine ⟨fun hc => ?_, fun hc => Or.inr ⟨nofun, (k, none), ⟨hk, hall, ho⟩, .inl (by have := of_decide_eq_false hc; omega), rfl⟩⟩
      have hc := of_decide_eq_true hc
      have hkn : k < n := by omega
      have hg := sub_getD (0 : Int) hle hkn
      refine ⟨by omega, fun _ => ⟨by omega, fun _ => ⟨sub_mem hu hle hkn, fun _ => ⟨fun hb => Or.inr ⟨nofun, (k, none), ⟨hk, hall, ho⟩, .inr (by rw [hg]; simpa using hb), rfl⟩, fun hb => ⟨Nat.le_refl _, fun _ => ⟨by decide, fun _ => ⟨fun hx => absurd hx (by decide), fun _ x x1 hx => Or.inl ⟨trivial, (k + 1, some (x, x1)), ⟨hkn, ok_step hall (by rw [hg]; simpa using hb), Nat.succ_pos _, ?_, hx.2.1, ?_⟩, ?_, ?_, rfl⟩⟩⟩⟩⟩⟩⟩⟩
      · omega
      · rw [mics_step (by rw [hsl]; exact hkn), hg]
        subst ho
        exact hx.2.2.trans (by rw [micW_mk _ 0 (by omega)]; rfl)
      · show n - (k + 1) < n - k; omega
      · rw [Z.wI64 (z := (k : Int) + 1) (by omega)]; subst ho; rfl
    · obtain ⟨h0, h1, h2, h3⟩ := ho
      dsimp only
      rw [rnd_lp_TrB_2]
      unfold outr_lp_TrB_2
      simp only [Tr.all, hi, okW_bif]
      refine ⟨fun hc => ?_, fun hc => Or.inr ⟨nofun, (k, some (cq, q)), ⟨hk, hall, ⟨h0, h1, h2, h3⟩⟩, .inl (by have := of_decide_eq_false hc; omega), rfl⟩⟩
      have hc := of_decide_eq_true hc
      have hkn : k < n := by omega
      have hg := sub_getD (0 : Int) hle hkn
      have hst := mics_step (s := sub l eo n) (k := k) (by rw [hsl]; exact hkn)
      rw [hg] at hst
      refine ⟨by omega, fun _ => ⟨by omega, fun _ => ⟨sub_mem hu hle hkn, fun _ => ⟨fun hb => Or.inr ⟨nofun, (k, some (cq, q)), ⟨hk, hall, ⟨h0, h1, h2, h3⟩⟩, .inr (by rw [hg]; simpa using hb), rfl⟩, fun hb => ⟨Nat.le_refl _, fun _ => ⟨⟨h1, Nat.le_refl _, by omega⟩, fun _ => ⟨fun hx x hy => Or.inl ⟨trivial, (k + 1, some (cq, x)), ⟨hkn, ok_step hall (by rw [hg]; simpa using hb), Nat.succ_pos _, of_decide_eq_true hx, hy.1, ?_⟩, ?_, ?_, rfl⟩, fun _ x x1 hx => Or.inl ⟨trivial, (k + 1, some (x, x1)), ⟨hkn, ok_step hall (by rw [hg]; simpa using hb), Nat.succ_pos _, hx.1, hx.2.1, ?_⟩, ?_, ?_, rfl⟩⟩⟩⟩⟩⟩⟩⟩
      · rw [hst]; exact hy.2.trans (by rw [micW_mk _ k (by omega), h3])
      · show n - (k + 1) < n - k; omega
      · rw [Z.wI64 (z := (k : Int) + 1) (by omega)]; rfl
      · rw [hst]; exact hx.2.2.trans (by rw [micW_mk _ k (by omega), h3])
      · show n - (k + 1) < n - k; omega
      · rw [Z.wI64 (z := (k : Int) + 1) (by omega)]; rfl
  case post =>
    intro y hy hp
    obtain ⟨⟨k, o⟩, ⟨hk, hall, ho⟩, hend, rfl⟩ := hp
    dsimp only at hk hall ho hend
    obtain ⟨e1, e2⟩ := trM_len hall (by rw [hsl]; exact hk) (by rw [hsl]; exact hend)
    rw [e1] at h
    rcases o with _ | ⟨cq, q⟩
    · have ho : k = 0 := ho
      exact YE.weaken (Sub.cons rfl Sub.nil) (h.1 (decide_eq_true ho))
    · obtain ⟨h0, h1, h2, h3⟩ := ho
      exact YE.weaken (Sub.cons rfl Sub.nil) (h.2 (decide_eq_false (by omega)) cq q ⟨h1, h2, h3.trans e2.symm⟩)
  exact key
theorem lpc_lp_TrB (c : Z.Cx) (ρ0 : List Nat) (W : List Rw) (hR : repR W c.R) (hne : ρ0.length ≤ 1) : ∀ Q e H, (lp_TrB e H W).all (fun y => YE c ρ0 Q 44 (toX y.1) y.2.1 y.2.2) → YC Try.prog c ρ0 Q 44 (.loop (loopC 3 (codeOf Try.f10))) e H := by
  intro Q e H h
  unfold lp_TrB at h
  (try simp only at h)
  split at h
  · rename_i heq
    exact lpp_lp_TrB _ _ _ _ _ _ _ _ _ hR hne (by assumption) h
  · exact h.elim
noncomputable def out_ir_Translate (eo : Nat) (n : Nat) (cap : Nat) (A : Option Addr) (l : List (Sh 0)) : Tr (SV × List Bk) :=
Tr.ass (((0 : Int) ≤ if (16 : Int) < (↑n : Int) then (16 : Int) else (↑n : Int)) ∧ (if (16 : Int) < (↑n : Int) then (16 : Int) else (↑n : Int)) ≤ (↑n : Int))
 (Tr.ass ((0 : Int) ≤ (↑(0 : Nat) : Int) ∧ (↑(0 : Nat) : Int) ≤ (↑(Int.toNat (if (16 : Int) < (↑n : Int) then (16 : Int) else (↑n : Int))) : Int))
 (Tr.ass (n ≤ cap)
 (Tr.ass
 (((↑(Int.toNat (if (16 : Int) < (↑n : Int) then (16 : Int) else (↑n : Int))) : Int) = (↑(Int.toNat (if (16 : Int) < (↑n : Int) then (16 : Int) else (↑n : Int))) : Int) ∧
 (0 : Int) = (0 : Int)) ∧
 Int.toNat (if (16 : Int) < (↑n : Int) then (16 : Int) else (↑n : Int)) ≤ (16 : Nat) ∧
 Int.toNat (if (16 : Int) < (↑n : Int) then (16 : Int) else (↑n : Int)) ≤ (65536 : Nat) ∧
 eo + Int.toNat (if (16 : Int) < (↑n : Int) then (16 : Int) else (↑n : Int)) ≤ List.length l ∧
 ∀ (x : Sh (0 : Nat)), x ∈ X.sub l eo (Int.toNat (if (16 : Int) < (↑n : Int) then (16 : Int) else (↑n : Int))) → Z.U32 x)
 (Tr.ite (decide (List.length (X.trM (X.sub l eo (Int.toNat (if (16 : Int) < (↑n : Int) then (16 : Int) else (↑n : Int))))) = (0 : Nat)))
 (Tr.ret (SV.v (V1.c Sc.ns), []))
 (Tr.any Nat fun x =>
 Tr.any (List Mic) fun x_1 =>
 Tr.hyp
 (List.length (X.trM (X.sub l eo (Int.toNat (if (16 : Int) < (↑n : Int) then (16 : Int) else (↑n : Int))))) ≤ x ∧
 List.length x_1 = x ∧
 List.take (List.length (X.trM (X.sub l eo (Int.toNat (if (16 : Int) < (↑n : Int) then (16 : Int) else (↑n : Int)))))) x_1 =
 X.trM (X.sub l eo (Int.toNat (if (16 : Int) < (↑n : Int) then (16 : Int) else (↑n : Int)))))
 (Tr.ret
 (SV.v
 (V1.c
 (Sc.sl (nat_lit 0) (nat_lit 0) (nat_lit 6) (nat_lit 0) (List.length (X.trM (X.sub l eo (Int.toNat (if (16 : Int) < (↑n : Int) then (16 : Int) else (↑n : Int))))))
 x)),
 [Bk.mk (nat_lit 28) [Seg.arr (nat_lit 5) x x_1] true])))))))

theorem run_ir_Translate (eo : Nat) (n : Nat) (cap : Nat) (A : Option Addr) (l : List (Sh 0)) (W : List Rw) : runF cx_ir_Translate 44 [.tmp 2] (codeOf Try.f10) [(.v (.c (.rs 0 1 eo n cap A)))] [] (⟨0, l⟩ :: W) = out_ir_Translate eo n cap A l := by kernel_rfl
theorem pf_ir_Translate (eo : Nat) (n : Nat) (cap : Nat) (A : Option Addr) (l : List (Sh 0)) (K : SV × List Bk → Prop) (h : (.ass (n ≤ cap ∧ n ≤ 65536 ∧ eo + n ≤ l.length ∧ (∀ x ∈ sub l eo n, U32 x)) (.ite (decide ((trM ((sub l eo n).take 16)).length = 0)) (.ret (.v (.c (.ns)), [])) (.any Nat fun cq => .any (List Mic) fun q => .hyp ((trM ((sub l eo n).take 16)).length ≤ cq ∧ q.length = cq ∧ q.take (trM ((sub l eo n).take 16)).length = trM ((sub l eo n).take 16)) (.ret (.v (.c (.sl 0 0 6 0 (trM ((sub l eo n).take 16)).length cq)), [⟨28, [.arr 5 cq q], true⟩])))) : Tr (SV × List Bk)).all K) : (out_ir_Translate eo n cap A l).all K := by
  obtain ⟨hp, h⟩ := h
  replace h := h hp
  obtain ⟨hc, hn, hN, hu⟩ := hp
  unfold out_ir_Translate
  simp only [Tr.all, toNat_min, sub_min]
  exact ⟨⟨by split <;> omega, by split <;> omega⟩, fun _ => ⟨by omega, fun _ => ⟨hc, fun _ => ⟨⟨by simp, by omega, by omega, by omega, fun x hx => hu x (List.mem_of_mem_take hx)⟩, fun _ => h⟩⟩⟩⟩
noncomputable def out_ir_Translate_2 (eo : Nat) (n : Nat) (cap : Nat) (wr : Bool) (N : Nat) (l : List (Sh 0)) : Tr (SV × List Bk) :=
Tr.ass (((0 : Int) ≤ if (16 : Int) < (↑n : Int) then (16 : Int) else (↑n : Int)) ∧ (if (16 : Int) < (↑n : Int) then (16 : Int) else (↑n : Int)) ≤ (↑cap : Int))
 (Tr.ass ((0 : Int) ≤ (↑(0 : Nat) : Int) ∧ (↑(0 : Nat) : Int) ≤ (↑(Int.toNat (if (16 : Int) < (↑n : Int) then (16 : Int) else (↑n : Int))) : Int))
 (Tr.ass
 (((↑(Int.toNat (if (16 : Int) < (↑n : Int) then (16 : Int) else (↑n : Int))) : Int) = (↑(Int.toNat (if (16 : Int) < (↑n : Int) then (16 : Int) else (↑n : Int))) : Int) ∧ (0 : Int) = (0 : Int)) ∧
 Int.toNat (if (16 : Int) < (↑n : Int) then (16 : Int) else (↑n : Int)) ≤ (16 : Nat) ∧
 Int.toNat (if (16 : Int) < (↑n : Int) then (16 : Int) else (↑n : Int)) ≤ (65536 : Nat) ∧
 eo + Int.toNat (if (16 : Int) < (↑n : Int) then (16 : Int) else (↑n : Int)) ≤ N ∧
 N ≤ List.length l ∧ ∀ (x : Sh (0 : Nat)), x ∈ X.sub l eo (Int.toNat (if (16 : Int) < (↑n : Int) then (16 : Int) else (↑n : Int))) → Z.U32 x)
 (Tr.ite (decide (List.length (X.trM (X.sub l eo (Int.toNat (if (16 : Int) < (↑n : Int) then (16 : Int) else (↑n : Int))))) = (0 : Nat)))
 (Tr.ret (SV.v (V1.c Sc.ns), [Bk.mk (nat_lit 26) [Seg.arr (nat_lit 0) N l] wr]))
 (Tr.any Nat fun x =>
 Tr.any (List Mic) fun x_1 =>
 Tr.hyp
 (List.length (X.trM (X.sub l eo (Int.toNat (if (16 : Int) < (↑n : Int) then (16 : Int) else (↑n : Int))))) ≤ x ∧
 List.length x_1 = x ∧
 List.take (List.length (X.trM (X.sub l eo (Int.toNat (if (16 : Int) < (↑n : Int) then (16 : Int) else (↑n : Int)))))) x_1 =
 X.trM (X.sub l eo (Int.toNat (if (16 : Int) < (↑n : Int) then (16 : Int) else (↑n : Int)))))
 (Tr.ret
 (SV.v
 (V1.c
 (Sc.sl (nat_lit 1) (nat_lit 0) (nat_lit 6) (nat_lit 0) (List.length (X.trM (X.sub l eo (Int.toNat (if (16 : Int) < (↑n : Int) then (16 : Int) else (↑n : Int)))))) x)),
 [Bk.mk (nat_lit 26) [Seg.arr (nat_lit 0) N l] wr, Bk.mk (nat_lit 28) [Seg.arr (nat_lit 5) x x_1] true]))))))

theorem run_ir_Translate_2 (eo : Nat) (n : Nat) (cap : Nat) (wr : Bool) (N : Nat) (l : List (Sh 0)) (W : List Rw) : runF cx_ir_Translate_v2 44 [.tmp 2] (codeOf Try.f10) [(.v (.c (.sl 0 0 1 eo n cap)))] [⟨26, [.arr 0 N l], wr⟩] W = out_ir_Translate_2 eo n cap wr N l := by kernel_rfl
theorem pf_ir_Translate_2 (eo : Nat) (n : Nat) (cap : Nat) (wr : Bool) (N : Nat) (l : List (Sh 0)) (K : SV × List Bk → Prop) (h : (.ass (n ≤ cap ∧ n ≤ 65536 ∧ eo + n ≤ N ∧ N ≤ l.length ∧ (∀ x ∈ sub l eo n, U32 x)) (.ite (decide ((trM ((sub l eo n).take 16)).length = 0)) (.ret (.v (.c (.ns)), [⟨26, [.arr 0 N l], wr⟩])) (.any Nat fun cq => .any (List Mic) fun q => .hyp ((trM ((sub l eo n).take 16)).length ≤ cq ∧ q.length = cq ∧ q.take (trM ((sub l eo n).take 16)).length = trM ((sub l eo n).take 16)) (.ret (.v (.c (.sl 1 0 6 0 (trM ((sub l eo n).take 16)).length cq)), [⟨26, [.arr 0 N l], wr⟩, ⟨28, [.arr 5 cq q], true⟩])))) : Tr (SV × List Bk)).all K) : (out_ir_Translate_2 eo n cap wr N l).all K := by
  obtain ⟨hp, h⟩ := h
  replace h := h hp
  obtain ⟨hc, hn, hN, hNl, hu⟩ := hp
  unfold out_ir_Translate_2
  simp only [Tr.all, toNat_min, sub_min]
  exact ⟨⟨by split <;> omega, by split <;> omega⟩, fun _ => ⟨by omega, fun _ => ⟨⟨by simp, by omega, by omega, by omega, hNl, fun x hx => hu x (List.mem_of_mem_take hx)⟩, fun _ => h⟩⟩⟩
noncomputable def con_ir_Translate : Con := ⟨false, fun args H W => match args, H, W with
  | [(.v (.c (.rs 0 1 eo n cap A)))], [], ⟨0, l⟩ :: W => .ass (n ≤ cap ∧ n ≤ 65536 ∧ eo + n ≤ l.length ∧ (∀ x ∈ sub l eo n, U32 x)) (.ite (decide ((trM ((sub l eo n).take 16)).length = 0)) (.ret (.v (.c (.ns)), [])) (.any Nat fun cq => .any (List Mic) fun q => .hyp ((trM ((sub l eo n).take 16)).length ≤ cq ∧ q.length = cq ∧ q.take (trM ((sub l eo n).take 16)).length = trM ((sub l eo n).take 16)) (.ret (.v (.c (.sl 0 0 6 0 (trM ((sub l eo n).take 16)).length cq)), [⟨28, [.arr 5 cq q], true⟩]))))
  | [(.v (.c (.sl 0 0 1 eo n cap)))], [⟨26, [.arr 0 N l], wr⟩], _ => .ass (n ≤ cap ∧ n ≤ 65536 ∧ eo + n ≤ N ∧ N ≤ l.length ∧ (∀ x ∈ sub l eo n, U32 x)) (.ite (decide ((trM ((sub l eo n).take 16)).length = 0)) (.ret (.v (.c (.ns)), [⟨26, [.arr 0 N l], wr⟩])) (.any Nat fun cq => .any (List Mic) fun q => .hyp ((trM ((sub l eo n).take 16)).length ≤ cq ∧ q.length = cq ∧ q.take (trM ((sub l eo n).take 16)).length = trM ((sub l eo n).take 16)) (.ret (.v (.c (.sl 1 0 6 0 (trM ((sub l eo n).take 16)).length cq)), [⟨26, [.arr 0 N l], wr⟩, ⟨28, [.arr 5 cq q], true⟩]))))
  | _, _, _ => .stuck 900⟩
theorem lpok_ir_Translate (c : Z.Cx) (ρ0 : List Nat) (W : List Rw) (hR : repR W c.R) (hne : ρ0.length ≤ 0) : LpOK Try.prog cx_ir_Translate c ρ0 44 W (codeOf Try.f10) := LpOK.all (ls := [((loopC 3 (codeOf Try.f10)), lp_Tr)]) (by kernel_rfl) ⟨⟨(by kernel_rfl), lpc_lp_Tr c ρ0 W hR hne⟩, trivial⟩
theorem lpok_ir_Translate_v2 (c : Z.Cx) (ρ0 : List Nat) (W : List Rw) (hR : repR W c.R) (hne : ρ0.length ≤ 1) : LpOK Try.prog cx_ir_Translate_v2 c ρ0 44 W (codeOf Try.f10) := LpOK.all (ls := [((loopC 3 (codeOf Try.f10)), lp_TrB)]) (by kernel_rfl) ⟨⟨(by kernel_rfl), lpc_lp_TrB c ρ0 W hR hne⟩, trivial⟩
theorem ok_ir_Translate : ConOK Try.prog 10 con_ir_Translate := con_ok' (code := (codeOf Try.f10)) (N := 44) (rs := [.tmp 2]) Try.func10 rfl rfl rfl (by
  intro args H W K h hro
  unfold con_ir_Translate at h
  simp only at h
  split at h
  · refine Way.mk' cx_ir_Translate_ok 0 lpok_ir_Translate rfl ?_
    rw [run_ir_Translate]
    exact pf_ir_Translate _ _ _ _ _ K h
  · refine Way.mk' cx_ir_Translate_v2_ok 1 lpok_ir_Translate_v2 rfl ?_
    rw [run_ir_Translate_2]
    exact pf_ir_Translate_2 _ _ _ _ _ _ K h
  · exact h.elim)
noncomputable def lp_Same : LpT := fun e H W => match canE 2 [0, 1, 4, 5] e H, W with
  | some ([(.v (.c (.sl 0 0 6 eo n cap))), (.v (.c (.sl 1 0 6 eo2 n2 cap2))), (.v (.c (.b z))), (.v (.c (.i .i64 i)))], [⟨28, [.arr 5 N l], wr⟩, ⟨28, [.arr 5 M q], wq⟩]), W => .ass ((z = false ∧ i = ((0 : Nat) : Int)) ∧ n = n2 ∧ (n ≤ 65536 ∧ eo + n ≤ N ∧ N ≤ l.length) ∧ n2 ≤ 65536 ∧ eo2 + n2 ≤ M ∧ M ≤ q.length) (.ite (decide ((sub l eo n : List Mic) = sub q eo2 n2)) (.ret (.ex 0, [], [⟨28, [.arr 5 N l], wr⟩, ⟨28, [.arr 5 M q], wq⟩])) (.ret (.ret, [(4, .v (.c (.b (false))))], [⟨28, [.arr 5 N l], wr⟩, ⟨28, [.arr 5 M q], wq⟩])))
  | some ([(.v (.c .ns)), (.v (.c (.sl 0 0 6 eo2 n2 cap2))), (.v (.c (.b z))), (.v (.c (.i .i64 i)))], [⟨28, [.arr 5 M q], wq⟩]), W => .ass ((z = false ∧ i = ((0 : Nat) : Int)) ∧ 0 = n2 ∧ n2 ≤ 65536 ∧ eo2 + n2 ≤ M ∧ M ≤ q.length) (.ite (decide (([] : List Mic) = sub q eo2 n2)) (.ret (.ex 0, [], [⟨28, [.arr 5 M q], wq⟩])) (.ret (.ret, [(4, .v (.c (.b (false))))], [⟨28, [.arr 5 M q], wq⟩])))
  | _, _ => .stuck 901
noncomputable def cx_zoetroperef14_Same : Ctx := mkCtx tys eqs [] [(4, lp_Same)]
theorem cx_zoetroperef14_Same_ok : CtxOK Try.prog cx_zoetroperef14_Same := mkCtx_ok _ mixed tys_ok eqs_ok trivial
noncomputable def outr_lp_Same (eo : Nat) (n : Nat) (cap : Nat) (eo2 : Nat) (n2 : Nat) (cap2 : Nat) (z : Bool) (i : Int) (wr : Bool) (N : Nat) (l : List (Sh 5)) (wq : Bool) (M : Nat) (q : List (Sh 5)) : Tr (X × List SV × List Bk) :=
Tr.ite (decide (i < (↑n : Int)))
 (Tr.ass ((0 : Int) ≤ i ∧ i < (↑n : Int))
 (Tr.ass (eo + Int.toNat i < N)
 (Tr.ass ((0 : Int) ≤ i ∧ i < (↑n2 : Int))
 (Tr.ass (eo2 + Int.toNat i < M)
 (Tr.ite
 (!(decide
 (Mic.k (List.getD l (eo + Int.toNat i) (Mic.mk (0 : Int) (0 : Int) (0 : Int) (0 : Int) (0 : Int) (0 : Int))) =
 Mic.k (List.getD q (eo2 + Int.toNat i) (Mic.mk (0 : Int) (0 : Int) (0 : Int) (0 : Int) (0 : Int) (0 : Int)))) &&
 (decide
 (Mic.d (List.getD l (eo + Int.toNat i) (Mic.mk (0 : Int) (0 : Int) (0 : Int) (0 : Int) (0 : Int) (0 : Int))) =
 Mic.d (List.getD q (eo2 + Int.toNat i) (Mic.mk (0 : Int) (0 : Int) (0 : Int) (0 : Int) (0 : Int) (0 : Int)))) &&
 (decide
 (Mic.a (List.getD l (eo + Int.toNat i) (Mic.mk (0 : Int) (0 : Int) (0 : Int) (0 : Int) (0 : Int) (0 : Int))) =
 Mic.a (List.getD q (eo2 + Int.toNat i) (Mic.mk (0 : Int) (0 : Int) (0 : Int) (0 : Int) (0 : Int) (0 : Int)))) &&
 (decide
 (Mic.b (List.getD l (eo + Int.toNat i) (Mic.mk (0 : Int) (0 : Int) (0 : Int) (0 : Int) (0 : Int) (0 : Int))) =
 Mic.b (List.getD q (eo2 + Int.toNat i) (Mic.mk (0 : Int) (0 : Int) (0 : Int) (0 : Int) (0 : Int) (0 : Int)))) &&
 (decide
 (Mic.i (List.getD l (eo + Int.toNat i) (Mic.mk (0 : Int) (0 : Int) (0 : Int) (0 : Int) (0 : Int) (0 : Int))) =
 Mic.i (List.getD q (eo2 + Int.toNat i) (Mic.mk (0 : Int) (0 : Int) (0 : Int) (0 : Int) (0 : Int) (0 : Int)))) &&
 decide
 (Mic.c (List.getD l (eo + Int.toNat i) (Mic.mk (0 : Int) (0 : Int) (0 : Int) (0 : Int) (0 : Int) (0 : Int))) =
 Mic.c (List.getD q (eo2 + Int.toNat i) (Mic.mk (0 : Int) (0 : Int) (0 : Int) (0 : Int) (0 : Int) (0 : Int))))))))))
 (Tr.ret
 (X.ret,
 [SV.v (V1.c (Sc.sl (nat_lit 0) (nat_lit 0) (nat_lit 6) eo n cap)), SV.v (V1.c (Sc.sl (nat_lit 1) (nat_lit 0) (nat_lit 6) eo2 n2 cap2)),
 SV.v (V1.c (Sc.b false)), SV.v (V1.c (Sc.i IntKind.i64 i))],
 [Bk.mk (nat_lit 28) [Seg.arr (nat_lit 5) N l] wr, Bk.mk (nat_lit 28) [Seg.arr (nat_lit 5) M q] wq]))
 (Tr.ret
 (X.nor,
 [SV.v (V1.c (Sc.sl (nat_lit 0) (nat_lit 0) (nat_lit 6) eo n cap)), SV.v (V1.c (Sc.sl (nat_lit 1) (nat_lit 0) (nat_lit 6) eo2 n2 cap2)),
 SV.v (V1.c (Sc.b z)), SV.v (V1.c (Sc.i IntKind.i64 (IntKind.wrap IntKind.i64 (i + (1 : Int)))))],
 [Bk.mk (nat_lit 28) [Seg.arr (nat_lit 5) N l] wr, Bk.mk (nat_lit 28) [Seg.arr (nat_lit 5) M q] wq])))))))
 (Tr.ret
 (X.ex (nat_lit 0),
 [SV.v (V1.c (Sc.sl (nat_lit 0) (nat_lit 0) (nat_lit 6) eo n cap)), SV.v (V1.c (Sc.sl (nat_lit 1) (nat_lit 0) (nat_lit 6) eo2 n2 cap2)),
 SV.v (V1.c (Sc.b z)), SV.v (V1.c (Sc.i IntKind.i64 i))],
 [Bk.mk (nat_lit 28) [Seg.arr (nat_lit 5) N l] wr, Bk.mk (nat_lit 28) [Seg.arr (nat_lit 5) M q] wq]))

theorem rnd_lp_Same (eo : Nat) (n : Nat) (cap : Nat) (eo2 : Nat) (n2 : Nat) (cap2 : Nat) (z : Bool) (i : Int) (wr : Bool) (N : Nat) (l : List (Sh 5)) (wq : Bool) (M : Nat) (q : List (Sh 5)) (W : List Rw) : rnd cx_zoetroperef14_Same 26 W (loopC 4 (codeOf Try.f11)) [0, 1, 4, 5] 2 (zipE [0, 1, 4, 5] [(.v (.c (.sl 0 0 6 eo n cap))), (.v (.c (.sl 1 0 6 eo2 n2 cap2))), (.v (.c (.b z))), (.v (.c (.i .i64 i)))]) [⟨28, [.arr 5 N l], wr⟩, ⟨28, [.arr 5 M q], wq⟩] = outr_lp_Same eo n cap eo2 n2 cap2 z i wr N l wq M q := by kernel_rfl
noncomputable def outr_lp_Same_2 (eo2 : Nat) (n2 : Nat) (cap2 : Nat) (z : Bool) (i : Int) (wq : Bool) (M : Nat) (q : List (Sh 5)) : Tr (X × List SV × List Bk) :=
Tr.ite (decide (i < (0 : Int))) (Tr.stuck (nat_lit 148))
 (Tr.ret
 (X.ex (nat_lit 0),
 [SV.v (V1.c Sc.ns), SV.v (V1.c (Sc.sl (nat_lit 0) (nat_lit 0) (nat_lit 6) eo2 n2 cap2)), SV.v (V1.c (Sc.b z)),
 SV.v (V1.c (Sc.i IntKind.i64 i))],
 [Bk.mk (nat_lit 28) [Seg.arr (nat_lit 5) M q] wq]))

theorem rnd_lp_Same_2 (eo2 : Nat) (n2 : Nat) (cap2 : Nat) (z : Bool) (i : Int) (wq : Bool) (M : Nat) (q : List (Sh 5)) (W : List Rw) : rnd cx_zoetroperef14_Same 26 W (loopC 4 (codeOf Try.f11)) [0, 1, 4, 5] 2 (zipE [0, 1, 4, 5] [(.v (.c .ns)), (.v (.c (.sl 0 0 6 eo2 n2 cap2))), (.v (.c (.b z))), (.v (.c (.i .i64 i)))]) [⟨28, [.arr 5 M q], wq⟩] = outr_lp_Same_2 eo2 n2 cap2 z i wq M q := by kernel_rfl
theorem lpp_lp_Same {c0 : Z.Cx} {ρ0 : List Nat} (eo : Nat) (n : Nat) (cap : Nat) (eo2 : Nat) (n2 : Nat) (cap2 : Nat) (z : Bool) (i : Int) (wr : Bool) (N : Nat) (l : List (Sh 5)) (wq : Bool) (M : Nat) (q : List (Sh 5)) (W : List Rw) (hR : repR W c0.R) (hne : ρ0.length ≤ 2) {Q : Exit → Act → World → Prop} {e : Env} {H : List Bk} (hsel : canE 2 [0, 1, 4, 5] e H = some ([(.v (.c (.sl 0 0 6 eo n cap))), (.v (.c (.sl 1 0 6 eo2 n2 cap2))), (.v (.c (.b z))), (.v (.c (.i .i64 i)))], [⟨28, [.arr 5 N l], wr⟩, ⟨28, [.arr 5 M q], wq⟩])) (h : (.ass ((z = false ∧ i = ((0 : Nat) : Int)) ∧ n = n2 ∧ (n ≤ 65536 ∧ eo + n ≤ N ∧ N ≤ l.length) ∧ n2 ≤ 65536 ∧ eo2 + n2 ≤ M ∧ M ≤ q.length) (.ite (decide ((sub l eo n : List Mic) = sub q eo2 n2)) (.ret (.ex 0, [], [⟨28, [.arr 5 N l], wr⟩, ⟨28, [.arr 5 M q], wq⟩])) (.ret (.ret, [(4, .v (.c (.b (false))))], [⟨28, [.arr 5 N l], wr⟩, ⟨28, [.arr 5 M q], wq⟩]))) : Tr (X × Env × List Bk)).all (fun y => YE c0 ρ0 Q 26 (toX y.1) y.2.1 y.2.2)) : YC Try.prog c0 ρ0 Q 26 (.loop (loopC 4 (codeOf Try.f11))) e H := by
  obtain ⟨hp, h⟩ := h
  replace h := h hp
  obtain ⟨⟨rfl, rfl⟩, hnn, hN, hN2⟩ := hp
  have hle : eo + n ≤ l.length := by omega
  have hle2 : eo2 + n2 ≤ q.length := by omega
  refine YC.canon hne hsel ?_
  have key := loop_sound (P := Try.prog) (c := c0) (ρ0 := ρ0) (N := 26) (Q := Q) cx_zoetroperef14_Same_ok hR (LpOK.no (by kernel_rfl)) [0, 1, 4, 5] 2 hne (σ := Nat) (body := (loopC 4 (codeOf Try.f11))) (fun s => [.v (.c (.sl 0 0 6 eo n cap)), .v (.c (.sl 1 0 6 eo2 n2 cap2)), .v (.c (.b false)), .v (.c (.i .i64 ((s : Int))))]) (fun _ => [⟨28, [.arr 5 N l], wr⟩, ⟨28, [.arr 5 M q], wq⟩]) (fun s => s ≤ n ∧ (sub l eo n).take s = (sub q eo2 n2).take s) (fun s => n - s) (fun y => ((sub l eo n : List Mic) = sub q eo2 n2 ∧ ∃ u, y = (.ex 0, [.v (.c (.sl 0 0 6 eo n cap)), .v (.c (.sl 1 0 6 eo2 n2 cap2)), .v (.c (.b false)), .v (.c (.i .i64 (u)))], [⟨28, [.arr 5 N l], wr⟩, ⟨28, [.arr 5 M q], wq⟩])) ∨ ((sub l eo n : List Mic) ≠ sub q eo2 n2 ∧ ∃ u, y = (.ret, [.v (.c (.sl 0 0 6 eo n cap)), .v (.c (.sl 1 0 6 eo2 n2 cap2)), .v (.c (.b false)), .v (.c (.i .i64 (u)))], [⟨28, [.arr 5 N l], wr⟩, ⟨28, [.arr 5 M q], wq⟩]))) ?round ?post 0 ⟨by omega, rfl⟩
  case round =>
    intro s hI
    rw [rnd_lp_Same]
    unfold outr_lp_Same
    simp only [Tr.all]
    obtain ⟨hI, hI2⟩ := hI
    rw [show eo + ((s : Nat) : Int).toNat = eo + s by omega, show eo2 + ((s : Nat) : Int).toNat = eo2 + s by omega]
    refine ⟨fun hc => ?_, fun hc => Or.inr ⟨nofun, Or.inl ⟨?_, _, rfl⟩⟩⟩
    · have hc := of_decide_eq_true hc
      have hc : s < n := by omega
      rw [Z.wI64 (z := (s : Int) + 1) (by omega)]
      have s1 := sub_step (d := (⟨0, 0, 0, 0, 0, 0⟩ : Mic)) hle hc
      have s2 := sub_step (d := (⟨0, 0, 0, 0, 0, 0⟩ : Mic)) hle2 (show s < n2 by omega)
      refine ⟨by omega, fun _ => ⟨by omega, fun _ => ⟨by omega, fun _ => ⟨by omega, fun _ => ?_⟩⟩⟩⟩
      rw [mic_eq]
      refine ⟨fun h1 => Or.inr ⟨nofun, Or.inr ⟨fun he => ?_, _, rfl⟩⟩, fun h1 => Or.inl ⟨trivial, s + 1, ⟨by omega, ?_⟩, by omega, rfl, trivial⟩⟩
      · have h1 : ¬ l.getD (eo + s) ⟨0, 0, 0, 0, 0, 0⟩ = q.getD (eo2 + s) ⟨0, 0, 0, 0, 0, 0⟩ := by simpa using h1
        rw [he, s2] at s1
        exact h1 (by simpa using s1.symm)
      · have h1 : l.getD (eo + s) ⟨0, 0, 0, 0, 0, 0⟩ = q.getD (eo2 + s) ⟨0, 0, 0, 0, 0, 0⟩ := by simpa using h1
        rw [s1, s2, hI2, h1]
    · have hc := of_decide_eq_false hc
      obtain rfl : s = n := by omega
      subst hnn
      rwa [sub_take hle, sub_take hle2] at hI2
  case post =>
    intro y hy hp
    rcases hp with ⟨hf, u, rfl⟩ | ⟨hf, u, rfl⟩
    · exact YE.weaken Sub.nil (h.1 (decide_eq_true hf))
    · exact YE.weaken (Sub.cons rfl Sub.nil) (h.2 (decide_eq_false hf))
  exact key
theorem lpp_lp_Same_2 {c0 : Z.Cx} {ρ0 : List Nat} (eo2 : Nat) (n2 : Nat) (cap2 : Nat) (z : Bool) (i : Int) (wq : Bool) (M : Nat) (q : List (Sh 5)) (W : List Rw) (hR : repR W c0.R) (hne : ρ0.length ≤ 2) {Q : Exit → Act → World → Prop} {e : Env} {H : List Bk} (hsel : canE 2 [0, 1, 4, 5] e H = some ([(.v (.c .ns)), (.v (.c (.sl 0 0 6 eo2 n2 cap2))), (.v (.c (.b z))), (.v (.c (.i .i64 i)))], [⟨28, [.arr 5 M q], wq⟩])) (h : (.ass ((z = false ∧ i = ((0 : Nat) : Int)) ∧ 0 = n2 ∧ n2 ≤ 65536 ∧ eo2 + n2 ≤ M ∧ M ≤ q.length) (.ite (decide (([] : List Mic) = sub q eo2 n2)) (.ret (.ex 0, [], [⟨28, [.arr 5 M q], wq⟩])) (.ret (.ret, [(4, .v (.c (.b (false))))], [⟨28, [.arr 5 M q], wq⟩]))) : Tr (X × Env × List Bk)).all (fun y => YE c0 ρ0 Q 26 (toX y.1) y.2.1 y.2.2)) : YC Try.prog c0 ρ0 Q 26 (.loop (loopC 4 (codeOf Try.f11))) e H := by
  obtain ⟨hp, h⟩ := h
  replace h := h hp
  obtain ⟨⟨rfl, rfl⟩, hnn, hN2⟩ := hp
  
  refine YC.canon hne hsel ?_
  have key := loop_sound (P := Try.prog) (c := c0) (ρ0 := ρ0) (N := 26) (Q := Q) cx_zoetroperef14_Same_ok hR (LpOK.no (by kernel_rfl)) [0, 1, 4, 5] 2 hne (σ := Nat) (body := (loopC 4 (codeOf Try.f11))) (fun s => [.v (.c .ns), .v (.c (.sl 0 0 6 eo2 n2 cap2)), .v (.c (.b false)), .v (.c (.i .i64 ((s : Int))))]) (fun _ => [⟨28, [.arr 5 M q], wq⟩]) (fun s => s ≤ 0) (fun s => 0 - s) (fun y => ∃ u, y = (.ex 0, [.v (.c .ns), .v (.c (.sl 0 0 6 eo2 n2 cap2)), .v (.c (.b false)), .v (.c (.i .i64 (u)))], [⟨28, [.arr 5 M q], wq⟩])) ?round ?post 0 (by omega)
  case round =>
    intro s hI
    rw [rnd_lp_Same_2]
    unfold outr_lp_Same_2
    simp only [Tr.all]
    exact ⟨fun hc => absurd (of_decide_eq_true hc) (by omega), fun _ => Or.inr ⟨nofun, _, rfl⟩⟩
  case post =>
    intro y hy hp
    obtain ⟨u, rfl⟩ := hp
    have hq : (sub q eo2 n2 : List Mic) = [] := by rw [← hnn]; exact List.take_zero ..
    exact YE.weaken Sub.nil (h.1 (decide_eq_true hq.symm))
  exact key
theorem lpc_lp_Same (c : Z.Cx) (ρ0 : List Nat) (W : List Rw) (hR : repR W c.R) (hne : ρ0.length ≤ 2) : ∀ Q e H, (lp_Same e H W).all (fun y => YE c ρ0 Q 26 (toX y.1) y.2.1 y.2.2) → YC Try.prog c ρ0 Q 26 (.loop (loopC 4 (codeOf Try.f11))) e H := by
  intro Q e H h
  unfold lp_Same at h
  (try simp only at h)
  split at h
  · rename_i heq
    exact lpp_lp_Same _ _ _ _ _ _ _ _ _ _ _ _ _ _ _ hR hne (by assumption) h
  · rename_i heq
    exact lpp_lp_Same_2 _ _ _ _ _ _ _ _ _ hR hne (by assumption) h
  · exact h.elim
noncomputable def out_zoetroperef14_Same (eo : Nat) (n : Nat) (cap : Nat) (eo2 : Nat) (n2 : Nat) (cap2 : Nat) (wr : Bool) (N : Nat) (l : List (Sh 5)) (wq : Bool) (M : Nat) (q : List (Sh 5)) : Tr (SV × List Bk) :=
Tr.ite (!decide ((↑n : Int) = (↑n2 : Int)))
 (Tr.ret (SV.v (V1.c (Sc.b false)), [Bk.mk (nat_lit 28) [Seg.arr (nat_lit 5) N l] wr, Bk.mk (nat_lit 28) [Seg.arr (nat_lit 5) M q] wq]))
 (Tr.ass ((false = false ∧ (0 : Int) = (↑(0 : Nat) : Int)) ∧ n = n2 ∧ (n ≤ (65536 : Nat) ∧ eo + n ≤ N ∧ N ≤ List.length l) ∧ n2 ≤ (65536 : Nat) ∧ eo2 + n2 ≤ M ∧ M ≤ List.length q)
 (Tr.ite (decide (X.sub l eo n = X.sub q eo2 n2))
 (Tr.ret (SV.v (V1.c (Sc.b true)), [Bk.mk (nat_lit 28) [Seg.arr (nat_lit 5) N l] wr, Bk.mk (nat_lit 28) [Seg.arr (nat_lit 5) M q] wq]))
 (Tr.ret (SV.v (V1.c (Sc.b false)), [Bk.mk (nat_lit 28) [Seg.arr (nat_lit 5) N l] wr, Bk.mk (nat_lit 28) [Seg.arr (nat_lit 5) M q] wq]))))

theorem run_zoetroperef14_Same (eo : Nat) (n : Nat) (cap : Nat) (eo2 : Nat) (n2 : Nat) (cap2 : Nat) (wr : Bool) (N : Nat) (l : List (Sh 5)) (wq : Bool) (M : Nat) (q : List (Sh 5)) (W : List Rw) : runF cx_zoetroperef14_Same 26 [.tmp 4] (codeOf Try.f11) [(.v (.c (.sl 0 0 6 eo n cap))), (.v (.c (.sl 1 0 6 eo2 n2 cap2)))] [⟨28, [.arr 5 N l], wr⟩, ⟨28, [.arr 5 M q], wq⟩] W = out_zoetroperef14_Same eo n cap eo2 n2 cap2 wr N l wq M q := by kernel_rfl
theorem pf_zoetroperef14_Same (eo : Nat) (n : Nat) (cap : Nat) (eo2 : Nat) (n2 : Nat) (cap2 : Nat) (wr : Bool) (N : Nat) (l : List (Sh 5)) (wq : Bool) (M : Nat) (q : List (Sh 5)) (K : SV × List Bk → Prop) (h : (.ass ((n ≤ 65536 ∧ eo + n ≤ N ∧ N ≤ l.length) ∧ n2 ≤ 65536 ∧ eo2 + n2 ≤ M ∧ M ≤ q.length) (.ret (.v (.c (.b (decide ((sub l eo n : List Mic) = sub q eo2 n2)))), [⟨28, [.arr 5 N l], wr⟩, ⟨28, [.arr 5 M q], wq⟩])) : Tr (SV × List Bk)).all K) : (out_zoetroperef14_Same eo n cap eo2 n2 cap2 wr N l wq M q).all K := by
  obtain ⟨hp, h⟩ := h
  replace h := h hp
  replace h : K _ := h
  unfold out_zoetroperef14_Same
  simp only [Tr.all]
  have hl1 := sub_len (l := l) (o := eo) (n := n) (by omega)
  have hl2 := sub_len (l := q) (o := eo2) (n := n2) (by omega)
  refine ⟨fun h1 => leafB h (decide_eq_false fun he => ?_), fun h1 => ⟨⟨by simp, ?_, hp⟩, fun _ => ⟨fun h2 => leafB h h2, fun h2 => leafB h h2⟩⟩⟩
  · rw [he, hl2] at hl1
    rw [hl1] at h1
    simp at h1
  · have : ¬ ¬ (n : Int) = (n2 : Int) := by simpa using h1
    omega
noncomputable def out_zoetroperef14_Same_2 (eo2 : Nat) (n2 : Nat) (cap2 : Nat) (wq : Bool) (M : Nat) (q : List (Sh 5)) : Tr (SV × List Bk) :=
Tr.ite (!decide ((0 : Int) = (↑n2 : Int))) (Tr.ret (SV.v (V1.c (Sc.b false)), [Bk.mk (nat_lit 28) [Seg.arr (nat_lit 5) M q] wq]))
 (Tr.ass ((false = false ∧ (0 : Int) = (↑(0 : Nat) : Int)) ∧ (0 : Nat) = n2 ∧ n2 ≤ (65536 : Nat) ∧ eo2 + n2 ≤ M ∧ M ≤ List.length q)
 (Tr.ite (decide ([] = X.sub q eo2 n2)) (Tr.ret (SV.v (V1.c (Sc.b true)), [Bk.mk (nat_lit 28) [Seg.arr (nat_lit 5) M q] wq]))
 (Tr.ret (SV.v (V1.c (Sc.b false)), [Bk.mk (nat_lit 28) [Seg.arr (nat_lit 5) M q] wq]))))

theorem run_zoetroperef14_Same_2 (eo2 : Nat) (n2 : Nat) (cap2 : Nat) (wq : Bool) (M : Nat) (q : List (Sh 5)) (W : List Rw) : runF cx_zoetroperef14_Same 26 [.tmp 4] (codeOf Try.f11) [(.v (.c .ns)), (.v (.c (.sl 0 0 6 eo2 n2 cap2)))] [⟨28, [.arr 5 M q], wq⟩] W = out_zoetroperef14_Same_2 eo2 n2 cap2 wq M q := by kernel_rfl
theorem pf_zoetroperef14_Same_2 (eo2 : Nat) (n2 : Nat) (cap2 : Nat) (wq : Bool) (M : Nat) (q : List (Sh 5)) (K : SV × List Bk → Prop) (h : (.ass (n2 ≤ 65536 ∧ eo2 + n2 ≤ M ∧ M ≤ q.length) (.ret (.v (.c (.b (decide (([] : List Mic) = sub q eo2 n2)))), [⟨28, [.arr 5 M q], wq⟩])) : Tr (SV × List Bk)).all K) : (out_zoetroperef14_Same_2 eo2 n2 cap2 wq M q).all K := by
  obtain ⟨hp, h⟩ := h
  replace h := h hp
  replace h : K _ := h
  unfold out_zoetroperef14_Same_2
  simp only [Tr.all]
  have hl2 := sub_len (l := q) (o := eo2) (n := n2) (by omega)
  refine ⟨fun h1 => leafB h (decide_eq_false fun he => ?_), fun h1 => ⟨⟨by simp, ?_, hp⟩, fun _ => ⟨fun h2 => leafB h h2, fun h2 => leafB h h2⟩⟩⟩
  · rw [← he] at hl2
    have : n2 = 0 := by simpa using hl2.symm
    rw [this] at h1
    exact absurd h1 (by decide)
  · have : ¬ ¬ (0 : Int) = (n2 : Int) := by simpa using h1
    omega
noncomputable def con_zoetroperef14_Same : Con := ⟨true, fun args H W => match args, H, W with
  | [(.v (.c (.sl 0 0 6 eo n cap))), (.v (.c (.sl 1 0 6 eo2 n2 cap2)))], [⟨28, [.arr 5 N l], wr⟩, ⟨28, [.arr 5 M q], wq⟩], _ => .ass ((n ≤ 65536 ∧ eo + n ≤ N ∧ N ≤ l.length) ∧ n2 ≤ 65536 ∧ eo2 + n2 ≤ M ∧ M ≤ q.length) (.ret (.v (.c (.b (decide ((sub l eo n : List Mic) = sub q eo2 n2)))), [⟨28, [.arr 5 N l], wr⟩, ⟨28, [.arr 5 M q], wq⟩]))
  | [(.v (.c .ns)), (.v (.c (.sl 0 0 6 eo2 n2 cap2)))], [⟨28, [.arr 5 M q], wq⟩], _ => .ass (n2 ≤ 65536 ∧ eo2 + n2 ≤ M ∧ M ≤ q.length) (.ret (.v (.c (.b (decide (([] : List Mic) = sub q eo2 n2)))), [⟨28, [.arr 5 M q], wq⟩]))
  | _, _, _ => .stuck 900⟩
theorem lpok_zoetroperef14_Same (c : Z.Cx) (ρ0 : List Nat) (W : List Rw) (hR : repR W c.R) (hne : ρ0.length ≤ 2) : LpOK Try.prog cx_zoetroperef14_Same c ρ0 26 W (codeOf Try.f11) := LpOK.all (ls := [((loopC 4 (codeOf Try.f11)), lp_Same)]) (by kernel_rfl) ⟨⟨(by kernel_rfl), lpc_lp_Same c ρ0 W hR hne⟩, trivial⟩
theorem ok_zoetroperef14_Same : ConOK Try.prog 11 con_zoetroperef14_Same := con_ok (code := (codeOf Try.f11)) (N := 26) (rs := [.tmp 4]) cx_zoetroperef14_Same_ok 2 Try.func11 rfl rfl rfl lpok_zoetroperef14_Same (by
  intro args H W K h hro
  unfold con_zoetroperef14_Same at h
  simp only at h
  split at h
  · refine ⟨rfl, ?_⟩
    rw [run_zoetroperef14_Same]
    exact pf_zoetroperef14_Same _ _ _ _ _ _ _ _ _ _ _ _ K h
  · refine ⟨rfl, ?_⟩
    rw [run_zoetroperef14_Same_2]
    exact pf_zoetroperef14_Same_2 _ _ _ _ _ _ K h
  · exact h.elim)
noncomputable def lp_RMay : LpT := fun e H W => match canE 0 [0, 2, 3] e H, W with
  | some ([(.v (.c (.rs 0 6 eo n cap A))), (.v (.c (.b z))), (.v (.c (.i .i64 i)))], []), ⟨5, l⟩ :: W => .ass ((z = false ∧ i = ((0 : Nat) : Int)) ∧ n ≤ 65536 ∧ eo + n ≤ l.length) (.ite (mayL 0 (sub l eo n)) (.ret (.ex 0, [], [])) (.ret (.ret, [(2, .v (.c (.b (false))))], [])))
  | _, _ => .stuck 901
noncomputable def cx_zoetroperef14_May : Ctx := mkCtx tys eqs [(28, con_zoetroperef14_reg)] [(4, lp_RMay)]
theorem cx_zoetroperef14_May_ok : CtxOK Try.prog cx_zoetroperef14_May := mkCtx_ok _ mixed tys_ok eqs_ok ⟨⟨ok_zoetroperef14_reg, Try.call28⟩, trivial⟩
noncomputable def outr_lp_RMay (eo : Nat) (n : Nat) (cap : Nat) (A : Option Addr) (z : Bool) (i : Int) (l : List (Sh 5)) : Tr (X × List SV × List Bk) :=
Tr.ite (decide (i < (↑n : Int)))
 (Tr.ass ((0 : Int) ≤ i ∧ i < (↑n : Int))
 (Tr.ass (eo + Int.toNat i < List.length l)
 (Tr.ite (decide ((0 : Int) ≤ Mic.k (List.getD l (eo + Int.toNat i) (Mic.mk (0 : Int) (0 : Int) (0 : Int) (0 : Int) (0 : Int) (0 : Int)))) == true)
 (Tr.ite (decide (Mic.k (List.getD l (eo + Int.toNat i) (Mic.mk (0 : Int) (0 : Int) (0 : Int) (0 : Int) (0 : Int) (0 : Int))) ≤ (13 : Int)) == true)
 (Tr.ite (decide ((0 : Int) ≤ Mic.c (List.getD l (eo + Int.toNat i) (Mic.mk (0 : Int) (0 : Int) (0 : Int) (0 : Int) (0 : Int) (0 : Int)))) == true)
 (Tr.ite (decide (Mic.c (List.getD l (eo + Int.toNat i) (Mic.mk (0 : Int) (0 : Int) (0 : Int) (0 : Int) (0 : Int) (0 : Int))) ≤ (16 : Int)) == true)
 (Tr.ite (decide (i = (0 : Int)) == false)
 (Tr.ass ((0 : Int) ≤ IntKind.wrap IntKind.i64 (i - (1 : Int)) ∧ IntKind.wrap IntKind.i64 (i - (1 : Int)) < (↑n : Int))
 (Tr.ass (eo + Int.toNat (IntKind.wrap IntKind.i64 (i - (1 : Int))) < List.length l)
 (Tr.ite (!decide (Mic.i (List.getD l (eo + Int.toNat i) (Mic.mk (0 : Int) (0 : Int) (0 : Int) (0 : Int) (0 : Int) (0 : Int))) = (0 : Int)))
 (Tr.ite (decide (Mic.k (List.getD l (eo + Int.toNat i) (Mic.mk (0 : Int) (0 : Int) (0 : Int) (0 : Int) (0 : Int) (0 : Int))) = (0 : Int)))
 (Tr.ite
 (!bif
 bif
 bif
 bif
 decide
 (Mic.c
 (List.getD l (eo + Int.toNat (IntKind.wrap IntKind.i64 (i - (1 : Int))))
 (Mic.mk (0 : Int) (0 : Int) (0 : Int) (0 : Int) (0 : Int) (0 : Int))) ≤
 Mic.c (List.getD l (eo + Int.toNat i) (Mic.mk (0 : Int) (0 : Int) (0 : Int) (0 : Int) (0 : Int) (0 : Int)))) then
 bif
 bif
 decide
 (Mic.k (List.getD l (eo + Int.toNat i) (Mic.mk (0 : Int) (0 : Int) (0 : Int) (0 : Int) (0 : Int) (0 : Int))) = (1 : Int)) then
 true
 else
 decide
 (Mic.a (List.getD l (eo + Int.toNat i) (Mic.mk (0 : Int) (0 : Int) (0 : Int) (0 : Int) (0 : Int) (0 : Int))) = (32 : Int)) then
 true
 else decide (Mic.b (List.getD l (eo + Int.toNat i) (Mic.mk (0 : Int) (0 : Int) (0 : Int) (0 : Int) (0 : Int) (0 : Int))) = (32 : Int))
 else false then
 decide (Mic.d (List.getD l (eo + Int.toNat i) (Mic.mk (0 : Int) (0 : Int) (0 : Int) (0 : Int) (0 : Int) (0 : Int))) = (0 : Int))
 else false then
 decide (Mic.a (List.getD l (eo + Int.toNat i) (Mic.mk (0 : Int) (0 : Int) (0 : Int) (0 : Int) (0 : Int) (0 : Int))) = (0 : Int))
 else false then
 decide (Mic.b (List.getD l (eo + Int.toNat i) (Mic.mk (0 : Int) (0 : Int) (0 : Int) (0 : Int) (0 : Int) (0 : Int))) = (0 : Int))
 else false)
 (Tr.ret
 (X.ret,
 [SV.v (V1.c (Sc.rs (nat_lit 0) (nat_lit 6) eo n cap A)), SV.v (V1.c (Sc.b false)), SV.v (V1.c (Sc.i IntKind.i64 i))],
 []))
 (Tr.ret
 (X.nor,
 [SV.v (V1.c (Sc.rs (nat_lit 0) (nat_lit 6) eo n cap A)), SV.v (V1.c (Sc.b z)),
 SV.v (V1.c (Sc.i IntKind.i64 (IntKind.wrap IntKind.i64 (i + (1 : Int)))))],
 [])))
 (Tr.ite (decide (Mic.k (List.getD l (eo + Int.toNat i) (Mic.mk (0 : Int) (0 : Int) (0 : Int) (0 : Int) (0 : Int) (0 : Int))) = (1 : Int)))
 (Tr.ite
 (!bif
 bif
 bif
 bif
 bif
 decide
 (Mic.c
 (List.getD l (eo + Int.toNat (IntKind.wrap IntKind.i64 (i - (1 : Int))))
 (Mic.mk (0 : Int) (0 : Int) (0 : Int) (0 : Int) (0 : Int) (0 : Int))) ≤
 Mic.c (List.getD l (eo + Int.toNat i) (Mic.mk (0 : Int) (0 : Int) (0 : Int) (0 : Int) (0 : Int) (0 : Int)))) then
 bif
 bif
 decide
 (Mic.k (List.getD l (eo + Int.toNat i) (Mic.mk (0 : Int) (0 : Int) (0 : Int) (0 : Int) (0 : Int) (0 : Int))) = (1 : Int)) then
 true
 else
 decide
 (Mic.a (List.getD l (eo + Int.toNat i) (Mic.mk (0 : Int) (0 : Int) (0 : Int) (0 : Int) (0 : Int) (0 : Int))) = (32 : Int)) then
 true
 else
 decide (Mic.b (List.getD l (eo + Int.toNat i) (Mic.mk (0 : Int) (0 : Int) (0 : Int) (0 : Int) (0 : Int) (0 : Int))) = (32 : Int))
 else false then
 decide ((1 : Int) ≤ Mic.d (List.getD l (eo + Int.toNat i) (Mic.mk (0 : Int) (0 : Int) (0 : Int) (0 : Int) (0 : Int) (0 : Int))))
 else false then
 decide (Mic.d (List.getD l (eo + Int.toNat i) (Mic.mk (0 : Int) (0 : Int) (0 : Int) (0 : Int) (0 : Int) (0 : Int))) ≤ (31 : Int))
 else false then
 decide (Mic.a (List.getD l (eo + Int.toNat i) (Mic.mk (0 : Int) (0 : Int) (0 : Int) (0 : Int) (0 : Int) (0 : Int))) = (0 : Int))
 else false then
 decide (Mic.b (List.getD l (eo + Int.toNat i) (Mic.mk (0 : Int) (0 : Int) (0 : Int) (0 : Int) (0 : Int) (0 : Int))) = (0 : Int))
 else false)
 (Tr.ret
 (X.ret,
 [SV.v (V1.c (Sc.rs (nat_lit 0) (nat_lit 6) eo n cap A)), SV.v (V1.c (Sc.b false)),
 SV.v (V1.c (Sc.i IntKind.i64 i))],
 []))
 (Tr.ret
 (X.nor,
 [SV.v (V1.c (Sc.rs (nat_lit 0) (nat_lit 6) eo n cap A)), SV.v (V1.c (Sc.b z)),
 SV.v (V1.c (Sc.i IntKind.i64 (IntKind.wrap IntKind.i64 (i + (1 : Int)))))],
 [])))
 (Tr.ite (decide (Mic.k (List.getD l (eo + Int.toNat i) (Mic.mk (0 : Int) (0 : Int) (0 : Int) (0 : Int) (0 : Int) (0 : Int))) = (2 : Int)))
 (Tr.ite
 (!bif
 bif
 bif
 bif
 bif
 decide
 (Mic.c
 (List.getD l (eo + Int.toNat (IntKind.wrap IntKind.i64 (i - (1 : Int))))
 (Mic.mk (0 : Int) (0 : Int) (0 : Int) (0 : Int) (0 : Int) (0 : Int))) ≤
 Mic.c (List.getD l (eo + Int.toNat i) (Mic.mk (0 : Int) (0 : Int) (0 : Int) (0 : Int) (0 : Int) (0 : Int)))) then
 bif
 bif
 decide
 (Mic.k (List.getD l (eo + Int.toNat i) (Mic.mk (0 : Int) (0 : Int) (0 : Int) (0 : Int) (0 : Int) (0 : Int))) = (1 : Int)) then
 true
 else
 decide
 (Mic.a (List.getD l (eo + Int.toNat i) (Mic.mk (0 : Int) (0 : Int) (0 : Int) (0 : Int) (0 : Int) (0 : Int))) = (32 : Int)) then
 true
 else
 decide
 (Mic.b (List.getD l (eo + Int.toNat i) (Mic.mk (0 : Int) (0 : Int) (0 : Int) (0 : Int) (0 : Int) (0 : Int))) = (32 : Int))
 else false then
 decide ((1 : Int) ≤ Mic.d (List.getD l (eo + Int.toNat i) (Mic.mk (0 : Int) (0 : Int) (0 : Int) (0 : Int) (0 : Int) (0 : Int))))
 else false then
 decide (Mic.d (List.getD l (eo + Int.toNat i) (Mic.mk (0 : Int) (0 : Int) (0 : Int) (0 : Int) (0 : Int) (0 : Int))) ≤ (31 : Int))
 else false then
 decide
 ((0 : Int) ≤ Mic.a (List.getD l (eo + Int.toNat i) (Mic.mk (0 : Int) (0 : Int) (0 : Int) (0 : Int) (0 : Int) (0 : Int))) ∧
 Mic.a (List.getD l (eo + Int.toNat i) (Mic.mk (0 : Int) (0 : Int) (0 : Int) (0 : Int) (0 : Int) (0 : Int))) ≤ (32 : Int))
 else false then
 decide (Mic.b (List.getD l (eo + Int.toNat i) (Mic.mk (0 : Int) (0 : Int) (0 : Int) (0 : Int) (0 : Int) (0 : Int))) = (0 : Int))
 else false)
 (Tr.ret
 (X.ret,
 [SV.v (V1.c (Sc.rs (nat_lit 0) (nat_lit 6) eo n cap A)), SV.v (V1.c (Sc.b false)),
 SV.v (V1.c (Sc.i IntKind.i64 i))],
 []))
 (Tr.ret
 (X.nor,
 [SV.v (V1.c (Sc.rs (nat_lit 0) (nat_lit 6) eo n cap A)), SV.v (V1.c (Sc.b z)),
 SV.v (V1.c (Sc.i IntKind.i64 (IntKind.wrap IntKind.i64 (i + (1 : Int)))))],
 [])))
 (Tr.ite
 (!bif
 bif
 bif
 bif
 bif
 decide
 (Mic.c
 (List.getD l (eo + Int.toNat (IntKind.wrap IntKind.i64 (i - (1 : Int))))
 (Mic.mk (0 : Int) (0 : Int) (0 : Int) (0 : Int) (0 : Int) (0 : Int))) ≤
 Mic.c (List.getD l (eo + Int.toNat i) (Mic.mk (0 : Int) (0 : Int) (0 : Int) (0 : Int) (0 : Int) (0 : Int)))) then
 bif
 bif
 decide
 (Mic.k (List.getD l (eo + Int.toNat i) (Mic.mk (0 : Int) (0 : Int) (0 : Int) (0 : Int) (0 : Int) (0 : Int))) = (1 : Int)) then
 true
 else
 decide
 (Mic.a (List.getD l (eo + Int.toNat i) (Mic.mk (0 : Int) (0 : Int) (0 : Int) (0 : Int) (0 : Int) (0 : Int))) = (32 : Int)) then
 true
 else
 decide
 (Mic.b (List.getD l (eo + Int.toNat i) (Mic.mk (0 : Int) (0 : Int) (0 : Int) (0 : Int) (0 : Int) (0 : Int))) = (32 : Int))
 else false then
 decide ((1 : Int) ≤ Mic.d (List.getD l (eo + Int.toNat i) (Mic.mk (0 : Int) (0 : Int) (0 : Int) (0 : Int) (0 : Int) (0 : Int))))
 else false then
 decide (Mic.d (List.getD l (eo + Int.toNat i) (Mic.mk (0 : Int) (0 : Int) (0 : Int) (0 : Int) (0 : Int) (0 : Int))) ≤ (31 : Int))
 else false then
 decide
 ((0 : Int) ≤ Mic.a (List.getD l (eo + Int.toNat i) (Mic.mk (0 : Int) (0 : Int) (0 : Int) (0 : Int) (0 : Int) (0 : Int))) ∧
 Mic.a (List.getD l (eo + Int.toNat i) (Mic.mk (0 : Int) (0 : Int) (0 : Int) (0 : Int) (0 : Int) (0 : Int))) ≤ (32 : Int))
 else false then
 decide
 ((0 : Int) ≤ Mic.b (List.getD l (eo + Int.toNat i) (Mic.mk (0 : Int) (0 : Int) (0 : Int) (0 : Int) (0 : Int) (0 : Int))) ∧
 Mic.b (List.getD l (eo + Int.toNat i) (Mic.mk (0 : Int) (0 : Int) (0 : Int) (0 : Int) (0 : Int) (0 : Int))) ≤ (32 : Int))
 else false)
 (Tr.ret
 (X.ret,
 [SV.v (V1.c (Sc.rs (nat_lit 0) (nat_lit 6) eo n cap A)), SV.v (V1.c (Sc.b false)),
 SV.v (V1.c (Sc.i IntKind.i64 i))],
 []))
 (Tr.ret
 (X.nor,
 [SV.v (V1.c (Sc.rs (nat_lit 0) (nat_lit 6) eo n cap A)), SV.v (V1.c (Sc.b z)),
 SV.v (V1.c (Sc.i IntKind.i64 (IntKind.wrap IntKind.i64 (i + (1 : Int)))))],
 []))))))
 (Tr.ite (decide (Mic.k (List.getD l (eo + Int.toNat i) (Mic.mk (0 : Int) (0 : Int) (0 : Int) (0 : Int) (0 : Int) (0 : Int))) = (0 : Int)))
 (Tr.ite
 (!bif
 bif
 bif
 decide
 (Mic.c
 (List.getD l (eo + Int.toNat (IntKind.wrap IntKind.i64 (i - (1 : Int))))
 (Mic.mk (0 : Int) (0 : Int) (0 : Int) (0 : Int) (0 : Int) (0 : Int))) ≤
 Mic.c (List.getD l (eo + Int.toNat i) (Mic.mk (0 : Int) (0 : Int) (0 : Int) (0 : Int) (0 : Int) (0 : Int)))) then
 decide (Mic.d (List.getD l (eo + Int.toNat i) (Mic.mk (0 : Int) (0 : Int) (0 : Int) (0 : Int) (0 : Int) (0 : Int))) = (0 : Int))
 else false then
 decide (Mic.a (List.getD l (eo + Int.toNat i) (Mic.mk (0 : Int) (0 : Int) (0 : Int) (0 : Int) (0 : Int) (0 : Int))) = (0 : Int))
 else false then
 decide (Mic.b (List.getD l (eo + Int.toNat i) (Mic.mk (0 : Int) (0 : Int) (0 : Int) (0 : Int) (0 : Int) (0 : Int))) = (0 : Int))
 else false)
 (Tr.ret
 (X.ret,
 [SV.v (V1.c (Sc.rs (nat_lit 0) (nat_lit 6) eo n cap A)), SV.v (V1.c (Sc.b false)), SV.v (V1.c (Sc.i IntKind.i64 i))],
 []))
 (Tr.ret
 (X.nor,
 [SV.v (V1.c (Sc.rs (nat_lit 0) (nat_lit 6) eo n cap A)), SV.v (V1.c (Sc.b z)),
 SV.v (V1.c (Sc.i IntKind.i64 (IntKind.wrap IntKind.i64 (i + (1 : Int)))))],
 [])))
 (Tr.ite (decide (Mic.k (List.getD l (eo + Int.toNat i) (Mic.mk (0 : Int) (0 : Int) (0 : Int) (0 : Int) (0 : Int) (0 : Int))) = (1 : Int)))
 (Tr.ite
 (!bif
 bif
 bif
 bif
 decide
 (Mic.c
 (List.getD l (eo + Int.toNat (IntKind.wrap IntKind.i64 (i - (1 : Int))))
 (Mic.mk (0 : Int) (0 : Int) (0 : Int) (0 : Int) (0 : Int) (0 : Int))) ≤
 Mic.c (List.getD l (eo + Int.toNat i) (Mic.mk (0 : Int) (0 : Int) (0 : Int) (0 : Int) (0 : Int) (0 : Int)))) then
 decide ((1 : Int) ≤ Mic.d (List.getD l (eo + Int.toNat i) (Mic.mk (0 : Int) (0 : Int) (0 : Int) (0 : Int) (0 : Int) (0 : Int))))
 else false then
 decide (Mic.d (List.getD l (eo + Int.toNat i) (Mic.mk (0 : Int) (0 : Int) (0 : Int) (0 : Int) (0 : Int) (0 : Int))) ≤ (31 : Int))
 else false then
 decide (Mic.a (List.getD l (eo + Int.toNat i) (Mic.mk (0 : Int) (0 : Int) (0 : Int) (0 : Int) (0 : Int) (0 : Int))) = (0 : Int))
 else false then
 decide (Mic.b (List.getD l (eo + Int.toNat i) (Mic.mk (0 : Int) (0 : Int) (0 : Int) (0 : Int) (0 : Int) (0 : Int))) = (0 : Int))
 else false)
 (Tr.ret
 (X.ret,
 [SV.v (V1.c (Sc.rs (nat_lit 0) (nat_lit 6) eo n cap A)), SV.v (V1.c (Sc.b false)),
 SV.v (V1.c (Sc.i IntKind.i64 i))],
 []))
 (Tr.ret
 (X.nor,
 [SV.v (V1.c (Sc.rs (nat_lit 0) (nat_lit 6) eo n cap A)), SV.v (V1.c (Sc.b z)),
 SV.v (V1.c (Sc.i IntKind.i64 (IntKind.wrap IntKind.i64 (i + (1 : Int)))))],
 [])))
 (Tr.ite (decide (Mic.k (List.getD l (eo + Int.toNat i) (Mic.mk (0 : Int) (0 : Int) (0 : Int) (0 : Int) (0 : Int) (0 : Int))) = (2 : Int)))
 (Tr.ite
 (!bif
 bif
 bif
 bif
 decide
 (Mic.c
 (List.getD l (eo + Int.toNat (IntKind.wrap IntKind.i64 (i - (1 : Int))))
 (Mic.mk (0 : Int) (0 : Int) (0 : Int) (0 : Int) (0 : Int) (0 : Int))) ≤
 Mic.c (List.getD l (eo + Int.toNat i) (Mic.mk (0 : Int) (0 : Int) (0 : Int) (0 : Int) (0 : Int) (0 : Int)))) then
 decide ((1 : Int) ≤ Mic.d (List.getD l (eo + Int.toNat i) (Mic.mk (0 : Int) (0 : Int) (0 : Int) (0 : Int) (0 : Int) (0 : Int))))
 else false then
 decide (Mic.d (List.getD l (eo + Int.toNat i) (Mic.mk (0 : Int) (0 : Int) (0 : Int) (0 : Int) (0 : Int) (0 : Int))) ≤ (31 : Int))
 else false then
 decide
 ((0 : Int) ≤ Mic.a (List.getD l (eo + Int.toNat i) (Mic.mk (0 : Int) (0 : Int) (0 : Int) (0 : Int) (0 : Int) (0 : Int))) ∧
 Mic.a (List.getD l (eo + Int.toNat i) (Mic.mk (0 : Int) (0 : Int) (0 : Int) (0 : Int) (0 : Int) (0 : Int))) ≤ (32 : Int))
 else false then
 decide (Mic.b (List.getD l (eo + Int.toNat i) (Mic.mk (0 : Int) (0 : Int) (0 : Int) (0 : Int) (0 : Int) (0 : Int))) = (0 : Int))
 else false)
 (Tr.ret
 (X.ret,
 [SV.v (V1.c (Sc.rs (nat_lit 0) (nat_lit 6) eo n cap A)), SV.v (V1.c (Sc.b false)),
 SV.v (V1.c (Sc.i IntKind.i64 i))],
 []))
 (Tr.ret
 (X.nor,
 [SV.v (V1.c (Sc.rs (nat_lit 0) (nat_lit 6) eo n cap A)), SV.v (V1.c (Sc.b z)),
 SV.v (V1.c (Sc.i IntKind.i64 (IntKind.wrap IntKind.i64 (i + (1 : Int)))))],
 [])))
 (Tr.ite
 (!bif
 bif
 bif
 bif
 decide
 (Mic.c
 (List.getD l (eo + Int.toNat (IntKind.wrap IntKind.i64 (i - (1 : Int))))
 (Mic.mk (0 : Int) (0 : Int) (0 : Int) (0 : Int) (0 : Int) (0 : Int))) ≤
 Mic.c (List.getD l (eo + Int.toNat i) (Mic.mk (0 : Int) (0 : Int) (0 : Int) (0 : Int) (0 : Int) (0 : Int)))) then
 decide ((1 : Int) ≤ Mic.d (List.getD l (eo + Int.toNat i) (Mic.mk (0 : Int) (0 : Int) (0 : Int) (0 : Int) (0 : Int) (0 : Int))))
 else false then
 decide (Mic.d (List.getD l (eo + Int.toNat i) (Mic.mk (0 : Int) (0 : Int) (0 : Int) (0 : Int) (0 : Int) (0 : Int))) ≤ (31 : Int))
 else false then
 decide
 ((0 : Int) ≤ Mic.a (List.getD l (eo + Int.toNat i) (Mic.mk (0 : Int) (0 : Int) (0 : Int) (0 : Int) (0 : Int) (0 : Int))) ∧
 Mic.a (List.getD l (eo + Int.toNat i) (Mic.mk (0 : Int) (0 : Int) (0 : Int) (0 : Int) (0 : Int) (0 : Int))) ≤ (32 : Int))
 else false then
 decide
 ((0 : Int) ≤ Mic.b (List.getD l (eo + Int.toNat i) (Mic.mk (0 : Int) (0 : Int) (0 : Int) (0 : Int) (0 : Int) (0 : Int))) ∧
 Mic.b (List.getD l (eo + Int.toNat i) (Mic.mk (0 : Int) (0 : Int) (0 : Int) (0 : Int) (0 : Int) (0 : Int))) ≤ (32 : Int))
 else false)
 (Tr.ret
 (X.ret,
 [SV.v (V1.c (Sc.rs (nat_lit 0) (nat_lit 6) eo n cap A)), SV.v (V1.c (Sc.b false)),
 SV.v (V1.c (Sc.i IntKind.i64 i))],
 []))
 (Tr.ret
 (X.nor,
 [SV.v (V1.c (Sc.rs (nat_lit 0) (nat_lit 6) eo n cap A)), SV.v (V1.c (Sc.b z)),
 SV.v (V1.c (Sc.i IntKind.i64 (IntKind.wrap IntKind.i64 (i + (1 : Int)))))],
 [])))))))))
 (Tr.ite (!decide (Mic.i (List.getD l (eo + Int.toNat i) (Mic.mk (0 : Int) (0 : Int) (0 : Int) (0 : Int) (0 : Int) (0 : Int))) = (0 : Int)))
 (Tr.ite (decide (Mic.k (List.getD l (eo + Int.toNat i) (Mic.mk (0 : Int) (0 : Int) (0 : Int) (0 : Int) (0 : Int) (0 : Int))) = (0 : Int)))
 (Tr.ite
 (!bif
 bif
 bif
 bif
 bif decide (Mic.k (List.getD l (eo + Int.toNat i) (Mic.mk (0 : Int) (0 : Int) (0 : Int) (0 : Int) (0 : Int) (0 : Int))) = (1 : Int)) then
 true
 else decide (Mic.a (List.getD l (eo + Int.toNat i) (Mic.mk (0 : Int) (0 : Int) (0 : Int) (0 : Int) (0 : Int) (0 : Int))) = (32 : Int)) then
 true
 else decide (Mic.b (List.getD l (eo + Int.toNat i) (Mic.mk (0 : Int) (0 : Int) (0 : Int) (0 : Int) (0 : Int) (0 : Int))) = (32 : Int)) then
 decide (Mic.d (List.getD l (eo + Int.toNat i) (Mic.mk (0 : Int) (0 : Int) (0 : Int) (0 : Int) (0 : Int) (0 : Int))) = (0 : Int))
 else false then
 decide (Mic.a (List.getD l (eo + Int.toNat i) (Mic.mk (0 : Int) (0 : Int) (0 : Int) (0 : Int) (0 : Int) (0 : Int))) = (0 : Int))
 else false then
 decide (Mic.b (List.getD l (eo + Int.toNat i) (Mic.mk (0 : Int) (0 : Int) (0 : Int) (0 : Int) (0 : Int) (0 : Int))) = (0 : Int))
 else false)
 (Tr.ret
 (X.ret,
 [SV.v (V1.c (Sc.rs (nat_lit 0) (nat_lit 6) eo n cap A)), SV.v (V1.c (Sc.b false)), SV.v (V1.c (Sc.i IntKind.i64 i))],
 []))
 (Tr.ret
 (X.nor,
 [SV.v (V1.c (Sc.rs (nat_lit 0) (nat_lit 6) eo n cap A)), SV.v (V1.c (Sc.b z)),
 SV.v (V1.c (Sc.i IntKind.i64 (IntKind.wrap IntKind.i64 (i + (1 : Int)))))],
 [])))
 (Tr.ite (decide (Mic.k (List.getD l (eo + Int.toNat i) (Mic.mk (0 : Int) (0 : Int) (0 : Int) (0 : Int) (0 : Int) (0 : Int))) = (1 : Int)))
 (Tr.ite
 (!bif
 bif
 bif
 bif
 bif
 bif
 decide
 (Mic.k (List.getD l (eo + Int.toNat i) (Mic.mk (0 : Int) (0 : Int) (0 : Int) (0 : Int) (0 : Int) (0 : Int))) = (1 : Int)) then
 true
 else
 decide
 (Mic.a (List.getD l (eo + Int.toNat i) (Mic.mk (0 : Int) (0 : Int) (0 : Int) (0 : Int) (0 : Int) (0 : Int))) = (32 : Int)) then
 true
 else
 decide (Mic.b (List.getD l (eo + Int.toNat i) (Mic.mk (0 : Int) (0 : Int) (0 : Int) (0 : Int) (0 : Int) (0 : Int))) = (32 : Int)) then
 decide ((1 : Int) ≤ Mic.d (List.getD l (eo + Int.toNat i) (Mic.mk (0 : Int) (0 : Int) (0 : Int) (0 : Int) (0 : Int) (0 : Int))))
 else false then
 decide (Mic.d (List.getD l (eo + Int.toNat i) (Mic.mk (0 : Int) (0 : Int) (0 : Int) (0 : Int) (0 : Int) (0 : Int))) ≤ (31 : Int))
 else false then
 decide (Mic.a (List.getD l (eo + Int.toNat i) (Mic.mk (0 : Int) (0 : Int) (0 : Int) (0 : Int) (0 : Int) (0 : Int))) = (0 : Int))
 else false then
 decide (Mic.b (List.getD l (eo + Int.toNat i) (Mic.mk (0 : Int) (0 : Int) (0 : Int) (0 : Int) (0 : Int) (0 : Int))) = (0 : Int))
 else false)
 (Tr.ret
 (X.ret,
 [SV.v (V1.c (Sc.rs (nat_lit 0) (nat_lit 6) eo n cap A)), SV.v (V1.c (Sc.b false)), SV.v (V1.c (Sc.i IntKind.i64 i))],
 []))
 (Tr.ret
 (X.nor,
 [SV.v (V1.c (Sc.rs (nat_lit 0) (nat_lit 6) eo n cap A)), SV.v (V1.c (Sc.b z)),
 SV.v (V1.c (Sc.i IntKind.i64 (IntKind.wrap IntKind.i64 (i + (1 : Int)))))],
 [])))
 (Tr.ite (decide (Mic.k (List.getD l (eo + Int.toNat i) (Mic.mk (0 : Int) (0 : Int) (0 : Int) (0 : Int) (0 : Int) (0 : Int))) = (2 : Int)))
 (Tr.ite
 (!bif
 bif
 bif
 bif
 bif
 bif
 decide
 (Mic.k (List.getD l (eo + Int.toNat i) (Mic.mk (0 : Int) (0 : Int) (0 : Int) (0 : Int) (0 : Int) (0 : Int))) = (1 : Int)) then
 true
 else
 decide
 (Mic.a (List.getD l (eo + Int.toNat i) (Mic.mk (0 : Int) (0 : Int) (0 : Int) (0 : Int) (0 : Int) (0 : Int))) = (32 : Int)) then
 true
 else
 decide (Mic.b (List.getD l (eo + Int.toNat i) (Mic.mk (0 : Int) (0 : Int) (0 : Int) (0 : Int) (0 : Int) (0 : Int))) = (32 : Int)) then
 decide ((1 : Int) ≤ Mic.d (List.getD l (eo + Int.toNat i) (Mic.mk (0 : Int) (0 : Int) (0 : Int) (0 : Int) (0 : Int) (0 : Int))))
 else false then
 decide (Mic.d (List.getD l (eo + Int.toNat i) (Mic.mk (0 : Int) (0 : Int) (0 : Int) (0 : Int) (0 : Int) (0 : Int))) ≤ (31 : Int))
 else false then
 decide
 ((0 : Int) ≤ Mic.a (List.getD l (eo + Int.toNat i) (Mic.mk (0 : Int) (0 : Int) (0 : Int) (0 : Int) (0 : Int) (0 : Int))) ∧
 Mic.a (List.getD l (eo + Int.toNat i) (Mic.mk (0 : Int) (0 : Int) (0 : Int) (0 : Int) (0 : Int) (0 : Int))) ≤ (32 : Int))
 else false then
 decide (Mic.b (List.getD l (eo + Int.toNat i) (Mic.mk (0 : Int) (0 : Int) (0 : Int) (0 : Int) (0 : Int) (0 : Int))) = (0 : Int))
 else false)
 (Tr.ret
 (X.ret,
 [SV.v (V1.c (Sc.rs (nat_lit 0) (nat_lit 6) eo n cap A)), SV.v (V1.c (Sc.b false)), SV.v (V1.c (Sc.i IntKind.i64 i))],
 []))
 (Tr.ret
 (X.nor,
 [SV.v (V1.c (Sc.rs (nat_lit 0) (nat_lit 6) eo n cap A)), SV.v (V1.c (Sc.b z)),
 SV.v (V1.c (Sc.i IntKind.i64 (IntKind.wrap IntKind.i64 (i + (1 : Int)))))],
 [])))
 (Tr.ite
 (!bif
 bif
 bif
 bif
 bif
 bif
 decide
 (Mic.k (List.getD l (eo + Int.toNat i) (Mic.mk (0 : Int) (0 : Int) (0 : Int) (0 : Int) (0 : Int) (0 : Int))) = (1 : Int)) then
 true
 else
 decide
 (Mic.a (List.getD l (eo + Int.toNat i) (Mic.mk (0 : Int) (0 : Int) (0 : Int) (0 : Int) (0 : Int) (0 : Int))) = (32 : Int)) then
 true
 else
 decide (Mic.b (List.getD l (eo + Int.toNat i) (Mic.mk (0 : Int) (0 : Int) (0 : Int) (0 : Int) (0 : Int) (0 : Int))) = (32 : Int)) then
 decide ((1 : Int) ≤ Mic.d (List.getD l (eo + Int.toNat i) (Mic.mk (0 : Int) (0 : Int) (0 : Int) (0 : Int) (0 : Int) (0 : Int))))
 else false then
 decide (Mic.d (List.getD l (eo + Int.toNat i) (Mic.mk (0 : Int) (0 : Int) (0 : Int) (0 : Int) (0 : Int) (0 : Int))) ≤ (31 : Int))
 else false then
 decide
 ((0 : Int) ≤ Mic.a (List.getD l (eo + Int.toNat i) (Mic.mk (0 : Int) (0 : Int) (0 : Int) (0 : Int) (0 : Int) (0 : Int))) ∧
 Mic.a (List.getD l (eo + Int.toNat i) (Mic.mk (0 : Int) (0 : Int) (0 : Int) (0 : Int) (0 : Int) (0 : Int))) ≤ (32 : Int))
 else false then
 decide
 ((0 : Int) ≤ Mic.b (List.getD l (eo + Int.toNat i) (Mic.mk (0 : Int) (0 : Int) (0 : Int) (0 : Int) (0 : Int) (0 : Int))) ∧
 Mic.b (List.getD l (eo + Int.toNat i) (Mic.mk (0 : Int) (0 : Int) (0 : Int) (0 : Int) (0 : Int) (0 : Int))) ≤ (32 : Int))
 else false)
 (Tr.ret
 (X.ret,
 [SV.v (V1.c (Sc.rs (nat_lit 0) (nat_lit 6) eo n cap A)), SV.v (V1.c (Sc.b false)), SV.v (V1.c (Sc.i IntKind.i64 i))],
 []))
 (Tr.ret
 (X.nor,
 [SV.v (V1.c (Sc.rs (nat_lit 0) (nat_lit 6) eo n cap A)), SV.v (V1.c (Sc.b z)),
 SV.v (V1.c (Sc.i IntKind.i64 (IntKind.wrap IntKind.i64 (i + (1 : Int)))))],
 []))))))
 (Tr.ite (decide (Mic.k (List.getD l (eo + Int.toNat i) (Mic.mk (0 : Int) (0 : Int) (0 : Int) (0 : Int) (0 : Int) (0 : Int))) = (0 : Int)))
 (Tr.ite
 (!bif
 bif decide (Mic.d (List.getD l (eo + Int.toNat i) (Mic.mk (0 : Int) (0 : Int) (0 : Int) (0 : Int) (0 : Int) (0 : Int))) = (0 : Int)) then
 decide (Mic.a (List.getD l (eo + Int.toNat i) (Mic.mk (0 : Int) (0 : Int) (0 : Int) (0 : Int) (0 : Int) (0 : Int))) = (0 : Int))
 else false then
 decide (Mic.b (List.getD l (eo + Int.toNat i) (Mic.mk (0 : Int) (0 : Int) (0 : Int) (0 : Int) (0 : Int) (0 : Int))) = (0 : Int))
 else false)
 (Tr.ret
 (X.ret,
 [SV.v (V1.c (Sc.rs (nat_lit 0) (nat_lit 6) eo n cap A)), SV.v (V1.c (Sc.b false)), SV.v (V1.c (Sc.i IntKind.i64 i))],
 []))
 (Tr.ret
 (X.nor,
 [SV.v (V1.c (Sc.rs (nat_lit 0) (nat_lit 6) eo n cap A)), SV.v (V1.c (Sc.b z)),
 SV.v (V1.c (Sc.i IntKind.i64 (IntKind.wrap IntKind.i64 (i + (1 : Int)))))],
 [])))
 (Tr.ite (decide (Mic.k (List.getD l (eo + Int.toNat i) (Mic.mk (0 : Int) (0 : Int) (0 : Int) (0 : Int) (0 : Int) (0 : Int))) = (1 : Int)))
 (Tr.ite
 (!bif
 bif
 bif decide ((1 : Int) ≤ Mic.d (List.getD l (eo + Int.toNat i) (Mic.mk (0 : Int) (0 : Int) (0 : Int) (0 : Int) (0 : Int) (0 : Int)))) then
 decide (Mic.d (List.getD l (eo + Int.toNat i) (Mic.mk (0 : Int) (0 : Int) (0 : Int) (0 : Int) (0 : Int) (0 : Int))) ≤ (31 : Int))
 else false then
 decide (Mic.a (List.getD l (eo + Int.toNat i) (Mic.mk (0 : Int) (0 : Int) (0 : Int) (0 : Int) (0 : Int) (0 : Int))) = (0 : Int))
 else false then
 decide (Mic.b (List.getD l (eo + Int.toNat i) (Mic.mk (0 : Int) (0 : Int) (0 : Int) (0 : Int) (0 : Int) (0 : Int))) = (0 : Int))
 else false)
 (Tr.ret
 (X.ret,
 [SV.v (V1.c (Sc.rs (nat_lit 0) (nat_lit 6) eo n cap A)), SV.v (V1.c (Sc.b false)), SV.v (V1.c (Sc.i IntKind.i64 i))],
 []))
 (Tr.ret
 (X.nor,
 [SV.v (V1.c (Sc.rs (nat_lit 0) (nat_lit 6) eo n cap A)), SV.v (V1.c (Sc.b z)),
 SV.v (V1.c (Sc.i IntKind.i64 (IntKind.wrap IntKind.i64 (i + (1 : Int)))))],
 [])))
 (Tr.ite (decide (Mic.k (List.getD l (eo + Int.toNat i) (Mic.mk (0 : Int) (0 : Int) (0 : Int) (0 : Int) (0 : Int) (0 : Int))) = (2 : Int)))
 (Tr.ite
 (!bif
 bif
 bif decide ((1 : Int) ≤ Mic.d (List.getD l (eo + Int.toNat i) (Mic.mk (0 : Int) (0 : Int) (0 : Int) (0 : Int) (0 : Int) (0 : Int)))) then
 decide (Mic.d (List.getD l (eo + Int.toNat i) (Mic.mk (0 : Int) (0 : Int) (0 : Int) (0 : Int) (0 : Int) (0 : Int))) ≤ (31 : Int))
 else false then
 decide
 ((0 : Int) ≤ Mic.a (List.getD l (eo + Int.toNat i) (Mic.mk (0 : Int) (0 : Int) (0 : Int) (0 : Int) (0 : Int) (0 : Int))) ∧
 Mic.a (List.getD l (eo + Int.toNat i) (Mic.mk (0 : Int) (0 : Int) (0 : Int) (0 : Int) (0 : Int) (0 : Int))) ≤ (32 : Int))
 else false then
 decide (Mic.b (List.getD l (eo + Int.toNat i) (Mic.mk (0 : Int) (0 : Int) (0 : Int) (0 : Int) (0 : Int) (0 : Int))) = (0 : Int))
 else false)
 (Tr.ret
 (X.ret,
 [SV.v (V1.c (Sc.rs (nat_lit 0) (nat_lit 6) eo n cap A)), SV.v (V1.c (Sc.b false)), SV.v (V1.c (Sc.i IntKind.i64 i))],
 []))
 (Tr.ret
 (X.nor,
 [SV.v (V1.c (Sc.rs (nat_lit 0) (nat_lit 6) eo n cap A)), SV.v (V1.c (Sc.b z)),
 SV.v (V1.c (Sc.i IntKind.i64 (IntKind.wrap IntKind.i64 (i + (1 : Int)))))],
 [])))
 (Tr.ite
 (!bif
 bif
 bif decide ((1 : Int) ≤ Mic.d (List.getD l (eo + Int.toNat i) (Mic.mk (0 : Int) (0 : Int) (0 : Int) (0 : Int) (0 : Int) (0 : Int)))) then
 decide (Mic.d (List.getD l (eo + Int.toNat i) (Mic.mk (0 : Int) (0 : Int) (0 : Int) (0 : Int) (0 : Int) (0 : Int))) ≤ (31 : Int))
 else false then
 decide
 ((0 : Int) ≤ Mic.a (List.getD l (eo + Int.toNat i) (Mic.mk (0 : Int) (0 : Int) (0 : Int) (0 : Int) (0 : Int) (0 : Int))) ∧
 Mic.a (List.getD l (eo + Int.toNat i) (Mic.mk (0 : Int) (0 : Int) (0 : Int) (0 : Int) (0 : Int) (0 : Int))) ≤ (32 : Int))
 else false then
 decide
 ((0 : Int) ≤ Mic.b (List.getD l (eo + Int.toNat i) (Mic.mk (0 : Int) (0 : Int) (0 : Int) (0 : Int) (0 : Int) (0 : Int))) ∧
 Mic.b (List.getD l (eo + Int.toNat i) (Mic.mk (0 : Int) (0 : Int) (0 : Int) (0 : Int) (0 : Int) (0 : Int))) ≤ (32 : Int))
 else false)
 (Tr.ret
 (X.ret,
 [SV.v (V1.c (Sc.rs (nat_lit 0) (nat_lit 6) eo n cap A)), SV.v (V1.c (Sc.b false)), SV.v (V1.c (Sc.i IntKind.i64 i))],
 []))
 (Tr.ret
 (X.nor,
 [SV.v (V1.c (Sc.rs (nat_lit 0) (nat_lit 6) eo n cap A)), SV.v (V1.c (Sc.b z)),
 SV.v (V1.c (Sc.i IntKind.i64 (IntKind.wrap IntKind.i64 (i + (1 : Int)))))],
 []))))))))
 (Tr.ite (!decide (Mic.i (List.getD l (eo + Int.toNat i) (Mic.mk (0 : Int) (0 : Int) (0 : Int) (0 : Int) (0 : Int) (0 : Int))) = (0 : Int)))
 (Tr.ite (decide (Mic.k (List.getD l (eo + Int.toNat i) (Mic.mk (0 : Int) (0 : Int) (0 : Int) (0 : Int) (0 : Int) (0 : Int))) = (0 : Int)))
 (Tr.ret
 (X.ret,
 [SV.v (V1.c (Sc.rs (nat_lit 0) (nat_lit 6) eo n cap A)), SV.v (V1.c (Sc.b false)), SV.v (V1.c (Sc.i IntKind.i64 i))], []))
 (Tr.ite (decide (Mic.k (List.getD l (eo + Int.toNat i) (Mic.mk (0 : Int) (0 : Int) (0 : Int) (0 : Int) (0 : Int) (0 : Int))) = (1 : Int)))
 (Tr.ret
 (X.ret,
 [SV.v (V1.c (Sc.rs (nat_lit 0) (nat_lit 6) eo n cap A)), SV.v (V1.c (Sc.b false)), SV.v (V1.c (Sc.i IntKind.i64 i))], []))
 (Tr.ite (decide (Mic.k (List.getD l (eo + Int.toNat i) (Mic.mk (0 : Int) (0 : Int) (0 : Int) (0 : Int) (0 : Int) (0 : Int))) = (2 : Int)))
 (Tr.ret
 (X.ret,
 [SV.v (V1.c (Sc.rs (nat_lit 0) (nat_lit 6) eo n cap A)), SV.v (V1.c (Sc.b false)), SV.v (V1.c (Sc.i IntKind.i64 i))],
 []))
 (Tr.ret
 (X.ret,
 [SV.v (V1.c (Sc.rs (nat_lit 0) (nat_lit 6) eo n cap A)), SV.v (V1.c (Sc.b false)), SV.v (V1.c (Sc.i IntKind.i64 i))],
 [])))))
 (Tr.ite (decide (Mic.k (List.getD l (eo + Int.toNat i) (Mic.mk (0 : Int) (0 : Int) (0 : Int) (0 : Int) (0 : Int) (0 : Int))) = (0 : Int)))
 (Tr.ret
 (X.ret,
 [SV.v (V1.c (Sc.rs (nat_lit 0) (nat_lit 6) eo n cap A)), SV.v (V1.c (Sc.b false)), SV.v (V1.c (Sc.i IntKind.i64 i))], []))
 (Tr.ite (decide (Mic.k (List.getD l (eo + Int.toNat i) (Mic.mk (0 : Int) (0 : Int) (0 : Int) (0 : Int) (0 : Int) (0 : Int))) = (1 : Int)))
 (Tr.ret
 (X.ret,
 [SV.v (V1.c (Sc.rs (nat_lit 0) (nat_lit 6) eo n cap A)), SV.v (V1.c (Sc.b false)), SV.v (V1.c (Sc.i IntKind.i64 i))], []))
 (Tr.ite (decide (Mic.k (List.getD l (eo + Int.toNat i) (Mic.mk (0 : Int) (0 : Int) (0 : Int) (0 : Int) (0 : Int) (0 : Int))) = (2 : Int)))
 (Tr.ret
 (X.ret,
 [SV.v (V1.c (Sc.rs (nat_lit 0) (nat_lit 6) eo n cap A)), SV.v (V1.c (Sc.b false)), SV.v (V1.c (Sc.i IntKind.i64 i))],
 []))
 (Tr.ret
 (X.ret,
 [SV.v (V1.c (Sc.rs (nat_lit 0) (nat_lit 6) eo n cap A)), SV.v (V1.c (Sc.b false)), SV.v (V1.c (Sc.i IntKind.i64 i))],
 [])))))))
 (Tr.ite (!decide (Mic.i (List.getD l (eo + Int.toNat i) (Mic.mk (0 : Int) (0 : Int) (0 : Int) (0 : Int) (0 : Int) (0 : Int))) = (0 : Int)))
 (Tr.ite (decide (Mic.k (List.getD l (eo + Int.toNat i) (Mic.mk (0 : Int) (0 : Int) (0 : Int) (0 : Int) (0 : Int) (0 : Int))) = (0 : Int)))
 (Tr.ret
 (X.ret,
 [SV.v (V1.c (Sc.rs (nat_lit 0) (nat_lit 6) eo n cap A)), SV.v (V1.c (Sc.b false)), SV.v (V1.c (Sc.i IntKind.i64 i))], []))
 (Tr.ite (decide (Mic.k (List.getD l (eo + Int.toNat i) (Mic.mk (0 : Int) (0 : Int) (0 : Int) (0 : Int) (0 : Int) (0 : Int))) = (1 : Int)))
 (Tr.ret
 (X.ret,
 [SV.v (V1.c (Sc.rs (nat_lit 0) (nat_lit 6) eo n cap A)), SV.v (V1.c (Sc.b false)), SV.v (V1.c (Sc.i IntKind.i64 i))], []))
 (Tr.ite (decide (Mic.k (List.getD l (eo + Int.toNat i) (Mic.mk (0 : Int) (0 : Int) (0 : Int) (0 : Int) (0 : Int) (0 : Int))) = (2 : Int)))
 (Tr.ret
 (X.ret,
 [SV.v (V1.c (Sc.rs (nat_lit 0) (nat_lit 6) eo n cap A)), SV.v (V1.c (Sc.b false)), SV.v (V1.c (Sc.i IntKind.i64 i))], []))
 (Tr.ret
 (X.ret,
 [SV.v (V1.c (Sc.rs (nat_lit 0) (nat_lit 6) eo n cap A)), SV.v (V1.c (Sc.b false)), SV.v (V1.c (Sc.i IntKind.i64 i))],
 [])))))
 (Tr.ite (decide (Mic.k (List.getD l (eo + Int.toNat i) (Mic.mk (0 : Int) (0 : Int) (0 : Int) (0 : Int) (0 : Int) (0 : Int))) = (0 : Int)))
 (Tr.ret
 (X.ret,
 [SV.v (V1.c (Sc.rs (nat_lit 0) (nat_lit 6) eo n cap A)), SV.v (V1.c (Sc.b false)), SV.v (V1.c (Sc.i IntKind.i64 i))], []))
 (Tr.ite (decide (Mic.k (List.getD l (eo + Int.toNat i) (Mic.mk (0 : Int) (0 : Int) (0 : Int) (0 : Int) (0 : Int) (0 : Int))) = (1 : Int)))
 (Tr.ret
 (X.ret,
 [SV.v (V1.c (Sc.rs (nat_lit 0) (nat_lit 6) eo n cap A)), SV.v (V1.c (Sc.b false)), SV.v (V1.c (Sc.i IntKind.i64 i))], []))
 (Tr.ite (decide (Mic.k (List.getD l (eo + Int.toNat i) (Mic.mk (0 : Int) (0 : Int) (0 : Int) (0 : Int) (0 : Int) (0 : Int))) = (2 : Int)))
 (Tr.ret
 (X.ret,
 [SV.v (V1.c (Sc.rs (nat_lit 0) (nat_lit 6) eo n cap A)), SV.v (V1.c (Sc.b false)), SV.v (V1.c (Sc.i IntKind.i64 i))], []))
 (Tr.ret
 (X.ret,
 [SV.v (V1.c (Sc.rs (nat_lit 0) (nat_lit 6) eo n cap A)), SV.v (V1.c (Sc.b false)), SV.v (V1.c (Sc.i IntKind.i64 i))],
 [])))))))
 (Tr.ite (!decide (Mic.i (List.getD l (eo + Int.toNat i) (Mic.mk (0 : Int) (0 : Int) (0 : Int) (0 : Int) (0 : Int) (0 : Int))) = (0 : Int)))
 (Tr.ite (decide (Mic.k (List.getD l (eo + Int.toNat i) (Mic.mk (0 : Int) (0 : Int) (0 : Int) (0 : Int) (0 : Int) (0 : Int))) = (0 : Int)))
 (Tr.ret
 (X.ret, [SV.v (V1.c (Sc.rs (nat_lit 0) (nat_lit 6) eo n cap A)), SV.v (V1.c (Sc.b false)), SV.v (V1.c (Sc.i IntKind.i64 i))],
 []))
 (Tr.ite (decide (Mic.k (List.getD l (eo + Int.toNat i) (Mic.mk (0 : Int) (0 : Int) (0 : Int) (0 : Int) (0 : Int) (0 : Int))) = (1 : Int)))
 (Tr.ret
 (X.ret,
 [SV.v (V1.c (Sc.rs (nat_lit 0) (nat_lit 6) eo n cap A)), SV.v (V1.c (Sc.b false)), SV.v (V1.c (Sc.i IntKind.i64 i))], []))
 (Tr.ite (decide (Mic.k (List.getD l (eo + Int.toNat i) (Mic.mk (0 : Int) (0 : Int) (0 : Int) (0 : Int) (0 : Int) (0 : Int))) = (2 : Int)))
 (Tr.ret
 (X.ret,
 [SV.v (V1.c (Sc.rs (nat_lit 0) (nat_lit 6) eo n cap A)), SV.v (V1.c (Sc.b false)), SV.v (V1.c (Sc.i IntKind.i64 i))], []))
 (Tr.ret
 (X.ret,
 [SV.v (V1.c (Sc.rs (nat_lit 0) (nat_lit 6) eo n cap A)), SV.v (V1.c (Sc.b false)), SV.v (V1.c (Sc.i IntKind.i64 i))], [])))))
 (Tr.ite (decide (Mic.k (List.getD l (eo + Int.toNat i) (Mic.mk (0 : Int) (0 : Int) (0 : Int) (0 : Int) (0 : Int) (0 : Int))) = (0 : Int)))
 (Tr.ret
 (X.ret, [SV.v (V1.c (Sc.rs (nat_lit 0) (nat_lit 6) eo n cap A)), SV.v (V1.c (Sc.b false)), SV.v (V1.c (Sc.i IntKind.i64 i))],
 []))
 (Tr.ite (decide (Mic.k (List.getD l (eo + Int.toNat i) (Mic.mk (0 : Int) (0 : Int) (0 : Int) (0 : Int) (0 : Int) (0 : Int))) = (1 : Int)))
 (Tr.ret
 (X.ret,
 [SV.v (V1.c (Sc.rs (nat_lit 0) (nat_lit 6) eo n cap A)), SV.v (V1.c (Sc.b false)), SV.v (V1.c (Sc.i IntKind.i64 i))], []))
 (Tr.ite (decide (Mic.k (List.getD l (eo + Int.toNat i) (Mic.mk (0 : Int) (0 : Int) (0 : Int) (0 : Int) (0 : Int) (0 : Int))) = (2 : Int)))
 (Tr.ret
 (X.ret,
 [SV.v (V1.c (Sc.rs (nat_lit 0) (nat_lit 6) eo n cap A)), SV.v (V1.c (Sc.b false)), SV.v (V1.c (Sc.i IntKind.i64 i))], []))
 (Tr.ret
 (X.ret,
 [SV.v (V1.c (Sc.rs (nat_lit 0) (nat_lit 6) eo n cap A)), SV.v (V1.c (Sc.b false)), SV.v (V1.c (Sc.i IntKind.i64 i))],
 [])))))))
 (Tr.ite (!decide (Mic.i (List.getD l (eo + Int.toNat i) (Mic.mk (0 : Int) (0 : Int) (0 : Int) (0 : Int) (0 : Int) (0 : Int))) = (0 : Int)))
 (Tr.ite (decide (Mic.k (List.getD l (eo + Int.toNat i) (Mic.mk (0 : Int) (0 : Int) (0 : Int) (0 : Int) (0 : Int) (0 : Int))) = (0 : Int)))
 (Tr.ret
 (X.ret, [SV.v (V1.c (Sc.rs (nat_lit 0) (nat_lit 6) eo n cap A)), SV.v (V1.c (Sc.b false)), SV.v (V1.c (Sc.i IntKind.i64 i))],
 []))
 (Tr.ite (decide (Mic.k (List.getD l (eo + Int.toNat i) (Mic.mk (0 : Int) (0 : Int) (0 : Int) (0 : Int) (0 : Int) (0 : Int))) = (1 : Int)))
 (Tr.ret
 (X.ret, [SV.v (V1.c (Sc.rs (nat_lit 0) (nat_lit 6) eo n cap A)), SV.v (V1.c (Sc.b false)), SV.v (V1.c (Sc.i IntKind.i64 i))],
 []))
 (Tr.ite (decide (Mic.k (List.getD l (eo + Int.toNat i) (Mic.mk (0 : Int) (0 : Int) (0 : Int) (0 : Int) (0 : Int) (0 : Int))) = (2 : Int)))
 (Tr.ret
 (X.ret,
 [SV.v (V1.c (Sc.rs (nat_lit 0) (nat_lit 6) eo n cap A)), SV.v (V1.c (Sc.b false)), SV.v (V1.c (Sc.i IntKind.i64 i))], []))
 (Tr.ret
 (X.ret,
 [SV.v (V1.c (Sc.rs (nat_lit 0) (nat_lit 6) eo n cap A)), SV.v (V1.c (Sc.b false)), SV.v (V1.c (Sc.i IntKind.i64 i))], [])))))
 (Tr.ite (decide (Mic.k (List.getD l (eo + Int.toNat i) (Mic.mk (0 : Int) (0 : Int) (0 : Int) (0 : Int) (0 : Int) (0 : Int))) = (0 : Int)))
 (Tr.ret
 (X.ret, [SV.v (V1.c (Sc.rs (nat_lit 0) (nat_lit 6) eo n cap A)), SV.v (V1.c (Sc.b false)), SV.v (V1.c (Sc.i IntKind.i64 i))],
 []))
 (Tr.ite (decide (Mic.k (List.getD l (eo + Int.toNat i) (Mic.mk (0 : Int) (0 : Int) (0 : Int) (0 : Int) (0 : Int) (0 : Int))) = (1 : Int)))
 (Tr.ret
 (X.ret, [SV.v (V1.c (Sc.rs (nat_lit 0) (nat_lit 6) eo n cap A)), SV.v (V1.c (Sc.b false)), SV.v (V1.c (Sc.i IntKind.i64 i))],
 []))
 (Tr.ite (decide (Mic.k (List.getD l (eo + Int.toNat i) (Mic.mk (0 : Int) (0 : Int) (0 : Int) (0 : Int) (0 : Int) (0 : Int))) = (2 : Int)))
 (Tr.ret
 (X.ret,
 [SV.v (V1.c (Sc.rs (nat_lit 0) (nat_lit 6) eo n cap A)), SV.v (V1.c (Sc.b false)), SV.v (V1.c (Sc.i IntKind.i64 i))], []))
 (Tr.ret
 (X.ret,
 [SV.v (V1.c (Sc.rs (nat_lit 0) (nat_lit 6) eo n cap A)), SV.v (V1.c (Sc.b false)), SV.v (V1.c (Sc.i IntKind.i64 i))],
 [])))))))))
 (Tr.ret
 (X.ex (nat_lit 0), [SV.v (V1.c (Sc.rs (nat_lit 0) (nat_lit 6) eo n cap A)), SV.v (V1.c (Sc.b z)), SV.v (V1.c (Sc.i IntKind.i64 i))], []))

theorem rnd_lp_RMay (eo : Nat) (n : Nat) (cap : Nat) (A : Option Addr) (z : Bool) (i : Int) (l : List (Sh 5)) (W : List Rw) : rnd cx_zoetroperef14_May 160 (⟨5, l⟩ :: W) (loopC 4 (codeOf Try.f14)) [0, 2, 3] 0 (zipE [0, 2, 3] [(.v (.c (.rs 0 6 eo n cap A))), (.v (.c (.b z))), (.v (.c (.i .i64 i)))]) [] = outr_lp_RMay eo n cap A z i l := by kernel_rfl
theorem lpp_lp_RMay {c0 : Z.Cx} {ρ0 : List Nat} (eo : Nat) (n : Nat) (cap : Nat) (A : Option Addr) (z : Bool) (i : Int) (l : List (Sh 5)) (W : List Rw) (hR : repR (⟨5, l⟩ :: W) c0.R) (hne : ρ0.length ≤ 0) {Q : Exit → Act → World → Prop} {e : Env} {H : List Bk} (hsel : canE 0 [0, 2, 3] e H = some ([(.v (.c (.rs 0 6 eo n cap A))), (.v (.c (.b z))), (.v (.c (.i .i64 i)))], [])) (h : (.ass ((z = false ∧ i = ((0 : Nat) : Int)) ∧ n ≤ 65536 ∧ eo + n ≤ l.length) (.ite (mayL 0 (sub l eo n)) (.ret (.ex 0, [], [])) (.ret (.ret, [(2, .v (.c (.b (false))))], []))) : Tr (X × Env × List Bk)).all (fun y => YE c0 ρ0 Q 160 (toX y.1) y.2.1 y.2.2)) : YC Try.prog c0 ρ0 Q 160 (.loop (loopC 4 (codeOf Try.f14))) e H := by
  obtain ⟨hp, h⟩ := h
  replace h := h hp
  obtain ⟨⟨rfl, rfl⟩, hN⟩ := hp
  have hle : eo + n ≤ l.length := by omega
  refine YC.canon hne hsel ?_
  have key := loop_sound (P := Try.prog) (c := c0) (ρ0 := ρ0) (N := 160) (Q := Q) cx_zoetroperef14_May_ok hR (LpOK.no (by kernel_rfl)) [0, 2, 3] 0 hne (σ := Nat) (body := (loopC 4 (codeOf Try.f14))) (fun s => [.v (.c (.rs 0 6 eo n cap A)), .v (.c (.b false)), .v (.c (.i .i64 ((s : Int))))]) (fun _ => []) (fun s => s ≤ n ∧ mayL 0 ((sub l eo n).take s) = true) (fun s => n - s) (fun y => (mayL 0 (sub l eo n) = false ∧ ∃ u, y = (.ret, [.v (.c (.rs 0 6 eo n cap A)), .v (.c (.b false)), .v (.c (.i .i64 (u)))], [])) ∨ (mayL 0 (sub l eo n) = true ∧ ∃ u, y = (.ex 0, [.v (.c (.rs 0 6 eo n cap A)), .v (.c (.b false)), .v (.c (.i .i64 (u)))], []))) ?round ?post 0 ⟨by omega, rfl⟩
  case round =>
    intro s hI
    rw [rnd_lp_RMay]
    unfold outr_lp_RMay
    simp only [Tr.all]
    rw [show eo + ((s : Nat) : Int).toNat = eo + s by omega]
    obtain ⟨hI, hI2⟩ := hI
    refine ⟨fun hc => ?_, fun hc => Or.inr ⟨nofun, Or.inr ⟨?_, _, rfl⟩⟩⟩
    · have hc := of_decide_eq_true hc
      have hc : s < n := by omega
      have hs := sub_step (d := (⟨0, 0, 0, 0, 0, 0⟩ : Mic)) hle hc
      have hms := may_snoc ((sub l eo n).take s) (l.getD (eo + s) ⟨0, 0, 0, 0, 0, 0⟩)
      rw [← hs, hI2, Bool.true_and] at hms
      have hlast : s ≠ 0 → (l.getD (eo + ((s : Int) - 1).toNat) ⟨0, 0, 0, 0, 0, 0⟩).c = lastC ((sub l eo n).take s) := fun h0 => by
        obtain ⟨t, rfl⟩ : ∃ t, s = t + 1 := ⟨s - 1, by omega⟩
        rw [sub_step (d := (⟨0, 0, 0, 0, 0, 0⟩ : Mic)) hle (show t < n by omega), lastC_snoc, show (((t + 1 : Nat) : Int) - 1).toNat = t by omega]
      have hl0 : s = 0 → lastC ((sub l eo n).take s) = 0 := fun h0 => by subst h0; rfl
      have hno : ¬ (fitsP (l.getD (eo + s) ⟨0, 0, 0, 0, 0, 0⟩) ∧ lastC ((sub l eo n).take s) ≤ (l.getD (eo + s) ⟨0, 0, 0, 0, 0, 0⟩).c) → mayL 0 (sub l eo n) = false := fun h => by
        rw [← List.take_append_drop (s + 1) (sub l eo n)]
        refine mayL_app_false _ ?_
        rw [hms, ← Bool.decide_and]
        exact decide_eq_false h
      have hyes : (fitsP (l.getD (eo + s) ⟨0, 0, 0, 0, 0, 0⟩) ∧ lastC ((sub l eo n).take s) ≤ (l.getD (eo + s) ⟨0, 0, 0, 0, 0, 0⟩).c) → mayL 0 ((sub l eo n).take (s + 1)) = true := fun h => by
        rw [hms, ← Bool.decide_and]
        exact decide_eq_true h
      have e1 : IntKind.i64.wrap ((s : Int) + 1) = ((s + 1 : Nat) : Int) := Z.wI64 (by omega)
      have e2 : IntKind.i64.wrap ((s : Int) - 1) = (s : Int) - 1 := Z.wI64 (by omega)
      have e3 : s ≠ 0 → eo + ((s : Int) - 1).toNat < l.length := by omega
      rw [e1, e2]
      clear hms hs hI2
      revert hno hyes hlast hl0
      generalize lastC ((sub l eo n).take s) = last
      generalize l.getD (eo + s) (⟨0, 0, 0, 0, 0, 0⟩ : Mic) = x
      generalize l.getD (eo + ((s : Int) - 1).toNat) (⟨0, 0, 0, 0, 0, 0⟩ : Mic) = y
      obtain ⟨k, d, a, b, i, c⟩ := x
      dsimp only
      intro hlast hl0 hno hyes
      simp only [Bool.cond_true_left, Bool.cond_false_right, Bool.and_eq_true, Bool.or_eq_true, Bool.not_eq_true', Bool.and_eq_false_iff, Bool.or_eq_false_iff, Bool.not_eq_false', decide_eq_true_eq, decide_eq_false_iff_not, beq_iff_eq, beq_eq_false_iff_ne, ne_eq, Bool.not_eq_true, Bool.not_eq_false, Bool.and_false, Bool.false_and, Bool.not_false]
      refine ⟨by omega, fun _ => ⟨by omega, fun _ => ?_⟩⟩
      repeat' (first | with_reducible apply And.intro | with_reducible intro)
      all_goals first
        | (clear hno hyes; omega)
        | (refine Or.inr ⟨nofun, Or.inl ⟨hno ?_, _, rfl⟩⟩; clear hno hyes; unfold fitsP; dsimp only; omega)
        | (refine Or.inl ⟨trivial, s + 1, ⟨by omega, hyes ?_⟩, by omega, rfl, trivial⟩; clear hno hyes; unfold fitsP; dsimp only; omega)
    · have hc := of_decide_eq_false hc
      obtain rfl : s = n := by omega
      rwa [sub_take hle] at hI2
  case post =>
    intro y hy hp
    rcases hp with ⟨hf, u, rfl⟩ | ⟨hf, u, rfl⟩
    · exact YE.weaken (Sub.cons rfl Sub.nil) (h.2 hf)
    · exact YE.weaken Sub.nil (h.1 hf)
  exact key
theorem lpc_lp_RMay (c : Z.Cx) (ρ0 : List Nat) (W : List Rw) (hR : repR W c.R) (hne : ρ0.length ≤ 0) : ∀ Q e H, (lp_RMay e H W).all (fun y => YE c ρ0 Q 160 (toX y.1) y.2.1 y.2.2) → YC Try.prog c ρ0 Q 160 (.loop (loopC 4 (codeOf Try.f14))) e H := by
  intro Q e H h
  unfold lp_RMay at h
  (try simp only at h)
  split at h
  · rename_i heq
    exact lpp_lp_RMay _ _ _ _ _ _ _ _ hR hne (by assumption) h
  · exact h.elim
noncomputable def out_zoetroperef14_May (eo : Nat) (n : Nat) (cap : Nat) (A : Option Addr) (l : List (Sh 5)) : Tr (SV × List Bk) :=
Tr.ite (decide ((16 : Int) < (↑n : Int))) (Tr.ret (SV.v (V1.c (Sc.b false)), []))
 (Tr.ass ((false = false ∧ (0 : Int) = (↑(0 : Nat) : Int)) ∧ n ≤ (65536 : Nat) ∧ eo + n ≤ List.length l)
 (Tr.ite (X.mayL (0 : Int) (X.sub l eo n)) (Tr.ret (SV.v (V1.c (Sc.b true)), [])) (Tr.ret (SV.v (V1.c (Sc.b false)), []))))

theorem run_zoetroperef14_May (eo : Nat) (n : Nat) (cap : Nat) (A : Option Addr) (l : List (Sh 5)) (W : List Rw) : runF cx_zoetroperef14_May 160 [.tmp 2] (codeOf Try.f14) [(.v (.c (.rs 0 6 eo n cap A)))] [] (⟨5, l⟩ :: W) = out_zoetroperef14_May eo n cap A l := by kernel_rfl
theorem pf_zoetroperef14_May (eo : Nat) (n : Nat) (cap : Nat) (A : Option Addr) (l : List (Sh 5)) (K : SV × List Bk → Prop) (h : (.ass (n ≤ 65536 ∧ eo + n ≤ l.length) (.ret (.v (.c (.b (mayOf (sub l eo n)))), [])) : Tr (SV × List Bk)).all K) : (out_zoetroperef14_May eo n cap A l).all K := by
  obtain ⟨hN, h⟩ := h
  replace h := h hN
  replace h : K _ := h
  unfold out_zoetroperef14_May
  simp only [Tr.all]
  have hsl := sub_len hN.2
  refine ⟨fun h1 => leafB h ?_, fun h1 => ⟨⟨by simp, hN⟩, fun _ => ⟨fun h2 => leafB h ?_, fun h2 => leafB h ?_⟩⟩⟩
  · have h1 := of_decide_eq_true h1
    rw [mayOf, hsl, decide_eq_false (by omega), Bool.and_false]
  · have h1 := of_decide_eq_false h1
    rw [mayOf, h2, hsl, decide_eq_true (by omega)]; rfl
  · rw [mayOf, h2, Bool.false_and]
noncomputable def con_zoetroperef14_May : Con := ⟨true, fun args H W => match args, H, W with
  | [(.v (.c (.rs 0 6 eo n cap A)))], [], ⟨5, l⟩ :: W => .ass (n ≤ 65536 ∧ eo + n ≤ l.length) (.ret (.v (.c (.b (mayOf (sub l eo n)))), []))
  | _, _, _ => .stuck 900⟩
theorem lpok_zoetroperef14_May (c : Z.Cx) (ρ0 : List Nat) (W : List Rw) (hR : repR W c.R) (hne : ρ0.length ≤ 0) : LpOK Try.prog cx_zoetroperef14_May c ρ0 160 W (codeOf Try.f14) := LpOK.all (ls := [((loopC 4 (codeOf Try.f14)), lp_RMay)]) (by kernel_rfl) ⟨⟨(by kernel_rfl), lpc_lp_RMay c ρ0 W hR hne⟩, trivial⟩
theorem ok_zoetroperef14_May : ConOK Try.prog 14 con_zoetroperef14_May := con_ok (code := (codeOf Try.f14)) (N := 160) (rs := [.tmp 2]) cx_zoetroperef14_May_ok 0 Try.func14 rfl rfl rfl lpok_zoetroperef14_May (by
  intro args H W K h hro
  unfold con_zoetroperef14_May at h
  simp only at h
  split at h
  · refine ⟨rfl, ?_⟩
    rw [run_zoetroperef14_May]
    exact pf_zoetroperef14_May _ _ _ _ _ K h
  · exact h.elim)
noncomputable def lp_RUntil : LpT := fun e H W => match canE 0 [0, 2, 4, 6, 7] e H, W with
  | some ([(.v (.c (.rs 0 6 eo n cap A))), (.v (.c (.i .i64 c))), (.v (.c (.p 0 0))), (.v (.c (.p 1 0))), (.v (.c (.i .i64 i)))], [⟨32, [.arr 0 32 r], true⟩, ⟨32, [.arr 0 32 q], true⟩]), ⟨5, l⟩ :: W => .ass (i = ((0 : Nat) : Int) ∧ (n ≤ 65536 ∧ eo + n ≤ l.length) ∧ (∀ m ∈ sub l eo n, fitsP m) ∧ (∀ m ∈ sub l eo n, U32 m.i) ∧ Regs r) (.ret (.ex 0, [(4, .v (.c (.p 0 0))), (6, .v (.c (.p 1 0)))], [⟨32, [.arr 0 32 (untilOf c (sub l eo n) r)], true⟩, ⟨32, [.arr 0 32 (q)], true⟩]))
  | _, _ => .stuck 901
noncomputable def cx_zoetroperef14_Until : Ctx := mkCtx tys eqs [(19, con_zoetroperef14_Value)] [(3, lp_RUntil)]
theorem cx_zoetroperef14_Until_ok : CtxOK Try.prog cx_zoetroperef14_Until := mkCtx_ok _ mixed tys_ok eqs_ok ⟨⟨ok_zoetroperef14_Value, Try.call19⟩, trivial⟩
noncomputable def outr_lp_RUntil (eo : Nat) (n : Nat) (cap : Nat) (A : Option Addr) (c : Int) (i : Int) (r : List (Sh 0)) (q : List (Sh 0)) (l : List (Sh 5)) : Tr (X × List SV × List Bk) :=
Tr.ite (decide (i < (↑n : Int)))
 (Tr.ass ((0 : Int) ≤ i ∧ i < (↑n : Int))
 (Tr.ass (eo + Int.toNat i < List.length l)
 (Tr.ite
 (bif decide (Mic.k (List.getD l (eo + Int.toNat i) (Mic.mk (0 : Int) (0 : Int) (0 : Int) (0 : Int) (0 : Int) (0 : Int))) = (0 : Int)) then true
 else decide (c < Mic.c (List.getD l (eo + Int.toNat i) (Mic.mk (0 : Int) (0 : Int) (0 : Int) (0 : Int) (0 : Int) (0 : Int)))))
 (Tr.ret
 (X.nor,
 [SV.v (V1.c (Sc.rs (nat_lit 0) (nat_lit 6) eo n cap A)), SV.v (V1.c (Sc.i IntKind.i64 c)), SV.v (V1.c (Sc.p (nat_lit 0) (nat_lit 0))),
 SV.v (V1.c (Sc.p (nat_lit 1) (nat_lit 0))), SV.v (V1.c (Sc.i IntKind.i64 (IntKind.wrap IntKind.i64 (i + (1 : Int)))))],
 [Bk.mk (nat_lit 32) [Seg.arr (nat_lit 0) (nat_lit 32) r] true, Bk.mk (nat_lit 32) [Seg.arr (nat_lit 0) (nat_lit 32) q] true]))
 (Tr.ite (decide (Mic.a (List.getD l (eo + Int.toNat i) (Mic.mk (0 : Int) (0 : Int) (0 : Int) (0 : Int) (0 : Int) (0 : Int))) < (32 : Int)))
 (Tr.ass
 ((0 : Int) ≤ Mic.a (List.getD l (eo + Int.toNat i) (Mic.mk (0 : Int) (0 : Int) (0 : Int) (0 : Int) (0 : Int) (0 : Int))) ∧
 Mic.a (List.getD l (eo + Int.toNat i) (Mic.mk (0 : Int) (0 : Int) (0 : Int) (0 : Int) (0 : Int) (0 : Int))) < (↑(32 : Nat) : Int))
 (Tr.ass (Int.toNat (Mic.a (List.getD l (eo + Int.toNat i) (Mic.mk (0 : Int) (0 : Int) (0 : Int) (0 : Int) (0 : Int) (0 : Int)))) < (32 : Nat))
 (Tr.ite (decide (Mic.b (List.getD l (eo + Int.toNat i) (Mic.mk (0 : Int) (0 : Int) (0 : Int) (0 : Int) (0 : Int) (0 : Int))) < (32 : Int)))
 (Tr.ass
 ((0 : Int) ≤ Mic.b (List.getD l (eo + Int.toNat i) (Mic.mk (0 : Int) (0 : Int) (0 : Int) (0 : Int) (0 : Int) (0 : Int))) ∧
 Mic.b (List.getD l (eo + Int.toNat i) (Mic.mk (0 : Int) (0 : Int) (0 : Int) (0 : Int) (0 : Int) (0 : Int))) < (↑(32 : Nat) : Int))
 (Tr.ass (Int.toNat (Mic.b (List.getD l (eo + Int.toNat i) (Mic.mk (0 : Int) (0 : Int) (0 : Int) (0 : Int) (0 : Int) (0 : Int)))) < (32 : Nat))
 (Tr.ass
 ((Z.U32 (List.getD r (Int.toNat (Mic.a (List.getD l (eo + Int.toNat i) (Mic.mk (0 : Int) (0 : Int) (0 : Int) (0 : Int) (0 : Int) (0 : Int))))) (0 : Int)) ∧
 Z.U32 (List.getD r (Int.toNat (Mic.b (List.getD l (eo + Int.toNat i) (Mic.mk (0 : Int) (0 : Int) (0 : Int) (0 : Int) (0 : Int) (0 : Int))))) (0 : Int)) ∧
 Z.U32 (Mic.i (List.getD l (eo + Int.toNat i) (Mic.mk (0 : Int) (0 : Int) (0 : Int) (0 : Int) (0 : Int) (0 : Int))))) ∧
 (1 : Int) ≤ Mic.k (List.getD l (eo + Int.toNat i) (Mic.mk (0 : Int) (0 : Int) (0 : Int) (0 : Int) (0 : Int) (0 : Int))) ∧
 Mic.k (List.getD l (eo + Int.toNat i) (Mic.mk (0 : Int) (0 : Int) (0 : Int) (0 : Int) (0 : Int) (0 : Int))) ≤ (13 : Int))
 (Tr.ass
 ((0 : Int) ≤ Mic.d (List.getD l (eo + Int.toNat i) (Mic.mk (0 : Int) (0 : Int) (0 : Int) (0 : Int) (0 : Int) (0 : Int))) ∧
 Mic.d (List.getD l (eo + Int.toNat i) (Mic.mk (0 : Int) (0 : Int) (0 : Int) (0 : Int) (0 : Int) (0 : Int))) < (↑(32 : Nat) : Int))
 (Tr.ass (Int.toNat (Mic.d (List.getD l (eo + Int.toNat i) (Mic.mk (0 : Int) (0 : Int) (0 : Int) (0 : Int) (0 : Int) (0 : Int)))) < (32 : Nat))
 (Tr.ret
 (X.nor,
 [SV.v (V1.c (Sc.rs (nat_lit 0) (nat_lit 6) eo n cap A)), SV.v (V1.c (Sc.i IntKind.i64 c)),
 SV.v (V1.c (Sc.p (nat_lit 0) (nat_lit 0))), SV.v (V1.c (Sc.p (nat_lit 1) (nat_lit 0))),
 SV.v (V1.c (Sc.i IntKind.i64 (IntKind.wrap IntKind.i64 (i + (1 : Int)))))],
 [Bk.mk (nat_lit 32)
 [Seg.arr (nat_lit 0) (nat_lit 32)
 (List.set r (Int.toNat (Mic.d (List.getD l (eo + Int.toNat i) (Mic.mk (0 : Int) (0 : Int) (0 : Int) (0 : Int) (0 : Int) (0 : Int)))))
 (Z.valOf (Mic.k (List.getD l (eo + Int.toNat i) (Mic.mk (0 : Int) (0 : Int) (0 : Int) (0 : Int) (0 : Int) (0 : Int))))
 (List.getD r (Int.toNat (Mic.a (List.getD l (eo + Int.toNat i) (Mic.mk (0 : Int) (0 : Int) (0 : Int) (0 : Int) (0 : Int) (0 : Int))))) (0 : Int))
 (List.getD r (Int.toNat (Mic.b (List.getD l (eo + Int.toNat i) (Mic.mk (0 : Int) (0 : Int) (0 : Int) (0 : Int) (0 : Int) (0 : Int))))) (0 : Int))
 (Mic.i (List.getD l (eo + Int.toNat i) (Mic.mk (0 : Int) (0 : Int) (0 : Int) (0 : Int) (0 : Int) (0 : Int))))))]
 true,
 Bk.mk (nat_lit 32) [Seg.arr (nat_lit 0) (nat_lit 32) q] true])))))))
 (Tr.ass
 ((Z.U32 (List.getD r (Int.toNat (Mic.a (List.getD l (eo + Int.toNat i) (Mic.mk (0 : Int) (0 : Int) (0 : Int) (0 : Int) (0 : Int) (0 : Int))))) (0 : Int)) ∧
 Z.U32 (Mic.i (List.getD l (eo + Int.toNat i) (Mic.mk (0 : Int) (0 : Int) (0 : Int) (0 : Int) (0 : Int) (0 : Int)))) ∧
 Z.U32 (Mic.i (List.getD l (eo + Int.toNat i) (Mic.mk (0 : Int) (0 : Int) (0 : Int) (0 : Int) (0 : Int) (0 : Int))))) ∧
 (1 : Int) ≤ Mic.k (List.getD l (eo + Int.toNat i) (Mic.mk (0 : Int) (0 : Int) (0 : Int) (0 : Int) (0 : Int) (0 : Int))) ∧
 Mic.k (List.getD l (eo + Int.toNat i) (Mic.mk (0 : Int) (0 : Int) (0 : Int) (0 : Int) (0 : Int) (0 : Int))) ≤ (13 : Int))
 (Tr.ass
 ((0 : Int) ≤ Mic.d (List.getD l (eo + Int.toNat i) (Mic.mk (0 : Int) (0 : Int) (0 : Int) (0 : Int) (0 : Int) (0 : Int))) ∧
 Mic.d (List.getD l (eo + Int.toNat i) (Mic.mk (0 : Int) (0 : Int) (0 : Int) (0 : Int) (0 : Int) (0 : Int))) < (↑(32 : Nat) : Int))
 (Tr.ass (Int.toNat (Mic.d (List.getD l (eo + Int.toNat i) (Mic.mk (0 : Int) (0 : Int) (0 : Int) (0 : Int) (0 : Int) (0 : Int)))) < (32 : Nat))
 (Tr.ret
 (X.nor,
 [SV.v (V1.c (Sc.rs (nat_lit 0) (nat_lit 6) eo n cap A)), SV.v (V1.c (Sc.i IntKind.i64 c)),
 SV.v (V1.c (Sc.p (nat_lit 0) (nat_lit 0))), SV.v (V1.c (Sc.p (nat_lit 1) (nat_lit 0))),
 SV.v (V1.c (Sc.i IntKind.i64 (IntKind.wrap IntKind.i64 (i + (1 : Int)))))],
 [Bk.mk (nat_lit 32)
 [Seg.arr (nat_lit 0) (nat_lit 32)
 (List.set r (Int.toNat (Mic.d (List.getD l (eo + Int.toNat i) (Mic.mk (0 : Int) (0 : Int) (0 : Int) (0 : Int) (0 : Int) (0 : Int)))))
 (Z.valOf (Mic.k (List.getD l (eo + Int.toNat i) (Mic.mk (0 : Int) (0 : Int) (0 : Int) (0 : Int) (0 : Int) (0 : Int))))
 (List.getD r (Int.toNat (Mic.a (List.getD l (eo + Int.toNat i) (Mic.mk (0 : Int) (0 : Int) (0 : Int) (0 : Int) (0 : Int) (0 : Int))))) (0 : Int))
 (Mic.i (List.getD l (eo + Int.toNat i) (Mic.mk (0 : Int) (0 : Int) (0 : Int) (0 : Int) (0 : Int) (0 : Int))))
 (Mic.i (List.getD l (eo + Int.toNat i) (Mic.mk (0 : Int) (0 : Int) (0 : Int) (0 : Int) (0 : Int) (0 : Int))))))]
 true,
 Bk.mk (nat_lit 32) [Seg.arr (nat_lit 0) (nat_lit 32) q] true]))))))))
 (Tr.ite (decide (Mic.b (List.getD l (eo + Int.toNat i) (Mic.mk (0 : Int) (0 : Int) (0 : Int) (0 : Int) (0 : Int) (0 : Int))) < (32 : Int)))
 (Tr.ass
 ((0 : Int) ≤ Mic.b (List.getD l (eo + Int.toNat i) (Mic.mk (0 : Int) (0 : Int) (0 : Int) (0 : Int) (0 : Int) (0 : Int))) ∧
 Mic.b (List.getD l (eo + Int.toNat i) (Mic.mk (0 : Int) (0 : Int) (0 : Int) (0 : Int) (0 : Int) (0 : Int))) < (↑(32 : Nat) : Int))
 (Tr.ass (Int.toNat (Mic.b (List.getD l (eo + Int.toNat i) (Mic.mk (0 : Int) (0 : Int) (0 : Int) (0 : Int) (0 : Int) (0 : Int)))) < (32 : Nat))
 (Tr.ass
 ((Z.U32 (Mic.i (List.getD l (eo + Int.toNat i) (Mic.mk (0 : Int) (0 : Int) (0 : Int) (0 : Int) (0 : Int) (0 : Int)))) ∧
 Z.U32 (List.getD r (Int.toNat (Mic.b (List.getD l (eo + Int.toNat i) (Mic.mk (0 : Int) (0 : Int) (0 : Int) (0 : Int) (0 : Int) (0 : Int))))) (0 : Int)) ∧
 Z.U32 (Mic.i (List.getD l (eo + Int.toNat i) (Mic.mk (0 : Int) (0 : Int) (0 : Int) (0 : Int) (0 : Int) (0 : Int))))) ∧
 (1 : Int) ≤ Mic.k (List.getD l (eo + Int.toNat i) (Mic.mk (0 : Int) (0 : Int) (0 : Int) (0 : Int) (0 : Int) (0 : Int))) ∧
 Mic.k (List.getD l (eo + Int.toNat i) (Mic.mk (0 : Int) (0 : Int) (0 : Int) (0 : Int) (0 : Int) (0 : Int))) ≤ (13 : Int))
 (Tr.ass
 ((0 : Int) ≤ Mic.d (List.getD l (eo + Int.toNat i) (Mic.mk (0 : Int) (0 : Int) (0 : Int) (0 : Int) (0 : Int) (0 : Int))) ∧
 Mic.d (List.getD l (eo + Int.toNat i) (Mic.mk (0 : Int) (0 : Int) (0 : Int) (0 : Int) (0 : Int) (0 : Int))) < (↑(32 : Nat) : Int))
 (Tr.ass (Int.toNat (Mic.d (List.getD l (eo + Int.toNat i) (Mic.mk (0 : Int) (0 : Int) (0 : Int) (0 : Int) (0 : Int) (0 : Int)))) < (32 : Nat))
 (Tr.ret
 (X.nor,
 [SV.v (V1.c (Sc.rs (nat_lit 0) (nat_lit 6) eo n cap A)), SV.v (V1.c (Sc.i IntKind.i64 c)),
 SV.v (V1.c (Sc.p (nat_lit 0) (nat_lit 0))), SV.v (V1.c (Sc.p (nat_lit 1) (nat_lit 0))),
 SV.v (V1.c (Sc.i IntKind.i64 (IntKind.wrap IntKind.i64 (i + (1 : Int)))))],
 [Bk.mk (nat_lit 32)
 [Seg.arr (nat_lit 0) (nat_lit 32)
 (List.set r (Int.toNat (Mic.d (List.getD l (eo + Int.toNat i) (Mic.mk (0 : Int) (0 : Int) (0 : Int) (0 : Int) (0 : Int) (0 : Int)))))
 (Z.valOf (Mic.k (List.getD l (eo + Int.toNat i) (Mic.mk (0 : Int) (0 : Int) (0 : Int) (0 : Int) (0 : Int) (0 : Int))))
 (Mic.i (List.getD l (eo + Int.toNat i) (Mic.mk (0 : Int) (0 : Int) (0 : Int) (0 : Int) (0 : Int) (0 : Int))))
 (List.getD r (Int.toNat (Mic.b (List.getD l (eo + Int.toNat i) (Mic.mk (0 : Int) (0 : Int) (0 : Int) (0 : Int) (0 : Int) (0 : Int))))) (0 : Int))
 (Mic.i (List.getD l (eo + Int.toNat i) (Mic.mk (0 : Int) (0 : Int) (0 : Int) (0 : Int) (0 : Int) (0 : Int))))))]
 true,
 Bk.mk (nat_lit 32) [Seg.arr (nat_lit 0) (nat_lit 32) q] true])))))))
 (Tr.ass
 ((Z.U32 (Mic.i (List.getD l (eo + Int.toNat i) (Mic.mk (0 : Int) (0 : Int) (0 : Int) (0 : Int) (0 : Int) (0 : Int)))) ∧
 Z.U32 (Mic.i (List.getD l (eo + Int.toNat i) (Mic.mk (0 : Int) (0 : Int) (0 : Int) (0 : Int) (0 : Int) (0 : Int)))) ∧
 Z.U32 (Mic.i (List.getD l (eo + Int.toNat i) (Mic.mk (0 : Int) (0 : Int) (0 : Int) (0 : Int) (0 : Int) (0 : Int))))) ∧
 (1 : Int) ≤ Mic.k (List.getD l (eo + Int.toNat i) (Mic.mk (0 : Int) (0 : Int) (0 : Int) (0 : Int) (0 : Int) (0 : Int))) ∧
 Mic.k (List.getD l (eo + Int.toNat i) (Mic.mk (0 : Int) (0 : Int) (0 : Int) (0 : Int) (0 : Int) (0 : Int))) ≤ (13 : Int))
 (Tr.ass
 ((0 : Int) ≤ Mic.d (List.getD l (eo + Int.toNat i) (Mic.mk (0 : Int) (0 : Int) (0 : Int) (0 : Int) (0 : Int) (0 : Int))) ∧
 Mic.d (List.getD l (eo + Int.toNat i) (Mic.mk (0 : Int) (0 : Int) (0 : Int) (0 : Int) (0 : Int) (0 : Int))) < (↑(32 : Nat) : Int))
 (Tr.ass (Int.toNat (Mic.d (List.getD l (eo + Int.toNat i) (Mic.mk (0 : Int) (0 : Int) (0 : Int) (0 : Int) (0 : Int) (0 : Int)))) < (32 : Nat))
 (Tr.ret
 (X.nor,
 [SV.v (V1.c (Sc.rs (nat_lit 0) (nat_lit 6) eo n cap A)), SV.v (V1.c (Sc.i IntKind.i64 c)),
 SV.v (V1.c (Sc.p (nat_lit 0) (nat_lit 0))), SV.v (V1.c (Sc.p (nat_lit 1) (nat_lit 0))),
 SV.v (V1.c (Sc.i IntKind.i64 (IntKind.wrap IntKind.i64 (i + (1 : Int)))))],
 [Bk.mk (nat_lit 32)
 [Seg.arr (nat_lit 0) (nat_lit 32)
 (List.set r (Int.toNat (Mic.d (List.getD l (eo + Int.toNat i) (Mic.mk (0 : Int) (0 : Int) (0 : Int) (0 : Int) (0 : Int) (0 : Int)))))
 (Z.valOf (Mic.k (List.getD l (eo + Int.toNat i) (Mic.mk (0 : Int) (0 : Int) (0 : Int) (0 : Int) (0 : Int) (0 : Int))))
 (Mic.i (List.getD l (eo + Int.toNat i) (Mic.mk (0 : Int) (0 : Int) (0 : Int) (0 : Int) (0 : Int) (0 : Int))))
 (Mic.i (List.getD l (eo + Int.toNat i) (Mic.mk (0 : Int) (0 : Int) (0 : Int) (0 : Int) (0 : Int) (0 : Int))))
 (Mic.i (List.getD l (eo + Int.toNat i) (Mic.mk (0 : Int) (0 : Int) (0 : Int) (0 : Int) (0 : Int) (0 : Int))))))]
 true,
 Bk.mk (nat_lit 32) [Seg.arr (nat_lit 0) (nat_lit 32) q] true]))))))))))
 (Tr.ret
 (X.ex (nat_lit 0),
 [SV.v (V1.c (Sc.rs (nat_lit 0) (nat_lit 6) eo n cap A)), SV.v (V1.c (Sc.i IntKind.i64 c)), SV.v (V1.c (Sc.p (nat_lit 0) (nat_lit 0))),
 SV.v (V1.c (Sc.p (nat_lit 1) (nat_lit 0))), SV.v (V1.c (Sc.i IntKind.i64 i))],
 [Bk.mk (nat_lit 32) [Seg.arr (nat_lit 0) (nat_lit 32) r] true, Bk.mk (nat_lit 32) [Seg.arr (nat_lit 0) (nat_lit 32) q] true]))

theorem rnd_lp_RUntil (eo : Nat) (n : Nat) (cap : Nat) (A : Option Addr) (c : Int) (i : Int) (r : List (Sh 0)) (q : List (Sh 0)) (l : List (Sh 5)) (W : List Rw) : rnd cx_zoetroperef14_Until 60 (⟨5, l⟩ :: W) (loopC 3 (codeOf Try.f17)) [0, 2, 4, 6, 7] 0 (zipE [0, 2, 4, 6, 7] [(.v (.c (.rs 0 6 eo n cap A))), (.v (.c (.i .i64 c))), (.v (.c (.p 0 0))), (.v (.c (.p 1 0))), (.v (.c (.i .i64 i)))]) [⟨32, [.arr 0 32 r], true⟩, ⟨32, [.arr 0 32 q], true⟩] = outr_lp_RUntil eo n cap A c i r q l := by kernel_rfl
theorem lpp_lp_RUntil {c0 : Z.Cx} {ρ0 : List Nat} (eo : Nat) (n : Nat) (cap : Nat) (A : Option Addr) (c : Int) (i : Int) (r : List (Sh 0)) (q : List (Sh 0)) (l : List (Sh 5)) (W : List Rw) (hR : repR (⟨5, l⟩ :: W) c0.R) (hne : ρ0.length ≤ 0) {Q : Exit → Act → World → Prop} {e : Env} {H : List Bk} (hsel : canE 0 [0, 2, 4, 6, 7] e H = some ([(.v (.c (.rs 0 6 eo n cap A))), (.v (.c (.i .i64 c))), (.v (.c (.p 0 0))), (.v (.c (.p 1 0))), (.v (.c (.i .i64 i)))], [⟨32, [.arr 0 32 r], true⟩, ⟨32, [.arr 0 32 q], true⟩])) (h : (.ass (i = ((0 : Nat) : Int) ∧ (n ≤ 65536 ∧ eo + n ≤ l.length) ∧ (∀ m ∈ sub l eo n, fitsP m) ∧ (∀ m ∈ sub l eo n, U32 m.i) ∧ Regs r) (.ret (.ex 0, [(4, .v (.c (.p 0 0))), (6, .v (.c (.p 1 0)))], [⟨32, [.arr 0 32 (untilOf c (sub l eo n) r)], true⟩, ⟨32, [.arr 0 32 (q)], true⟩])) : Tr (X × Env × List Bk)).all (fun y => YE c0 ρ0 Q 60 (toX y.1) y.2.1 y.2.2)) : YC Try.prog c0 ρ0 Q 60 (.loop (loopC 3 (codeOf Try.f17))) e H := by
  obtain ⟨hp, h⟩ := h
  replace h := h hp
  obtain ⟨rfl, hN, hf, hm, hr⟩ := hp
  have hle : eo + n ≤ l.length := by omega
  refine YC.canon hne hsel ?_
  have key := loop_sound (P := Try.prog) (c := c0) (ρ0 := ρ0) (N := 60) (Q := Q) cx_zoetroperef14_Until_ok hR (LpOK.no (by kernel_rfl)) [0, 2, 4, 6, 7] 0 hne (σ := Nat) (body := (loopC 3 (codeOf Try.f17))) (fun s => [.v (.c (.rs 0 6 eo n cap A)), .v (.c (.i .i64 (c))), .v (.c (.p 0 0)), .v (.c (.p 1 0)), .v (.c (.i .i64 ((s : Int))))]) (fun s => [⟨32, [.arr 0 32 (untilOf c ((sub l eo n).take s) r)], true⟩, ⟨32, [.arr 0 32 (q)], true⟩]) (fun s => s ≤ n) (fun s => n - s) (fun y => ∃ u, y = (.ex 0, [.v (.c (.rs 0 6 eo n cap A)), .v (.c (.i .i64 (c))), .v (.c (.p 0 0)), .v (.c (.p 1 0)), .v (.c (.i .i64 (u)))], [⟨32, [.arr 0 32 (untilOf c (sub l eo n) r)], true⟩, ⟨32, [.arr 0 32 (q)], true⟩])) ?round ?post 0 (by omega)
  case round =>
    intro s hI
    rw [rnd_lp_RUntil]
    unfold outr_lp_RUntil
    simp only [Tr.all]
    rw [show eo + ((s : Nat) : Int).toNat = eo + s by omega]
    refine ⟨fun hc => ?_, fun hc => Or.inr ⟨nofun, (s : Int), ?_⟩⟩
    · have hc := of_decide_eq_true hc
      have hc : s < n := by omega
      have hs := sub_step (d := (⟨0, 0, 0, 0, 0, 0⟩ : Mic)) hle hc
      have hrs := untilOf_regs (n := c) (fun m hx => hm m (List.mem_of_mem_take hx)) hr (l := (sub l eo n).take s)
      have hu : U32 (l.getD (eo + s) ⟨0, 0, 0, 0, 0, 0⟩).i := sub_mem (p := fun m => U32 m.i) hm hle hc
      have hfx : fitsP (l.getD (eo + s) ⟨0, 0, 0, 0, 0, 0⟩) := sub_mem (p := fitsP) hf hle hc
      have e1 : IntKind.i64.wrap ((s : Int) + 1) = ((s + 1 : Nat) : Int) := Z.wI64 (by omega)
      have hst := untilOf_snoc c ((sub l eo n).take s) (l.getD (eo + s) ⟨0, 0, 0, 0, 0, 0⟩) r
      rw [← hs] at hst
      rw [e1]
      clear hs
      revert hu hfx hst hrs
      generalize l.getD (eo + s) (⟨0, 0, 0, 0, 0, 0⟩ : Mic) = x
      generalize untilOf c ((sub l eo n).take s) r = rr
      generalize hR : untilOf c ((sub l eo n).take (s + 1)) r = rx
      intro hrs hu hfx hst
      have hno : x.k = 0 ∨ c < x.c → rr = rx := fun h => by rw [hst]; exact until_skip h
      have hyes : ∀ a b : Int, ¬ (x.k = 0 ∨ c < x.c) → ((x.a < 32 → a = rr.getD x.a.toNat 0) ∧ (¬ x.a < 32 → a = x.i)) → ((x.b < 32 → b = rr.getD x.b.toNat 0) ∧ (¬ x.b < 32 → b = x.i)) → rr.set x.d.toNat (Z.valOf x.k a b x.i) = rx := fun a b h ha hb => by rw [hst]; exact until_fit hfx h ha hb
      have ga : 0 ≤ x.a → x.a < 32 → U32 (rr.getD x.a.toNat 0) := fun h1 h2 => regs_getD hrs ⟨h1, h2⟩
      have gb : 0 ≤ x.b → x.b < 32 → U32 (rr.getD x.b.toNat 0) := fun h1 h2 => regs_getD hrs ⟨h1, h2⟩
      obtain ⟨f1, f2, f3, f4, f5, f6, f7, f8, f9⟩ := id hfx
      refine ⟨by omega, fun _ => ⟨by omega, fun _ => ?_⟩⟩
      simp only [Bool.cond_true_left, Bool.or_eq_true, Bool.or_eq_false_iff, decide_eq_true_eq, decide_eq_false_iff_not]
      refine ⟨fun h1 => Or.inl ⟨trivial, s + 1, by omega, by omega, rfl, by rw [hR, ← hno h1]⟩, fun h1 => ?_⟩
      have h1' : ¬ (x.k = 0 ∨ c < x.c) := by omega
      obtain ⟨g1, g2, g3, g4, g5, g6⟩ := f7 (by omega)
      refine ⟨fun h2 => ⟨by omega, fun _ => ⟨by omega, fun _ => ⟨fun h3 => ⟨by omega, fun _ => ⟨by omega, fun _ => ⟨⟨⟨ga (by omega) h2, gb (by omega) h3, hu⟩, by omega, by omega⟩, fun _ => ⟨by omega, fun _ => ⟨by omega, fun _ => Or.inl ⟨trivial, s + 1, by omega, by omega, rfl, ?_⟩⟩⟩⟩⟩⟩,
        fun h3 => ⟨⟨⟨ga (by omega) h2, hu, hu⟩, by omega, by omega⟩, fun _ => ⟨by omega, fun _ => ⟨by omega, fun _ => Or.inl ⟨trivial, s + 1, by omega, by omega, rfl, ?_⟩⟩⟩⟩⟩⟩⟩,
        fun h2 => ⟨fun h3 => ⟨by omega, fun _ => ⟨by omega, fun _ => ⟨⟨⟨hu, gb (by omega) h3, hu⟩, by omega, by omega⟩, fun _ => ⟨by omega, fun _ => ⟨by omega, fun _ => Or.inl ⟨trivial, s + 1, by omega, by omega, rfl, ?_⟩⟩⟩⟩⟩⟩,
        fun h3 => ⟨⟨⟨hu, hu, hu⟩, by omega, by omega⟩, fun _ => ⟨by omega, fun _ => ⟨by omega, fun _ => Or.inl ⟨trivial, s + 1, by omega, by omega, rfl, ?_⟩⟩⟩⟩⟩⟩
      all_goals (rw [hR, ← hyes _ _ h1' ⟨fun h => ?_, fun h => ?_⟩ ⟨fun h => ?_, fun h => ?_⟩])
      all_goals first | rfl | exact absurd h2 h | exact absurd h3 h | exact absurd h h2 | exact absurd h h3
    · have hc := of_decide_eq_false hc
      obtain rfl : s = n := by omega
      rw [sub_take hle]
  case post =>
    intro y hy hp
    obtain ⟨u, rfl⟩ := hp
    exact YE.weaken (Sub.cons rfl (Sub.cons rfl Sub.nil)) h
  exact key
theorem lpc_lp_RUntil (c : Z.Cx) (ρ0 : List Nat) (W : List Rw) (hR : repR W c.R) (hne : ρ0.length ≤ 0) : ∀ Q e H, (lp_RUntil e H W).all (fun y => YE c ρ0 Q 60 (toX y.1) y.2.1 y.2.2) → YC Try.prog c ρ0 Q 60 (.loop (loopC 3 (codeOf Try.f17))) e H := by
  intro Q e H h
  unfold lp_RUntil at h
  (try simp only at h)
  split at h
  · rename_i heq
    exact lpp_lp_RUntil _ _ _ _ _ _ _ _ _ _ hR hne (by assumption) h
  · exact h.elim
noncomputable def out_zoetroperef14_Until (eo : Nat) (n : Nat) (cap : Nat) (A : Option Addr) (r : List (Sh 0)) (c : Int) (l : List (Sh 5)) : Tr (SV × List Bk) :=
Tr.ass ((0 : Int) ≤ (0 : Int) ∧ (0 : Int) < (↑(32 : Nat) : Int))
 (Tr.ass (Int.toNat (0 : Int) < (32 : Nat))
 (Tr.ass
 ((0 : Int) = (↑(0 : Nat) : Int) ∧
 (n ≤ (65536 : Nat) ∧ eo + n ≤ List.length l) ∧
 (∀ (m : Sh (5 : Nat)), m ∈ X.sub l eo n → X.fitsP m) ∧
 (∀ (m : Sh (5 : Nat)), m ∈ X.sub l eo n → Z.U32 (Mic.i m)) ∧ Z.Regs (List.set r (Int.toNat (0 : Int)) (0 : Int)))
 (Tr.ret (SV.v (V1.agg [Seg.arr (nat_lit 0) (nat_lit 32) (X.untilOf c (X.sub l eo n) (List.set r (Int.toNat (0 : Int)) (0 : Int)))]), []))))

theorem run_zoetroperef14_Until (eo : Nat) (n : Nat) (cap : Nat) (A : Option Addr) (r : List (Sh 0)) (c : Int) (l : List (Sh 5)) (W : List Rw) : runF cx_zoetroperef14_Until 60 [.cell 6 32] (codeOf Try.f17) [(.v (.c (.rs 0 6 eo n cap A))), (.v (.agg [.arr 0 32 r])), (.v (.c (.i .i64 c)))] [] (⟨5, l⟩ :: W) = out_zoetroperef14_Until eo n cap A r c l := by kernel_rfl
theorem pf_zoetroperef14_Until (eo : Nat) (n : Nat) (cap : Nat) (A : Option Addr) (r : List (Sh 0)) (c : Int) (l : List (Sh 5)) (K : SV × List Bk → Prop) (h : (.ass ((n ≤ 65536 ∧ eo + n ≤ l.length) ∧ (∀ m ∈ sub l eo n, fitsP m) ∧ (∀ m ∈ sub l eo n, U32 m.i) ∧ Regs r) (.ret (.v (.agg [.arr 0 32 (untilOf c (sub l eo n) (r.set 0 (0 : Int)))]), [])) : Tr (SV × List Bk)).all K) : (out_zoetroperef14_Until eo n cap A r c l).all K := by
  obtain ⟨hp, h⟩ := h
  replace h := h hp
  replace h : K _ := h
  obtain ⟨hN, hf, hm, hr⟩ := hp
  have hr0 : Regs (r.set 0 (0 : Int)) := hr.set _ (by decide)
  unfold out_zoetroperef14_Until
  simp only [Tr.all]
  exact ⟨by decide, fun _ => ⟨by decide, fun _ => ⟨⟨rfl, hN, hf, hm, hr0⟩, fun _ => h⟩⟩⟩
noncomputable def con_zoetroperef14_Until : Con := ⟨true, fun args H W => match args, H, W with
  | [(.v (.c (.rs 0 6 eo n cap A))), (.v (.agg [.arr 0 32 r])), (.v (.c (.i .i64 c)))], [], ⟨5, l⟩ :: W => .ass ((n ≤ 65536 ∧ eo + n ≤ l.length) ∧ (∀ m ∈ sub l eo n, fitsP m) ∧ (∀ m ∈ sub l eo n, U32 m.i) ∧ Regs r) (.ret (.v (.agg [.arr 0 32 (untilOf c (sub l eo n) (r.set 0 (0 : Int)))]), []))
  | _, _, _ => .stuck 900⟩
theorem lpok_zoetroperef14_Until (c : Z.Cx) (ρ0 : List Nat) (W : List Rw) (hR : repR W c.R) (hne : ρ0.length ≤ 0) : LpOK Try.prog cx_zoetroperef14_Until c ρ0 60 W (codeOf Try.f17) := LpOK.all (ls := [((loopC 3 (codeOf Try.f17)), lp_RUntil)]) (by kernel_rfl) ⟨⟨(by kernel_rfl), lpc_lp_RUntil c ρ0 W hR hne⟩, trivial⟩
theorem ok_zoetroperef14_Until : ConOK Try.prog 17 con_zoetroperef14_Until := con_ok (code := (codeOf Try.f17)) (N := 60) (rs := [.cell 6 32]) cx_zoetroperef14_Until_ok 0 Try.func17 rfl rfl rfl lpok_zoetroperef14_Until (by
  intro args H W K h hro
  unfold con_zoetroperef14_Until at h
  simp only at h
  split at h
  · refine ⟨rfl, ?_⟩
    rw [run_zoetroperef14_Until]
    exact pf_zoetroperef14_Until _ _ _ _ _ _ _ K h
  · exact h.elim)
end Go.Y
