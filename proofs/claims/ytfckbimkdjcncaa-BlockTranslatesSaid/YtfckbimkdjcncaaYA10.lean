/- PRINTED by wip/tools/ybuild.py: contracts of zoetropelaw14.BlockMay, zoetropelaw14.BlockValues, zoetropelaw14.BlockRuns, zoetropelaw14.BlockKnown, zoetropelaw14.BlockParts. -/
import Derived.Test.YtfckbimkdjcncaaYTyA
import Derived.Test.YtfckbimkdjcncaaG6
import Derived.Test.YtfckbimkdjcncaaYA00
import Derived.Test.YtfckbimkdjcncaaYA01
import Derived.Test.YtfckbimkdjcncaaYA02
import Derived.Test.YtfckbimkdjcncaaYA03
import Derived.Test.YtfckbimkdjcncaaYA04
import Derived.Test.YtfckbimkdjcncaaYA05
import Derived.Test.YtfckbimkdjcncaaYA06
import Derived.Test.YtfckbimkdjcncaaYA07
import Derived.Test.YtfckbimkdjcncaaYA08
import Derived.Test.YtfckbimkdjcncaaYA09
set_option maxRecDepth 100000
set_option linter.unusedSimpArgs false
set_option linter.unusedVariables false
namespace Go.Y
open Go.Proofs Go.X
open Go.Z (U32 Regs rg kindOf lessOf shiftOf fillOf sg bitAt withBit bnor bor band bxor b01 bitsOf)
noncomputable def cx_zoetropelaw14_BlockMay : Ctx := mkCtx tys eqs [(12, con_zoetropelaw14_fixed), (13, con_ir_May), (14, con_zoetroperef14_May)] []
theorem cx_zoetropelaw14_BlockMay_ok : CtxOK Try.prog cx_zoetropelaw14_BlockMay := mkCtx_ok _ mixed tys_ok eqs_ok ⟨⟨ok_zoetropelaw14_fixed, Try.call12⟩, ⟨⟨ok_ir_May, Try.call13⟩, ⟨⟨ok_zoetroperef14_May, Try.call14⟩, trivial⟩⟩⟩
noncomputable def out_zoetropelaw14_BlockMay (eo : Nat) (n : Nat) (cap : Nat) (A : Option Addr) (l : List (Sh 5)) : Tr (SV × List Bk) :=
Tr.ass (((0 : Int) ≤ if (20 : Int) < (↑n : Int) then (20 : Int) else (↑n : Int)) ∧ (if (20 : Int) < (↑n : Int) then (20 : Int) else (↑n : Int)) ≤ (↑n : Int))
 (Tr.ass ((0 : Int) ≤ (↑(0 : Nat) : Int) ∧ (↑(0 : Nat) : Int) ≤ (↑(Int.toNat (if (20 : Int) < (↑n : Int) then (20 : Int) else (↑n : Int))) : Int))
 (Tr.ass (n ≤ cap)
 (Tr.ass
 (true = true →
 Int.toNat (if (20 : Int) < (↑n : Int) then (20 : Int) else (↑n : Int)) ≤ (65536 : Nat) ∧
 eo + Int.toNat (if (20 : Int) < (↑n : Int) then (20 : Int) else (↑n : Int)) ≤ List.length l ∧ List.length l ≤ List.length l)
 (Tr.ass
 (true = true →
 Int.toNat (if (20 : Int) < (↑n : Int) then (20 : Int) else (↑n : Int)) ≤ (65536 : Nat) ∧ eo + Int.toNat (if (20 : Int) < (↑n : Int) then (20 : Int) else (↑n : Int)) ≤ List.length l)
 (Tr.ret
 (SV.v
 (V1.c
 (Sc.b
 (X.mayOf (X.sub l eo (Int.toNat (if (20 : Int) < (↑n : Int) then (20 : Int) else (↑n : Int)))) ==
 X.mayOf (X.sub l eo (Int.toNat (if (20 : Int) < (↑n : Int) then (20 : Int) else (↑n : Int))))))),
 []))))))

theorem run_zoetropelaw14_BlockMay (eo : Nat) (n : Nat) (cap : Nat) (A : Option Addr) (l : List (Sh 5)) (W : List Rw) : runF cx_zoetropelaw14_BlockMay 16 [.tmp 2] (codeOf Try.f4) [(.v (.c (.rs 0 6 eo n cap A)))] [] (⟨5, l⟩ :: W) = out_zoetropelaw14_BlockMay eo n cap A l := by kernel_rfl
theorem pf_zoetropelaw14_BlockMay (eo : Nat) (n : Nat) (cap : Nat) (A : Option Addr) (l : List (Sh 5)) (K : SV × List Bk → Prop) (h : (.ass (n ≤ cap ∧ eo + n ≤ l.length) (.ret (.v (.c (.b (true))), [])) : Tr (SV × List Bk)).all K) : (out_zoetropelaw14_BlockMay eo n cap A l).all K := by
  obtain ⟨⟨hc, hN⟩, h⟩ := h
  replace h := h ⟨hc, hN⟩
  replace h : K _ := h
  unfold out_zoetropelaw14_BlockMay
  simp only [Tr.all, toNat_min20]
  exact ⟨⟨by split <;> omega, by split <;> omega⟩, fun _ => ⟨by omega, fun _ => ⟨hc, fun _ => ⟨fun _ => ⟨by omega, by omega, by omega⟩, fun _ => ⟨fun _ => ⟨by omega, by omega⟩, fun _ => leafB h (by simp)⟩⟩⟩⟩⟩
noncomputable def con_zoetropelaw14_BlockMay : Con := ⟨true, fun args H W => match args, H, W with
  | [(.v (.c (.rs 0 6 eo n cap A)))], [], ⟨5, l⟩ :: W => .ass (n ≤ cap ∧ eo + n ≤ l.length) (.ret (.v (.c (.b (true))), []))
  | _, _, _ => .stuck 900⟩
theorem ok_zoetropelaw14_BlockMay : ConOK Try.prog 4 con_zoetropelaw14_BlockMay := con_ok (code := (codeOf Try.f4)) (N := 16) (rs := [.tmp 2]) cx_zoetropelaw14_BlockMay_ok 0 Try.func4 rfl rfl rfl (fun _ _ _ _ _ => LpOK.no (by kernel_rfl)) (by
  intro args H W K h hro
  unfold con_zoetropelaw14_BlockMay at h
  simp only at h
  split at h
  · refine ⟨rfl, ?_⟩
    rw [run_zoetropelaw14_BlockMay]
    exact pf_zoetropelaw14_BlockMay _ _ _ _ _ K h
  · exact h.elim)
noncomputable def cx_zoetropelaw14_BlockValues : Ctx := mkCtx tys eqs [(12, con_zoetropelaw14_fixed), (18, con_ir_Value), (19, con_zoetroperef14_Value)] []
theorem cx_zoetropelaw14_BlockValues_ok : CtxOK Try.prog cx_zoetropelaw14_BlockValues := mkCtx_ok _ mixed tys_ok eqs_ok ⟨⟨ok_zoetropelaw14_fixed, Try.call12⟩, ⟨⟨ok_ir_Value, Try.call18⟩, ⟨⟨ok_zoetroperef14_Value, Try.call19⟩, trivial⟩⟩⟩
noncomputable def out_zoetropelaw14_BlockValues (k : Int) (a : Int) (b : Int) : Tr (SV × List Bk) :=
Tr.ass ((13 : Int) ≠ (0 : Int))
 (Tr.ass (true = true → Z.U32 a ∧ Z.U32 b ∧ Z.U32 (bits BinOp.xor IntKind.u32 a b))
 (Tr.ass
 (true = true →
 (Z.U32 a ∧ Z.U32 b ∧ Z.U32 (bits BinOp.xor IntKind.u32 a b)) ∧
 (1 : Int) ≤ IntKind.wrap IntKind.i64 ((1 : Int) + Int.tmod (bits BinOp.and IntKind.i64 k (65535 : Int)) (13 : Int)) ∧
 IntKind.wrap IntKind.i64 ((1 : Int) + Int.tmod (bits BinOp.and IntKind.i64 k (65535 : Int)) (13 : Int)) ≤ (13 : Int))
 (Tr.ass
 (decide
 (Z.valOf (IntKind.wrap IntKind.i64 ((1 : Int) + Int.tmod (bits BinOp.and IntKind.i64 k (65535 : Int)) (13 : Int))) a b (bits BinOp.xor IntKind.u32 a b) =
 Z.valOf (IntKind.wrap IntKind.i64 ((1 : Int) + Int.tmod (bits BinOp.and IntKind.i64 k (65535 : Int)) (13 : Int))) a b (bits BinOp.xor IntKind.u32 a b)) =
 true →
 Z.U32 b ∧ Z.U32 a ∧ Z.U32 (7 : Int))
 (Tr.ass
 (decide
 (Z.valOf (IntKind.wrap IntKind.i64 ((1 : Int) + Int.tmod (bits BinOp.and IntKind.i64 k (65535 : Int)) (13 : Int))) a b (bits BinOp.xor IntKind.u32 a b) =
 Z.valOf (IntKind.wrap IntKind.i64 ((1 : Int) + Int.tmod (bits BinOp.and IntKind.i64 k (65535 : Int)) (13 : Int))) a b (bits BinOp.xor IntKind.u32 a b)) =
 true →
 (Z.U32 b ∧ Z.U32 a ∧ Z.U32 (7 : Int)) ∧
 (1 : Int) ≤ IntKind.wrap IntKind.i64 ((1 : Int) + Int.tmod (bits BinOp.and IntKind.i64 k (65535 : Int)) (13 : Int)) ∧
 IntKind.wrap IntKind.i64 ((1 : Int) + Int.tmod (bits BinOp.and IntKind.i64 k (65535 : Int)) (13 : Int)) ≤ (13 : Int))
 (Tr.ret
 (SV.v
 (V1.c
 (Sc.b
 (bif
 decide
 (Z.valOf (IntKind.wrap IntKind.i64 ((1 : Int) + Int.tmod (bits BinOp.and IntKind.i64 k (65535 : Int)) (13 : Int))) a b
 (bits BinOp.xor IntKind.u32 a b) =
 Z.valOf (IntKind.wrap IntKind.i64 ((1 : Int) + Int.tmod (bits BinOp.and IntKind.i64 k (65535 : Int)) (13 : Int))) a b
 (bits BinOp.xor IntKind.u32 a b)) then
 decide
 (Z.valOf (IntKind.wrap IntKind.i64 ((1 : Int) + Int.tmod (bits BinOp.and IntKind.i64 k (65535 : Int)) (13 : Int))) b a (7 : Int) =
 Z.valOf (IntKind.wrap IntKind.i64 ((1 : Int) + Int.tmod (bits BinOp.and IntKind.i64 k (65535 : Int)) (13 : Int))) b a (7 : Int))
 else false))),
 []))))))

theorem run_zoetropelaw14_BlockValues (k : Int) (a : Int) (b : Int) (W : List Rw) : runF cx_zoetropelaw14_BlockValues 41 [.tmp 6] (codeOf Try.f7) [(.v (.c (.i .i64 k))), (.v (.c (.i .u32 a))), (.v (.c (.i .u32 b)))] [] W = out_zoetropelaw14_BlockValues k a b := by kernel_rfl
theorem pf_zoetropelaw14_BlockValues (k : Int) (a : Int) (b : Int) (K : SV × List Bk → Prop) (h : (.ass (U32 a ∧ U32 b) (.ret (.v (.c (.b (true))), [])) : Tr (SV × List Bk)).all K) : (out_zoetropelaw14_BlockValues k a b).all K := by
  obtain ⟨⟨ha, hb⟩, h⟩ := h
  replace h := h ⟨ha, hb⟩
  replace h : K _ := h
  have hx : U32 (bits .xor .u32 a b) := by rw [Z.bxor_eq ha hb]; exact Z.bxor_u32 ha hb
  have h7 : U32 7 := by decide
  have hm : bits .and .i64 k 65535 = k % 65536 := Z.bM_i64 16 (by decide) (by decide) (by decide)
  have ht : Int.tmod (k % 65536) 13 = k % 65536 % 13 := Z.tmod_nn (by omega) (by omega)
  have hk : IntKind.i64.wrap (1 + k % 65536 % 13) = 1 + k % 65536 % 13 := Z.wI64 (by omega)
  unfold out_zoetropelaw14_BlockValues
  simp only [Tr.all, hm, ht, hk]
  refine ⟨by decide, fun _ => ⟨fun _ => ⟨ha, hb, hx⟩, fun _ => ⟨fun _ => ⟨⟨ha, hb, hx⟩, by omega, by omega⟩, fun _ => ⟨fun _ => ⟨hb, ha, h7⟩, fun _ => ⟨fun _ => ⟨⟨hb, ha, h7⟩, by omega, by omega⟩, fun _ => leafB h (by simp)⟩⟩⟩⟩⟩
noncomputable def con_zoetropelaw14_BlockValues : Con := ⟨true, fun args H W => match args, H, W with
  | [(.v (.c (.i .i64 k))), (.v (.c (.i .u32 a))), (.v (.c (.i .u32 b)))], [], _ => .ass (U32 a ∧ U32 b) (.ret (.v (.c (.b (true))), []))
  | _, _, _ => .stuck 900⟩
theorem ok_zoetropelaw14_BlockValues : ConOK Try.prog 7 con_zoetropelaw14_BlockValues := con_ok (code := (codeOf Try.f7)) (N := 41) (rs := [.tmp 6]) cx_zoetropelaw14_BlockValues_ok 0 Try.func7 rfl rfl rfl (fun _ _ _ _ _ => LpOK.no (by kernel_rfl)) (by
  intro args H W K h hro
  unfold con_zoetropelaw14_BlockValues at h
  simp only at h
  split at h
  · refine ⟨rfl, ?_⟩
    rw [run_zoetropelaw14_BlockValues]
    exact pf_zoetropelaw14_BlockValues _ _ _ K h
  · exact h.elim)
noncomputable def cx_zoetropelaw14_BlockRuns : Ctx := mkCtx tys eqs [(15, con_ir_Run), (16, con_ir_Until), (14, con_zoetroperef14_May), (12, con_zoetropelaw14_fixed), (17, con_zoetroperef14_Until)] []
theorem cx_zoetropelaw14_BlockRuns_ok : CtxOK Try.prog cx_zoetropelaw14_BlockRuns := mkCtx_ok _ mixed tys_ok eqs_ok ⟨⟨ok_ir_Run, Try.call15⟩, ⟨⟨ok_ir_Until, Try.call16⟩, ⟨⟨ok_zoetroperef14_May, Try.call14⟩, ⟨⟨ok_zoetropelaw14_fixed, Try.call12⟩, ⟨⟨ok_zoetroperef14_Until, Try.call17⟩, trivial⟩⟩⟩⟩⟩
noncomputable def out_zoetropelaw14_BlockRuns (eo : Nat) (n : Nat) (cap : Nat) (A : Option Addr) (r : List (Sh 0)) (c : Int) (l : List (Sh 5)) : Tr (SV × List Bk) :=
Tr.ass (((0 : Int) ≤ if (20 : Int) < (↑n : Int) then (20 : Int) else (↑n : Int)) ∧ (if (20 : Int) < (↑n : Int) then (20 : Int) else (↑n : Int)) ≤ (↑n : Int))
 (Tr.ass ((0 : Int) ≤ (↑(0 : Nat) : Int) ∧ (↑(0 : Nat) : Int) ≤ (↑(Int.toNat (if (20 : Int) < (↑n : Int) then (20 : Int) else (↑n : Int))) : Int))
 (Tr.ass (n ≤ cap)
 (Tr.ass
 ((Int.toNat (if (20 : Int) < (↑n : Int) then (20 : Int) else (↑n : Int)) ≤ (65536 : Nat) ∧
 eo + Int.toNat (if (20 : Int) < (↑n : Int) then (20 : Int) else (↑n : Int)) ≤ List.length l ∧ List.length l ≤ List.length l) ∧
 (∀ (m : Sh (5 : Nat)), m ∈ X.sub l eo (Int.toNat (if (20 : Int) < (↑n : Int) then (20 : Int) else (↑n : Int))) → Z.U32 (Mic.i m)) ∧ Z.Regs r)
 (Tr.ass
 ((Int.toNat (if (20 : Int) < (↑n : Int) then (20 : Int) else (↑n : Int)) ≤ (65536 : Nat) ∧
 eo + Int.toNat (if (20 : Int) < (↑n : Int) then (20 : Int) else (↑n : Int)) ≤ List.length l ∧ List.length l ≤ List.length l) ∧
 (∀ (m : Sh (5 : Nat)), m ∈ X.sub l eo (Int.toNat (if (20 : Int) < (↑n : Int) then (20 : Int) else (↑n : Int))) → Z.U32 (Mic.i m)) ∧ Z.Regs r)
 (Tr.both
 (Tr.ass
 (Int.toNat (if (20 : Int) < (↑n : Int) then (20 : Int) else (↑n : Int)) ≤ (65536 : Nat) ∧ eo + Int.toNat (if (20 : Int) < (↑n : Int) then (20 : Int) else (↑n : Int)) ≤ List.length l)
 (Tr.ite (!X.mayOf (X.sub l eo (Int.toNat (if (20 : Int) < (↑n : Int) then (20 : Int) else (↑n : Int))))) (Tr.ret (SV.v (V1.c (Sc.b true)), []))
 (Tr.ite (true == true)
 (Tr.ass
 ((Int.toNat (if (20 : Int) < (↑n : Int) then (20 : Int) else (↑n : Int)) ≤ (65536 : Nat) ∧
 eo + Int.toNat (if (20 : Int) < (↑n : Int) then (20 : Int) else (↑n : Int)) ≤ List.length l) ∧
 (∀ (m : Sh (5 : Nat)), m ∈ X.sub l eo (Int.toNat (if (20 : Int) < (↑n : Int) then (20 : Int) else (↑n : Int))) → X.fitsP m) ∧
 (∀ (m : Sh (5 : Nat)), m ∈ X.sub l eo (Int.toNat (if (20 : Int) < (↑n : Int) then (20 : Int) else (↑n : Int))) → Z.U32 (Mic.i m)) ∧ Z.Regs r)
 (Tr.ite
 (decide
 (X.runOf (X.sub l eo (Int.toNat (if (20 : Int) < (↑n : Int) then (20 : Int) else (↑n : Int)))) (List.set r (0 : Nat) (0 : Int)) =
 X.untilOf (16 : Int) (X.sub l eo (Int.toNat (if (20 : Int) < (↑n : Int) then (20 : Int) else (↑n : Int)))) (List.set r (0 : Nat) (0 : Int))) ==
 true)
 (Tr.ass
 ((Int.toNat (if (20 : Int) < (↑n : Int) then (20 : Int) else (↑n : Int)) ≤ (65536 : Nat) ∧
 eo + Int.toNat (if (20 : Int) < (↑n : Int) then (20 : Int) else (↑n : Int)) ≤ List.length l) ∧
 (∀ (m : Sh (5 : Nat)), m ∈ X.sub l eo (Int.toNat (if (20 : Int) < (↑n : Int) then (20 : Int) else (↑n : Int))) → X.fitsP m) ∧
 (∀ (m : Sh (5 : Nat)), m ∈ X.sub l eo (Int.toNat (if (20 : Int) < (↑n : Int) then (20 : Int) else (↑n : Int))) → Z.U32 (Mic.i m)) ∧ Z.Regs r)
 (Tr.ret
 (SV.v
 (V1.c
 (Sc.b
 (decide
 (X.untilOf c (X.sub l eo (Int.toNat (if (20 : Int) < (↑n : Int) then (20 : Int) else (↑n : Int)))) (List.set r (0 : Nat) (0 : Int)) =
 X.untilOf c (X.sub l eo (Int.toNat (if (20 : Int) < (↑n : Int) then (20 : Int) else (↑n : Int)))) (List.set r (0 : Nat) (0 : Int)))))),
 [])))
 (Tr.ret (SV.v (V1.c (Sc.b false)), []))))
 (Tr.ret (SV.v (V1.c (Sc.b false)), [])))))
 (Tr.ass
 (Int.toNat (if (20 : Int) < (↑n : Int) then (20 : Int) else (↑n : Int)) ≤ (65536 : Nat) ∧ eo + Int.toNat (if (20 : Int) < (↑n : Int) then (20 : Int) else (↑n : Int)) ≤ List.length l)
 (Tr.ite (!X.mayOf (X.sub l eo (Int.toNat (if (20 : Int) < (↑n : Int) then (20 : Int) else (↑n : Int))))) (Tr.ret (SV.v (V1.c (Sc.b true)), []))
 (Tr.ite (true == true)
 (Tr.ass
 ((Int.toNat (if (20 : Int) < (↑n : Int) then (20 : Int) else (↑n : Int)) ≤ (65536 : Nat) ∧
 eo + Int.toNat (if (20 : Int) < (↑n : Int) then (20 : Int) else (↑n : Int)) ≤ List.length l) ∧
 (∀ (m : Sh (5 : Nat)), m ∈ X.sub l eo (Int.toNat (if (20 : Int) < (↑n : Int) then (20 : Int) else (↑n : Int))) → X.fitsP m) ∧
 (∀ (m : Sh (5 : Nat)), m ∈ X.sub l eo (Int.toNat (if (20 : Int) < (↑n : Int) then (20 : Int) else (↑n : Int))) → Z.U32 (Mic.i m)) ∧ Z.Regs r)
 (Tr.ite
 (decide
 (X.runOf (X.sub l eo (Int.toNat (if (20 : Int) < (↑n : Int) then (20 : Int) else (↑n : Int)))) (List.set r (0 : Nat) (0 : Int)) =
 X.untilOf (16 : Int) (X.sub l eo (Int.toNat (if (20 : Int) < (↑n : Int) then (20 : Int) else (↑n : Int)))) (List.set r (0 : Nat) (0 : Int))) ==
 true)
 (Tr.ass
 ((Int.toNat (if (20 : Int) < (↑n : Int) then (20 : Int) else (↑n : Int)) ≤ (65536 : Nat) ∧
 eo + Int.toNat (if (20 : Int) < (↑n : Int) then (20 : Int) else (↑n : Int)) ≤ List.length l) ∧
 (∀ (m : Sh (5 : Nat)), m ∈ X.sub l eo (Int.toNat (if (20 : Int) < (↑n : Int) then (20 : Int) else (↑n : Int))) → X.fitsP m) ∧
 (∀ (m : Sh (5 : Nat)), m ∈ X.sub l eo (Int.toNat (if (20 : Int) < (↑n : Int) then (20 : Int) else (↑n : Int))) → Z.U32 (Mic.i m)) ∧ Z.Regs r)
 (Tr.ret
 (SV.v
 (V1.c
 (Sc.b
 (decide
 (X.untilOf c (X.sub l eo (Int.toNat (if (20 : Int) < (↑n : Int) then (20 : Int) else (↑n : Int)))) (List.set r (0 : Nat) (0 : Int)) =
 X.untilOf c (X.sub l eo (Int.toNat (if (20 : Int) < (↑n : Int) then (20 : Int) else (↑n : Int)))) (List.set r (0 : Nat) (0 : Int)))))),
 [])))
 (Tr.ret (SV.v (V1.c (Sc.b false)), []))))
 (Tr.ret (SV.v (V1.c (Sc.b false)), []))))))))))

theorem run_zoetropelaw14_BlockRuns (eo : Nat) (n : Nat) (cap : Nat) (A : Option Addr) (r : List (Sh 0)) (c : Int) (l : List (Sh 5)) (W : List Rw) : runF cx_zoetropelaw14_BlockRuns 43 [.tmp 6] (codeOf Try.f5) [(.v (.c (.rs 0 6 eo n cap A))), (.v (.agg [.arr 0 32 r])), (.v (.c (.i .i64 c)))] [] (⟨5, l⟩ :: W) = out_zoetropelaw14_BlockRuns eo n cap A r c l := by kernel_rfl
theorem pf_zoetropelaw14_BlockRuns (eo : Nat) (n : Nat) (cap : Nat) (A : Option Addr) (r : List (Sh 0)) (c : Int) (l : List (Sh 5)) (K : SV × List Bk → Prop) (h : (.ass (n ≤ cap ∧ eo + n ≤ l.length ∧ (∀ m ∈ sub l eo n, U32 m.i) ∧ Regs r) (.ret (.v (.c (.b (true))), [])) : Tr (SV × List Bk)).all K) : (out_zoetropelaw14_BlockRuns eo n cap A r c l).all K := by
  obtain ⟨hp, h⟩ := h
  replace h := h hp
  replace h : K _ := h
  obtain ⟨hc, hN, hu, hr⟩ := hp
  have hu' : ∀ m ∈ (sub l eo n).take 20, U32 m.i := fun m hm => hu m (List.mem_of_mem_take hm)
  unfold out_zoetropelaw14_BlockRuns
  simp only [Tr.all, toNat_min20, sub_min]
  have hP : (min 20 n ≤ 65536 ∧ eo + min 20 n ≤ l.length ∧ l.length ≤ l.length) ∧ (∀ m ∈ (sub l eo n).take 20, U32 m.i) ∧ Regs r := ⟨⟨by omega, by omega, by omega⟩, hu', hr⟩
  have hfin : ∀ (g : Bool → Prop), g true → min 20 n ≤ 65536 ∧ eo + min 20 n ≤ l.length ∧ True := fun _ _ => ⟨by omega, by omega, trivial⟩
  refine ⟨⟨by split <;> omega, by split <;> omega⟩, fun _ => ⟨by omega, fun _ => ⟨hc, fun _ => ⟨hP, fun _ => ⟨hP, fun _ => ?_⟩⟩⟩⟩⟩
  constructor
  all_goals
    refine ⟨⟨by omega, by omega⟩, fun _ => ⟨fun _ => h, fun h1 => ⟨fun _ => ?_, fun h2 => absurd h2 (by decide)⟩⟩⟩
    have hm : mayOf ((sub l eo n).take 20) = true := by simpa using h1
    have hP2 : (min 20 n ≤ 65536 ∧ eo + min 20 n ≤ l.length) ∧ (∀ m ∈ (sub l eo n).take 20, fitsP m) ∧ (∀ m ∈ (sub l eo n).take 20, U32 m.i) ∧ Regs r := ⟨⟨by omega, by omega⟩, may_fits hm, hu', hr⟩
    refine ⟨hP2, fun _ => ⟨fun _ => ⟨hP2, fun _ => leafB h (by simp)⟩, fun h3 => absurd h3 ?_⟩⟩
    rw [until_may hm]; simp
noncomputable def con_zoetropelaw14_BlockRuns : Con := ⟨true, fun args H W => match args, H, W with
  | [(.v (.c (.rs 0 6 eo n cap A))), (.v (.agg [.arr 0 32 r])), (.v (.c (.i .i64 c)))], [], ⟨5, l⟩ :: W => .ass (n ≤ cap ∧ eo + n ≤ l.length ∧ (∀ m ∈ sub l eo n, U32 m.i) ∧ Regs r) (.ret (.v (.c (.b (true))), []))
  | _, _, _ => .stuck 900⟩
theorem ok_zoetropelaw14_BlockRuns : ConOK Try.prog 5 con_zoetropelaw14_BlockRuns := con_ok (code := (codeOf Try.f5)) (N := 43) (rs := [.tmp 6]) cx_zoetropelaw14_BlockRuns_ok 0 Try.func5 rfl rfl rfl (fun _ _ _ _ _ => LpOK.no (by kernel_rfl)) (by
  intro args H W K h hro
  unfold con_zoetropelaw14_BlockRuns at h
  simp only at h
  split at h
  · refine ⟨rfl, ?_⟩
    rw [run_zoetropelaw14_BlockRuns]
    exact pf_zoetropelaw14_BlockRuns _ _ _ _ _ _ _ K h
  · exact h.elim)
noncomputable def lp_Kn : LpT := fun e H W => match canE 0 [0, 6, 7, 8, 9, 10] e H, W with
  | some ([(.v (.c (.rs 0 6 eo n cap A))), (.v (.c (.b z))), (.v (.c (.p 0 0))), (.v (.c (.p 1 0))), (.v (.c (.sl 2 0 1 0 33 33))), (.v (.c (.i .i64 i)))], [⟨32, [.arr 0 32 a], true⟩, ⟨32, [.arr 0 32 b], true⟩, ⟨4, [.arr 3 33 k], true⟩]), ⟨5, l⟩ :: W => .ass ((z = false ∧ i = ((0 : Nat) : Int)) ∧ (n ≤ 65536 ∧ eo + n ≤ l.length) ∧ (∀ m ∈ sub l eo n, fitsP m)) (.ret (.ex 0, [(6, .v (.c (.b false))), (7, .v (.c (.p 0 0))), (8, .v (.c (.p 1 0))), (9, .v (.c (.sl 2 0 1 0 33 33)))], [⟨32, [.arr 0 32 (a)], true⟩, ⟨32, [.arr 0 32 (b)], true⟩, ⟨4, [.arr 3 33 (knOf (sub l eo n) k)], true⟩]))
  | _, _ => .stuck 901
noncomputable def lp_Kn2 : LpT := fun e H W => match canE 0 [6, 7, 8, 9, 12] e H, W with
  | some ([(.v (.c (.b z))), (.v (.c (.p 0 0))), (.v (.c (.p 1 0))), (.v (.c (.sl 2 0 1 0 33 33))), (.v (.c (.i .i64 i)))], [⟨32, [.arr 0 32 a], true⟩, ⟨32, [.arr 0 32 b], true⟩, ⟨4, [.arr 3 33 k], true⟩]), W => .ass ((z = false ∧ i = ((0 : Nat) : Int)) ∧ (∀ j, j < 32 → k.getD j false = true → a.getD j (0 : Int) = b.getD j (0 : Int))) (.ret (.ex 2, [(7, .v (.c (.p 0 0))), (8, .v (.c (.p 1 0)))], [⟨32, [.arr 0 32 (a)], true⟩, ⟨32, [.arr 0 32 (b)], true⟩, ⟨4, [.arr 3 33 (k)], true⟩]))
  | _, _ => .stuck 901
noncomputable def cx_zoetropelaw14_BlockKnown : Ctx := mkCtx tys eqs [(13, con_ir_May), (12, con_zoetropelaw14_fixed), (15, con_ir_Run)] [(9, lp_Kn), (15, lp_Kn2)]
theorem cx_zoetropelaw14_BlockKnown_ok : CtxOK Try.prog cx_zoetropelaw14_BlockKnown := mkCtx_ok _ mixed tys_ok eqs_ok ⟨⟨ok_ir_May, Try.call13⟩, ⟨⟨ok_zoetropelaw14_fixed, Try.call12⟩, ⟨⟨ok_ir_Run, Try.call15⟩, trivial⟩⟩⟩
noncomputable def outr_lp_Kn (eo : Nat) (n : Nat) (cap : Nat) (A : Option Addr) (z : Bool) (i : Int) (a : List (Sh 0)) (b : List (Sh 0)) (k : List (Sh 3)) (l : List (Sh 5)) : Tr (X × List SV × List Bk) :=
Tr.ite (decide (i < (↑n : Int)))
 (Tr.ass ((0 : Int) ≤ i ∧ i < (↑n : Int))
 (Tr.ass (eo + Int.toNat i < List.length l)
 (Tr.ite (!decide (Mic.k (List.getD l (eo + Int.toNat i) (Mic.mk (0 : Int) (0 : Int) (0 : Int) (0 : Int) (0 : Int) (0 : Int))) = (0 : Int)))
 (Tr.ite (decide (Mic.k (List.getD l (eo + Int.toNat i) (Mic.mk (0 : Int) (0 : Int) (0 : Int) (0 : Int) (0 : Int) (0 : Int))) = (1 : Int)) == false)
 (Tr.ass
 ((0 : Int) ≤ Mic.a (List.getD l (eo + Int.toNat i) (Mic.mk (0 : Int) (0 : Int) (0 : Int) (0 : Int) (0 : Int) (0 : Int))) ∧
 Mic.a (List.getD l (eo + Int.toNat i) (Mic.mk (0 : Int) (0 : Int) (0 : Int) (0 : Int) (0 : Int) (0 : Int))) < (↑(33 : Nat) : Int))
 (Tr.ass ((0 : Nat) + Int.toNat (Mic.a (List.getD l (eo + Int.toNat i) (Mic.mk (0 : Int) (0 : Int) (0 : Int) (0 : Int) (0 : Int) (0 : Int)))) < (33 : Nat))
 (Tr.ite
 (List.getD k ((0 : Nat) + Int.toNat (Mic.a (List.getD l (eo + Int.toNat i) (Mic.mk (0 : Int) (0 : Int) (0 : Int) (0 : Int) (0 : Int) (0 : Int))))) false == true)
 (Tr.ite (decide (Mic.k (List.getD l (eo + Int.toNat i) (Mic.mk (0 : Int) (0 : Int) (0 : Int) (0 : Int) (0 : Int) (0 : Int))) = (2 : Int)) == false)
 (Tr.ass
 ((0 : Int) ≤ Mic.b (List.getD l (eo + Int.toNat i) (Mic.mk (0 : Int) (0 : Int) (0 : Int) (0 : Int) (0 : Int) (0 : Int))) ∧
 Mic.b (List.getD l (eo + Int.toNat i) (Mic.mk (0 : Int) (0 : Int) (0 : Int) (0 : Int) (0 : Int) (0 : Int))) < (↑(33 : Nat) : Int))
 (Tr.ass ((0 : Nat) + Int.toNat (Mic.b (List.getD l (eo + Int.toNat i) (Mic.mk (0 : Int) (0 : Int) (0 : Int) (0 : Int) (0 : Int) (0 : Int)))) < (33 : Nat))
 (Tr.ass
 ((0 : Int) ≤ Mic.d (List.getD l (eo + Int.toNat i) (Mic.mk (0 : Int) (0 : Int) (0 : Int) (0 : Int) (0 : Int) (0 : Int))) ∧
 Mic.d (List.getD l (eo + Int.toNat i) (Mic.mk (0 : Int) (0 : Int) (0 : Int) (0 : Int) (0 : Int) (0 : Int))) < (↑(33 : Nat) : Int))
 (Tr.ass ((0 : Nat) + Int.toNat (Mic.d (List.getD l (eo + Int.toNat i) (Mic.mk (0 : Int) (0 : Int) (0 : Int) (0 : Int) (0 : Int) (0 : Int)))) < (33 : Nat))
 (Tr.ret
 (X.nor,
 [SV.v (V1.c (Sc.rs (nat_lit 0) (nat_lit 6) eo n cap A)), SV.v (V1.c (Sc.b z)), SV.v (V1.c (Sc.p (nat_lit 0) (nat_lit 0))),
 SV.v (V1.c (Sc.p (nat_lit 1) (nat_lit 0))), SV.v (V1.c (Sc.sl (nat_lit 2) (nat_lit 0) (nat_lit 1) (nat_lit 0) (nat_lit 33) (nat_lit 33))),
 SV.v (V1.c (Sc.i IntKind.i64 (IntKind.wrap IntKind.i64 (i + (1 : Int)))))],
 [Bk.mk (nat_lit 32) [Seg.arr (nat_lit 0) (nat_lit 32) a] true, Bk.mk (nat_lit 32) [Seg.arr (nat_lit 0) (nat_lit 32) b] true,
 Bk.mk (nat_lit 4)
 [Seg.arr (nat_lit 3) (nat_lit 33)
 (List.set k ((0 : Nat) + Int.toNat (Mic.d (List.getD l (eo + Int.toNat i) (Mic.mk (0 : Int) (0 : Int) (0 : Int) (0 : Int) (0 : Int) (0 : Int)))))
 (List.getD k ((0 : Nat) + Int.toNat (Mic.b (List.getD l (eo + Int.toNat i) (Mic.mk (0 : Int) (0 : Int) (0 : Int) (0 : Int) (0 : Int) (0 : Int)))))
 false))]
 true]))))))
 (Tr.ass
 ((0 : Int) ≤ Mic.d (List.getD l (eo + Int.toNat i) (Mic.mk (0 : Int) (0 : Int) (0 : Int) (0 : Int) (0 : Int) (0 : Int))) ∧
 Mic.d (List.getD l (eo + Int.toNat i) (Mic.mk (0 : Int) (0 : Int) (0 : Int) (0 : Int) (0 : Int) (0 : Int))) < (↑(33 : Nat) : Int))
 (Tr.ass ((0 : Nat) + Int.toNat (Mic.d (List.getD l (eo + Int.toNat i) (Mic.mk (0 : Int) (0 : Int) (0 : Int) (0 : Int) (0 : Int) (0 : Int)))) < (33 : Nat))
 (Tr.ret
 (X.nor,
 [SV.v (V1.c (Sc.rs (nat_lit 0) (nat_lit 6) eo n cap A)), SV.v (V1.c (Sc.b z)), SV.v (V1.c (Sc.p (nat_lit 0) (nat_lit 0))),
 SV.v (V1.c (Sc.p (nat_lit 1) (nat_lit 0))), SV.v (V1.c (Sc.sl (nat_lit 2) (nat_lit 0) (nat_lit 1) (nat_lit 0) (nat_lit 33) (nat_lit 33))),
 SV.v (V1.c (Sc.i IntKind.i64 (IntKind.wrap IntKind.i64 (i + (1 : Int)))))],
 [Bk.mk (nat_lit 32) [Seg.arr (nat_lit 0) (nat_lit 32) a] true, Bk.mk (nat_lit 32) [Seg.arr (nat_lit 0) (nat_lit 32) b] true,
 Bk.mk (nat_lit 4)
 [Seg.arr (nat_lit 3) (nat_lit 33)
 (List.set k ((0 : Nat) + Int.toNat (Mic.d (List.getD l (eo + Int.toNat i) (Mic.mk (0 : Int) (0 : Int) (0 : Int) (0 : Int) (0 : Int) (0 : Int)))))
 true)]
 true])))))
 (Tr.ass
 ((0 : Int) ≤ Mic.d (List.getD l (eo + Int.toNat i) (Mic.mk (0 : Int) (0 : Int) (0 : Int) (0 : Int) (0 : Int) (0 : Int))) ∧
 Mic.d (List.getD l (eo + Int.toNat i) (Mic.mk (0 : Int) (0 : Int) (0 : Int) (0 : Int) (0 : Int) (0 : Int))) < (↑(33 : Nat) : Int))
 (Tr.ass ((0 : Nat) + Int.toNat (Mic.d (List.getD l (eo + Int.toNat i) (Mic.mk (0 : Int) (0 : Int) (0 : Int) (0 : Int) (0 : Int) (0 : Int)))) < (33 : Nat))
 (Tr.ret
 (X.nor,
 [SV.v (V1.c (Sc.rs (nat_lit 0) (nat_lit 6) eo n cap A)), SV.v (V1.c (Sc.b z)), SV.v (V1.c (Sc.p (nat_lit 0) (nat_lit 0))),
 SV.v (V1.c (Sc.p (nat_lit 1) (nat_lit 0))), SV.v (V1.c (Sc.sl (nat_lit 2) (nat_lit 0) (nat_lit 1) (nat_lit 0) (nat_lit 33) (nat_lit 33))),
 SV.v (V1.c (Sc.i IntKind.i64 (IntKind.wrap IntKind.i64 (i + (1 : Int)))))],
 [Bk.mk (nat_lit 32) [Seg.arr (nat_lit 0) (nat_lit 32) a] true, Bk.mk (nat_lit 32) [Seg.arr (nat_lit 0) (nat_lit 32) b] true,
 Bk.mk (nat_lit 4)
 [Seg.arr (nat_lit 3) (nat_lit 33)
 (List.set k ((0 : Nat) + Int.toNat (Mic.d (List.getD l (eo + Int.toNat i) (Mic.mk (0 : Int) (0 : Int) (0 : Int) (0 : Int) (0 : Int) (0 : Int))))) false)]
 true])))))))
 (Tr.ass
 ((0 : Int) ≤ Mic.d (List.getD l (eo + Int.toNat i) (Mic.mk (0 : Int) (0 : Int) (0 : Int) (0 : Int) (0 : Int) (0 : Int))) ∧
 Mic.d (List.getD l (eo + Int.toNat i) (Mic.mk (0 : Int) (0 : Int) (0 : Int) (0 : Int) (0 : Int) (0 : Int))) < (↑(33 : Nat) : Int))
 (Tr.ass ((0 : Nat) + Int.toNat (Mic.d (List.getD l (eo + Int.toNat i) (Mic.mk (0 : Int) (0 : Int) (0 : Int) (0 : Int) (0 : Int) (0 : Int)))) < (33 : Nat))
 (Tr.ret
 (X.nor,
 [SV.v (V1.c (Sc.rs (nat_lit 0) (nat_lit 6) eo n cap A)), SV.v (V1.c (Sc.b z)), SV.v (V1.c (Sc.p (nat_lit 0) (nat_lit 0))),
 SV.v (V1.c (Sc.p (nat_lit 1) (nat_lit 0))), SV.v (V1.c (Sc.sl (nat_lit 2) (nat_lit 0) (nat_lit 1) (nat_lit 0) (nat_lit 33) (nat_lit 33))),
 SV.v (V1.c (Sc.i IntKind.i64 (IntKind.wrap IntKind.i64 (i + (1 : Int)))))],
 [Bk.mk (nat_lit 32) [Seg.arr (nat_lit 0) (nat_lit 32) a] true, Bk.mk (nat_lit 32) [Seg.arr (nat_lit 0) (nat_lit 32) b] true,
 Bk.mk (nat_lit 4)
 [Seg.arr (nat_lit 3) (nat_lit 33)
 (List.set k ((0 : Nat) + Int.toNat (Mic.d (List.getD l (eo + Int.toNat i) (Mic.mk (0 : Int) (0 : Int) (0 : Int) (0 : Int) (0 : Int) (0 : Int))))) true)]
 true])))))
 (Tr.ret
 (X.nor,
 [SV.v (V1.c (Sc.rs (nat_lit 0) (nat_lit 6) eo n cap A)), SV.v (V1.c (Sc.b z)), SV.v (V1.c (Sc.p (nat_lit 0) (nat_lit 0))),
 SV.v (V1.c (Sc.p (nat_lit 1) (nat_lit 0))), SV.v (V1.c (Sc.sl (nat_lit 2) (nat_lit 0) (nat_lit 1) (nat_lit 0) (nat_lit 33) (nat_lit 33))),
 SV.v (V1.c (Sc.i IntKind.i64 (IntKind.wrap IntKind.i64 (i + (1 : Int)))))],
 [Bk.mk (nat_lit 32) [Seg.arr (nat_lit 0) (nat_lit 32) a] true, Bk.mk (nat_lit 32) [Seg.arr (nat_lit 0) (nat_lit 32) b] true,
 Bk.mk (nat_lit 4) [Seg.arr (nat_lit 3) (nat_lit 33) k] true])))))
 (Tr.ret
 (X.ex (nat_lit 0),
 [SV.v (V1.c (Sc.rs (nat_lit 0) (nat_lit 6) eo n cap A)), SV.v (V1.c (Sc.b z)), SV.v (V1.c (Sc.p (nat_lit 0) (nat_lit 0))),
 SV.v (V1.c (Sc.p (nat_lit 1) (nat_lit 0))), SV.v (V1.c (Sc.sl (nat_lit 2) (nat_lit 0) (nat_lit 1) (nat_lit 0) (nat_lit 33) (nat_lit 33))),
 SV.v (V1.c (Sc.i IntKind.i64 i))],
 [Bk.mk (nat_lit 32) [Seg.arr (nat_lit 0) (nat_lit 32) a] true, Bk.mk (nat_lit 32) [Seg.arr (nat_lit 0) (nat_lit 32) b] true,
 Bk.mk (nat_lit 4) [Seg.arr (nat_lit 3) (nat_lit 33) k] true]))

theorem rnd_lp_Kn (eo : Nat) (n : Nat) (cap : Nat) (A : Option Addr) (z : Bool) (i : Int) (a : List (Sh 0)) (b : List (Sh 0)) (k : List (Sh 3)) (l : List (Sh 5)) (W : List Rw) : rnd cx_zoetropelaw14_BlockKnown 100 (⟨5, l⟩ :: W) (loopC 9 (codeOf Try.f8)) [0, 6, 7, 8, 9, 10] 0 (zipE [0, 6, 7, 8, 9, 10] [(.v (.c (.rs 0 6 eo n cap A))), (.v (.c (.b z))), (.v (.c (.p 0 0))), (.v (.c (.p 1 0))), (.v (.c (.sl 2 0 1 0 33 33))), (.v (.c (.i .i64 i)))]) [⟨32, [.arr 0 32 a], true⟩, ⟨32, [.arr 0 32 b], true⟩, ⟨4, [.arr 3 33 k], true⟩] = outr_lp_Kn eo n cap A z i a b k l := by kernel_rfl
theorem lpp_lp_Kn {c0 : Z.Cx} {ρ0 : List Nat} (eo : Nat) (n : Nat) (cap : Nat) (A : Option Addr) (z : Bool) (i : Int) (a : List (Sh 0)) (b : List (Sh 0)) (k : List (Sh 3)) (l : List (Sh 5)) (W : List Rw) (hR : repR (⟨5, l⟩ :: W) c0.R) (hne : ρ0.length ≤ 0) {Q : Exit → Act → World → Prop} {e : Env} {H : List Bk} (hsel : canE 0 [0, 6, 7, 8, 9, 10] e H = some ([(.v (.c (.rs 0 6 eo n cap A))), (.v (.c (.b z))), (.v (.c (.p 0 0))), (.v (.c (.p 1 0))), (.v (.c (.sl 2 0 1 0 33 33))), (.v (.c (.i .i64 i)))], [⟨32, [.arr 0 32 a], true⟩, ⟨32, [.arr 0 32 b], true⟩, ⟨4, [.arr 3 33 k], true⟩])) (h : (.ass ((z = false ∧ i = ((0 : Nat) : Int)) ∧ (n ≤ 65536 ∧ eo + n ≤ l.length) ∧ (∀ m ∈ sub l eo n, fitsP m)) (.ret (.ex 0, [(6, .v (.c (.b false))), (7, .v (.c (.p 0 0))), (8, .v (.c (.p 1 0))), (9, .v (.c (.sl 2 0 1 0 33 33)))], [⟨32, [.arr 0 32 (a)], true⟩, ⟨32, [.arr 0 32 (b)], true⟩, ⟨4, [.arr 3 33 (knOf (sub l eo n) k)], true⟩])) : Tr (X × Env × List Bk)).all (fun y => YE c0 ρ0 Q 100 (toX y.1) y.2.1 y.2.2)) : YC Try.prog c0 ρ0 Q 100 (.loop (loopC 9 (codeOf Try.f8))) e H := by
  obtain ⟨hp, h⟩ := h
  replace h := h hp
  obtain ⟨⟨rfl, rfl⟩, hN, hf⟩ := hp
  have hle : eo + n ≤ l.length := by omega
  refine YC.canon hne hsel ?_
  have key := loop_sound (P := Try.prog) (c := c0) (ρ0 := ρ0) (N := 100) (Q := Q) cx_zoetropelaw14_BlockKnown_ok hR (LpOK.no (by kernel_rfl)) [0, 6, 7, 8, 9, 10] 0 hne (σ := Nat) (body := (loopC 9 (codeOf Try.f8))) (fun s => [.v (.c (.rs 0 6 eo n cap A)), .v (.c (.b false)), .v (.c (.p 0 0)), .v (.c (.p 1 0)), .v (.c (.sl 2 0 1 0 33 33)), .v (.c (.i .i64 ((s : Int))))]) (fun s => [⟨32, [.arr 0 32 (a)], true⟩, ⟨32, [.arr 0 32 (b)], true⟩, ⟨4, [.arr 3 33 (knOf ((sub l eo n).take s) k)], true⟩]) (fun s => s ≤ n) (fun s => n - s) (fun y => ∃ u, y = (.ex 0, [.v (.c (.rs 0 6 eo n cap A)), .v (.c (.b false)), .v (.c (.p 0 0)), .v (.c (.p 1 0)), .v (.c (.sl 2 0 1 0 33 33)), .v (.c (.i .i64 (u)))], [⟨32, [.arr 0 32 (a)], true⟩, ⟨32, [.arr 0 32 (b)], true⟩, ⟨4, [.arr 3 33 (knOf (sub l eo n) k)], true⟩])) ?round ?post 0 (by omega)
  case round =>
    intro s hI
    rw [rnd_lp_Kn]
    unfold outr_lp_Kn
    simp only [Tr.all]
    rw [show eo + ((s : Nat) : Int).toNat = eo + s by omega]
    refine ⟨fun hc => ?_, fun hc => Or.inr ⟨nofun, (s : Int), ?_⟩⟩
    · have hc := of_decide_eq_true hc
      have hc : s < n := by omega
      have hs := sub_step (d := (⟨0, 0, 0, 0, 0, 0⟩ : Mic)) hle hc
      have hfx : fitsP (l.getD (eo + s) ⟨0, 0, 0, 0, 0, 0⟩) := sub_mem (p := fitsP) hf hle hc
      have e1 : IntKind.i64.wrap ((s : Int) + 1) = ((s + 1 : Nat) : Int) := Z.wI64 (by omega)
      have hst := knOf_snoc ((sub l eo n).take s) (l.getD (eo + s) ⟨0, 0, 0, 0, 0, 0⟩) k
      rw [← hs] at hst
      rw [e1]
      clear hs
      revert hfx hst
      generalize l.getD (eo + s) (⟨0, 0, 0, 0, 0, 0⟩ : Mic) = x
      generalize knOf ((sub l eo n).take s) k = kk
      generalize hR : knOf ((sub l eo n).take (s + 1)) k = kx
      intro hfx hst
      obtain ⟨f1, f2, f3, f4, f5, f6, f7, f8, f9⟩ := id hfx
      unfold knS at hst
      simp only [Nat.zero_add]
      refine ⟨by omega, fun _ => ⟨by omega, fun _ => ?_⟩⟩
      refine ⟨fun h0 => ?_, fun h0 => ?_⟩
      · have h0 : ¬ x.k = 0 := by simpa using h0
        obtain ⟨g1, g2, g3, g4, g5, g6⟩ := f7 h0
        rw [if_neg h0] at hst
        refine ⟨fun h1 => ⟨⟨g3, by omega⟩, fun _ => ⟨by omega, fun _ => ⟨fun h2 => ⟨fun h3 => ⟨⟨g5, by omega⟩, fun _ => ⟨by omega, fun _ => ⟨⟨by omega, by omega⟩, fun _ => ⟨by omega, fun _ => Or.inl ⟨trivial, s + 1, by omega, by omega, rfl, ?_⟩⟩⟩⟩⟩, fun h3 => ⟨⟨by omega, by omega⟩, fun _ => ⟨by omega, fun _ => Or.inl ⟨trivial, s + 1, by omega, by omega, rfl, ?_⟩⟩⟩⟩, fun h2 => ⟨⟨by omega, by omega⟩, fun _ => ⟨by omega, fun _ => Or.inl ⟨trivial, s + 1, by omega, by omega, rfl, ?_⟩⟩⟩⟩⟩⟩, fun h1 => ⟨⟨by omega, by omega⟩, fun _ => ⟨by omega, fun _ => Or.inl ⟨trivial, s + 1, by omega, by omega, rfl, ?_⟩⟩⟩⟩
        all_goals (simp only [hR]; rw [hst]; simp_all)
      · have h0 : x.k = 0 := by simpa using h0
        rw [if_pos h0] at hst
        exact Or.inl ⟨trivial, s + 1, by omega, by omega, rfl, by simp only [hR]; rw [hst]⟩
    · have hc := of_decide_eq_false hc
      obtain rfl : s = n := by omega
      rw [sub_take hle]
  case post =>
    intro y hy hp
    obtain ⟨u, rfl⟩ := hp
    exact YE.weaken (Sub.cons rfl (Sub.cons rfl (Sub.cons rfl (Sub.cons rfl Sub.nil)))) h
  exact key
theorem lpc_lp_Kn (c : Z.Cx) (ρ0 : List Nat) (W : List Rw) (hR : repR W c.R) (hne : ρ0.length ≤ 0) : ∀ Q e H, (lp_Kn e H W).all (fun y => YE c ρ0 Q 100 (toX y.1) y.2.1 y.2.2) → YC Try.prog c ρ0 Q 100 (.loop (loopC 9 (codeOf Try.f8))) e H := by
  intro Q e H h
  unfold lp_Kn at h
  (try simp only at h)
  split at h
  · rename_i heq
    exact lpp_lp_Kn _ _ _ _ _ _ _ _ _ _ _ hR hne (by assumption) h
  · exact h.elim
noncomputable def outr_lp_Kn2 (z : Bool) (i : Int) (a : List (Sh 0)) (b : List (Sh 0)) (k : List (Sh 3)) : Tr (X × List SV × List Bk) :=
Tr.ite (decide (i < (32 : Int)))
 (Tr.ass ((0 : Int) ≤ i ∧ i < (↑(33 : Nat) : Int))
 (Tr.ass ((0 : Nat) + Int.toNat i < (33 : Nat))
 (Tr.ite (List.getD k ((0 : Nat) + Int.toNat i) false == true)
 (Tr.ass ((0 : Int) ≤ i ∧ i < (↑(32 : Nat) : Int))
 (Tr.ass (Int.toNat i < (32 : Nat))
 (Tr.ass ((0 : Int) ≤ i ∧ i < (↑(32 : Nat) : Int))
 (Tr.ass (Int.toNat i < (32 : Nat))
 (Tr.ite (!decide (List.getD a (Int.toNat i) (0 : Int) = List.getD b (Int.toNat i) (0 : Int)))
 (Tr.ret
 (X.ret,
 [SV.v (V1.c (Sc.b false)), SV.v (V1.c (Sc.p (nat_lit 0) (nat_lit 0))), SV.v (V1.c (Sc.p (nat_lit 1) (nat_lit 0))),
 SV.v (V1.c (Sc.sl (nat_lit 2) (nat_lit 0) (nat_lit 1) (nat_lit 0) (nat_lit 33) (nat_lit 33))), SV.v (V1.c (Sc.i IntKind.i64 i))],
 [Bk.mk (nat_lit 32) [Seg.arr (nat_lit 0) (nat_lit 32) a] true, Bk.mk (nat_lit 32) [Seg.arr (nat_lit 0) (nat_lit 32) b] true,
 Bk.mk (nat_lit 4) [Seg.arr (nat_lit 3) (nat_lit 33) k] true]))
 (Tr.ret
 (X.nor,
 [SV.v (V1.c (Sc.b z)), SV.v (V1.c (Sc.p (nat_lit 0) (nat_lit 0))), SV.v (V1.c (Sc.p (nat_lit 1) (nat_lit 0))),
 SV.v (V1.c (Sc.sl (nat_lit 2) (nat_lit 0) (nat_lit 1) (nat_lit 0) (nat_lit 33) (nat_lit 33))),
 SV.v (V1.c (Sc.i IntKind.i64 (IntKind.wrap IntKind.i64 (i + (1 : Int)))))],
 [Bk.mk (nat_lit 32) [Seg.arr (nat_lit 0) (nat_lit 32) a] true, Bk.mk (nat_lit 32) [Seg.arr (nat_lit 0) (nat_lit 32) b] true,
 Bk.mk (nat_lit 4) [Seg.arr (nat_lit 3) (nat_lit 33) k] true])))))))
 (Tr.ret
 (X.nor,
 [SV.v (V1.c (Sc.b z)), SV.v (V1.c (Sc.p (nat_lit 0) (nat_lit 0))), SV.v (V1.c (Sc.p (nat_lit 1) (nat_lit 0))),
 SV.v (V1.c (Sc.sl (nat_lit 2) (nat_lit 0) (nat_lit 1) (nat_lit 0) (nat_lit 33) (nat_lit 33))),
 SV.v (V1.c (Sc.i IntKind.i64 (IntKind.wrap IntKind.i64 (i + (1 : Int)))))],
 [Bk.mk (nat_lit 32) [Seg.arr (nat_lit 0) (nat_lit 32) a] true, Bk.mk (nat_lit 32) [Seg.arr (nat_lit 0) (nat_lit 32) b] true,
 Bk.mk (nat_lit 4) [Seg.arr (nat_lit 3) (nat_lit 33) k] true])))))
 (Tr.ret
 (X.ex (nat_lit 2),
 [SV.v (V1.c (Sc.b z)), SV.v (V1.c (Sc.p (nat_lit 0) (nat_lit 0))), SV.v (V1.c (Sc.p (nat_lit 1) (nat_lit 0))),
 SV.v (V1.c (Sc.sl (nat_lit 2) (nat_lit 0) (nat_lit 1) (nat_lit 0) (nat_lit 33) (nat_lit 33))), SV.v (V1.c (Sc.i IntKind.i64 i))],
 [Bk.mk (nat_lit 32) [Seg.arr (nat_lit 0) (nat_lit 32) a] true, Bk.mk (nat_lit 32) [Seg.arr (nat_lit 0) (nat_lit 32) b] true,
 Bk.mk (nat_lit 4) [Seg.arr (nat_lit 3) (nat_lit 33) k] true]))

theorem rnd_lp_Kn2 (z : Bool) (i : Int) (a : List (Sh 0)) (b : List (Sh 0)) (k : List (Sh 3)) (W : List Rw) : rnd cx_zoetropelaw14_BlockKnown 100 W (loopC 15 (codeOf Try.f8)) [6, 7, 8, 9, 12] 0 (zipE [6, 7, 8, 9, 12] [(.v (.c (.b z))), (.v (.c (.p 0 0))), (.v (.c (.p 1 0))), (.v (.c (.sl 2 0 1 0 33 33))), (.v (.c (.i .i64 i)))]) [⟨32, [.arr 0 32 a], true⟩, ⟨32, [.arr 0 32 b], true⟩, ⟨4, [.arr 3 33 k], true⟩] = outr_lp_Kn2 z i a b k := by kernel_rfl
theorem lpp_lp_Kn2 {c0 : Z.Cx} {ρ0 : List Nat} (z : Bool) (i : Int) (a : List (Sh 0)) (b : List (Sh 0)) (k : List (Sh 3)) (W : List Rw) (hR : repR W c0.R) (hne : ρ0.length ≤ 0) {Q : Exit → Act → World → Prop} {e : Env} {H : List Bk} (hsel : canE 0 [6, 7, 8, 9, 12] e H = some ([(.v (.c (.b z))), (.v (.c (.p 0 0))), (.v (.c (.p 1 0))), (.v (.c (.sl 2 0 1 0 33 33))), (.v (.c (.i .i64 i)))], [⟨32, [.arr 0 32 a], true⟩, ⟨32, [.arr 0 32 b], true⟩, ⟨4, [.arr 3 33 k], true⟩])) (h : (.ass ((z = false ∧ i = ((0 : Nat) : Int)) ∧ (∀ j, j < 32 → k.getD j false = true → a.getD j (0 : Int) = b.getD j (0 : Int))) (.ret (.ex 2, [(7, .v (.c (.p 0 0))), (8, .v (.c (.p 1 0)))], [⟨32, [.arr 0 32 (a)], true⟩, ⟨32, [.arr 0 32 (b)], true⟩, ⟨4, [.arr 3 33 (k)], true⟩])) : Tr (X × Env × List Bk)).all (fun y => YE c0 ρ0 Q 100 (toX y.1) y.2.1 y.2.2)) : YC Try.prog c0 ρ0 Q 100 (.loop (loopC 15 (codeOf Try.f8))) e H := by
  obtain ⟨hp, h⟩ := h
  replace h := h hp
  obtain ⟨⟨rfl, rfl⟩, hk⟩ := hp
  refine YC.canon hne hsel ?_
  have key := loop_sound (P := Try.prog) (c := c0) (ρ0 := ρ0) (N := 100) (Q := Q) cx_zoetropelaw14_BlockKnown_ok hR (LpOK.no (by kernel_rfl)) [6, 7, 8, 9, 12] 0 hne (σ := Nat) (body := (loopC 15 (codeOf Try.f8))) (fun s => [.v (.c (.b false)), .v (.c (.p 0 0)), .v (.c (.p 1 0)), .v (.c (.sl 2 0 1 0 33 33)), .v (.c (.i .i64 ((s : Int))))]) (fun _ => [⟨32, [.arr 0 32 (a)], true⟩, ⟨32, [.arr 0 32 (b)], true⟩, ⟨4, [.arr 3 33 (k)], true⟩]) (fun s => s ≤ 32) (fun s => 32 - s) (fun y => ∃ u, y = (.ex 2, [.v (.c (.b false)), .v (.c (.p 0 0)), .v (.c (.p 1 0)), .v (.c (.sl 2 0 1 0 33 33)), .v (.c (.i .i64 (u)))], [⟨32, [.arr 0 32 (a)], true⟩, ⟨32, [.arr 0 32 (b)], true⟩, ⟨4, [.arr 3 33 (k)], true⟩])) ?round ?post 0 (by omega)
  case round =>
    intro s hI
    rw [rnd_lp_Kn2]
    unfold outr_lp_Kn2
    simp only [Tr.all, Nat.zero_add]
    refine ⟨fun hc => ?_, fun hc => Or.inr ⟨nofun, (s : Int), rfl⟩⟩
    have hc := of_decide_eq_true hc
    have e1 : IntKind.i64.wrap ((s : Int) + 1) = ((s + 1 : Nat) : Int) := Z.wI64 (by omega)
    rw [e1]
    refine ⟨by omega, fun _ => ⟨by omega, fun _ => ⟨fun h1 => ⟨by omega, fun _ => ⟨by omega, fun _ => ⟨by omega, fun _ => ⟨by omega, fun _ => ⟨fun h2 => ?_, fun h2 => Or.inl ⟨trivial, s + 1, by omega, by omega, rfl, trivial⟩⟩⟩⟩⟩⟩, fun h1 => Or.inl ⟨trivial, s + 1, by omega, by omega, rfl, trivial⟩⟩⟩⟩
    have := hk s (by omega) (by simpa using h1)
    exact absurd h2 (by rw [show ((s : Nat) : Int).toNat = s by omega, this]; simp)
  case post =>
    intro y hy hp
    obtain ⟨u, rfl⟩ := hp
    exact YE.weaken (Sub.cons rfl (Sub.cons rfl Sub.nil)) h
  exact key
theorem lpc_lp_Kn2 (c : Z.Cx) (ρ0 : List Nat) (W : List Rw) (hR : repR W c.R) (hne : ρ0.length ≤ 0) : ∀ Q e H, (lp_Kn2 e H W).all (fun y => YE c ρ0 Q 100 (toX y.1) y.2.1 y.2.2) → YC Try.prog c ρ0 Q 100 (.loop (loopC 15 (codeOf Try.f8))) e H := by
  intro Q e H h
  unfold lp_Kn2 at h
  (try simp only at h)
  split at h
  · rename_i heq
    exact lpp_lp_Kn2 _ _ _ _ _ _ hR hne (by assumption) h
  · exact h.elim
noncomputable def out_zoetropelaw14_BlockKnown (eo : Nat) (n : Nat) (cap : Nat) (A : Option Addr) (r : List (Sh 0)) (s : List (Sh 0)) (l : List (Sh 5)) : Tr (SV × List Bk) :=
Tr.ass (((0 : Int) ≤ if (16 : Int) < (↑n : Int) then (16 : Int) else (↑n : Int)) ∧ (if (16 : Int) < (↑n : Int) then (16 : Int) else (↑n : Int)) ≤ (↑n : Int))
 (Tr.ass ((0 : Int) ≤ (↑(0 : Nat) : Int) ∧ (↑(0 : Nat) : Int) ≤ (↑(Int.toNat (if (16 : Int) < (↑n : Int) then (16 : Int) else (↑n : Int))) : Int))
 (Tr.ass (n ≤ cap)
 (Tr.ass
 (Int.toNat (if (16 : Int) < (↑n : Int) then (16 : Int) else (↑n : Int)) ≤ (65536 : Nat) ∧
 eo + Int.toNat (if (16 : Int) < (↑n : Int) then (16 : Int) else (↑n : Int)) ≤ List.length l ∧ List.length l ≤ List.length l)
 (Tr.ite (!X.mayOf (X.sub l eo (Int.toNat (if (16 : Int) < (↑n : Int) then (16 : Int) else (↑n : Int))))) (Tr.ret (SV.v (V1.c (Sc.b true)), []))
 (Tr.ass
 ((Int.toNat (if (16 : Int) < (↑n : Int) then (16 : Int) else (↑n : Int)) ≤ (65536 : Nat) ∧
 eo + Int.toNat (if (16 : Int) < (↑n : Int) then (16 : Int) else (↑n : Int)) ≤ List.length l ∧ List.length l ≤ List.length l) ∧
 (∀ (m : Sh (5 : Nat)), m ∈ X.sub l eo (Int.toNat (if (16 : Int) < (↑n : Int) then (16 : Int) else (↑n : Int))) → Z.U32 (Mic.i m)) ∧ Z.Regs r)
 (Tr.ass
 ((Int.toNat (if (16 : Int) < (↑n : Int) then (16 : Int) else (↑n : Int)) ≤ (65536 : Nat) ∧
 eo + Int.toNat (if (16 : Int) < (↑n : Int) then (16 : Int) else (↑n : Int)) ≤ List.length l ∧ List.length l ≤ List.length l) ∧
 (∀ (m : Sh (5 : Nat)), m ∈ X.sub l eo (Int.toNat (if (16 : Int) < (↑n : Int) then (16 : Int) else (↑n : Int))) → Z.U32 (Mic.i m)) ∧ Z.Regs s)
 (Tr.both
 (Tr.ass ((0 : Int) ≤ (33 : Int) ∧ (33 : Int) ≤ (33 : Int) ∧ (33 : Int) ≤ (65536 : Int))
 (Tr.ass ((0 : Int) ≤ (0 : Int) ∧ (0 : Int) < (↑(Int.toNat (33 : Int)) : Int))
 (Tr.ass ((0 : Nat) < Int.toNat (33 : Int))
 (Tr.ass ((0 : Int) ≤ (32 : Int) ∧ (32 : Int) < (↑(Int.toNat (33 : Int)) : Int))
 (Tr.ass ((32 : Nat) < Int.toNat (33 : Int))
 (Tr.ass
 ((false = false ∧ (0 : Int) = (↑(0 : Nat) : Int)) ∧
 (Int.toNat (if (16 : Int) < (↑n : Int) then (16 : Int) else (↑n : Int)) ≤ (65536 : Nat) ∧
 eo + Int.toNat (if (16 : Int) < (↑n : Int) then (16 : Int) else (↑n : Int)) ≤ List.length l) ∧
 ∀ (m : Sh (5 : Nat)), m ∈ X.sub l eo (Int.toNat (if (16 : Int) < (↑n : Int) then (16 : Int) else (↑n : Int))) → X.fitsP m)
 (Tr.ass
 ((false = false ∧ (0 : Int) = (↑(0 : Nat) : Int)) ∧
 ∀ (j : Nat),
 j < (32 : Nat) →
 List.getD
 (X.knOf (X.sub l eo (Int.toNat (if (16 : Int) < (↑n : Int) then (16 : Int) else (↑n : Int))))
 (List.set (List.set (List.replicate (Int.toNat (33 : Int)) false) (0 : Nat) true) (32 : Nat) true))
 j false =
 true →
 List.getD (X.runOf (X.sub l eo (Int.toNat (if (16 : Int) < (↑n : Int) then (16 : Int) else (↑n : Int)))) (List.set r (0 : Nat) (0 : Int))) j (0 : Int) =
 List.getD (X.runOf (X.sub l eo (Int.toNat (if (16 : Int) < (↑n : Int) then (16 : Int) else (↑n : Int)))) (List.set s (0 : Nat) (0 : Int))) j (0 : Int))
 (Tr.ass ((0 : Int) ≤ (0 : Int) ∧ (0 : Int) < (↑(32 : Nat) : Int))
 (Tr.ass (Int.toNat (0 : Int) < (32 : Nat))
 (Tr.ass
 (decide
 (List.getD (X.runOf (X.sub l eo (Int.toNat (if (16 : Int) < (↑n : Int) then (16 : Int) else (↑n : Int)))) (List.set r (0 : Nat) (0 : Int)))
 (Int.toNat (0 : Int)) (0 : Int) =
 (0 : Int)) =
 true →
 (0 : Int) ≤ (0 : Int) ∧ (0 : Int) < (↑(32 : Nat) : Int))
 (Tr.ass
 (decide
 (List.getD (X.runOf (X.sub l eo (Int.toNat (if (16 : Int) < (↑n : Int) then (16 : Int) else (↑n : Int)))) (List.set r (0 : Nat) (0 : Int)))
 (Int.toNat (0 : Int)) (0 : Int) =
 (0 : Int)) =
 true →
 Int.toNat (0 : Int) < (32 : Nat))
 (Tr.ret
 (SV.v
 (V1.c
 (Sc.b
 (bif
 bif
 decide
 (List.getD
 (X.runOf (X.sub l eo (Int.toNat (if (16 : Int) < (↑n : Int) then (16 : Int) else (↑n : Int)))) (List.set r (0 : Nat) (0 : Int)))
 (Int.toNat (0 : Int)) (0 : Int) =
 (0 : Int)) then
 decide
 (List.getD
 (X.runOf (X.sub l eo (Int.toNat (if (16 : Int) < (↑n : Int) then (16 : Int) else (↑n : Int)))) (List.set s (0 : Nat) (0 : Int)))
 (Int.toNat (0 : Int)) (0 : Int) =
 (0 : Int))
 else false then
 true
 else false))),
 [])))))))))))))
 (Tr.ass ((0 : Int) ≤ (33 : Int) ∧ (33 : Int) ≤ (33 : Int) ∧ (33 : Int) ≤ (65536 : Int))
 (Tr.ass ((0 : Int) ≤ (0 : Int) ∧ (0 : Int) < (↑(Int.toNat (33 : Int)) : Int))
 (Tr.ass ((0 : Nat) < Int.toNat (33 : Int))
 (Tr.ass ((0 : Int) ≤ (32 : Int) ∧ (32 : Int) < (↑(Int.toNat (33 : Int)) : Int))
 (Tr.ass ((32 : Nat) < Int.toNat (33 : Int))
 (Tr.ass
 ((false = false ∧ (0 : Int) = (↑(0 : Nat) : Int)) ∧
 (Int.toNat (if (16 : Int) < (↑n : Int) then (16 : Int) else (↑n : Int)) ≤ (65536 : Nat) ∧
 eo + Int.toNat (if (16 : Int) < (↑n : Int) then (16 : Int) else (↑n : Int)) ≤ List.length l) ∧
 ∀ (m : Sh (5 : Nat)), m ∈ X.sub l eo (Int.toNat (if (16 : Int) < (↑n : Int) then (16 : Int) else (↑n : Int))) → X.fitsP m)
 (Tr.ass
 ((false = false ∧ (0 : Int) = (↑(0 : Nat) : Int)) ∧
 ∀ (j : Nat),
 j < (32 : Nat) →
 List.getD
 (X.knOf (X.sub l eo (Int.toNat (if (16 : Int) < (↑n : Int) then (16 : Int) else (↑n : Int))))
 (List.set (List.set (List.replicate (Int.toNat (33 : Int)) false) (0 : Nat) true) (32 : Nat) true))
 j false =
 true →
 List.getD (X.runOf (X.sub l eo (Int.toNat (if (16 : Int) < (↑n : Int) then (16 : Int) else (↑n : Int)))) (List.set r (0 : Nat) (0 : Int))) j (0 : Int) =
 List.getD (X.runOf (X.sub l eo (Int.toNat (if (16 : Int) < (↑n : Int) then (16 : Int) else (↑n : Int)))) (List.set s (0 : Nat) (0 : Int))) j (0 : Int))
 (Tr.ass ((0 : Int) ≤ (0 : Int) ∧ (0 : Int) < (↑(32 : Nat) : Int))
 (Tr.ass (Int.toNat (0 : Int) < (32 : Nat))
 (Tr.ass
 (decide
 (List.getD (X.runOf (X.sub l eo (Int.toNat (if (16 : Int) < (↑n : Int) then (16 : Int) else (↑n : Int)))) (List.set r (0 : Nat) (0 : Int)))
 (Int.toNat (0 : Int)) (0 : Int) =
 (0 : Int)) =
 true →
 (0 : Int) ≤ (0 : Int) ∧ (0 : Int) < (↑(32 : Nat) : Int))
 (Tr.ass
 (decide
 (List.getD (X.runOf (X.sub l eo (Int.toNat (if (16 : Int) < (↑n : Int) then (16 : Int) else (↑n : Int)))) (List.set r (0 : Nat) (0 : Int)))
 (Int.toNat (0 : Int)) (0 : Int) =
 (0 : Int)) =
 true →
 Int.toNat (0 : Int) < (32 : Nat))
 (Tr.ret
 (SV.v
 (V1.c
 (Sc.b
 (bif
 bif
 decide
 (List.getD
 (X.runOf (X.sub l eo (Int.toNat (if (16 : Int) < (↑n : Int) then (16 : Int) else (↑n : Int)))) (List.set r (0 : Nat) (0 : Int)))
 (Int.toNat (0 : Int)) (0 : Int) =
 (0 : Int)) then
 decide
 (List.getD
 (X.runOf (X.sub l eo (Int.toNat (if (16 : Int) < (↑n : Int) then (16 : Int) else (↑n : Int)))) (List.set s (0 : Nat) (0 : Int)))
 (Int.toNat (0 : Int)) (0 : Int) =
 (0 : Int))
 else false then
 true
 else false))),
 []))))))))))))))))))))

theorem run_zoetropelaw14_BlockKnown (eo : Nat) (n : Nat) (cap : Nat) (A : Option Addr) (r : List (Sh 0)) (s : List (Sh 0)) (l : List (Sh 5)) (W : List Rw) : runF cx_zoetropelaw14_BlockKnown 100 [.tmp 6] (codeOf Try.f8) [(.v (.c (.rs 0 6 eo n cap A))), (.v (.agg [.arr 0 32 r])), (.v (.agg [.arr 0 32 s]))] [] (⟨5, l⟩ :: W) = out_zoetropelaw14_BlockKnown eo n cap A r s l := by kernel_rfl
theorem pf_zoetropelaw14_BlockKnown (eo : Nat) (n : Nat) (cap : Nat) (A : Option Addr) (r : List (Sh 0)) (s : List (Sh 0)) (l : List (Sh 5)) (K : SV × List Bk → Prop) (h : (.ass (n ≤ cap ∧ eo + n ≤ l.length ∧ (∀ m ∈ sub l eo n, U32 m.i) ∧ Regs r ∧ Regs s) (.ret (.v (.c (.b (true))), [])) : Tr (SV × List Bk)).all K) : (out_zoetropelaw14_BlockKnown eo n cap A r s l).all K := by
  obtain ⟨hp, h⟩ := h
  replace h := h hp
  replace h : K _ := h
  obtain ⟨hc, hN, hu, hr, hs⟩ := hp
  have hu' : ∀ m ∈ (sub l eo n).take 16, U32 m.i := fun m hm => hu m (List.mem_of_mem_take hm)
  have hr0 : (r.set 0 (0 : Int)).length = 32 := by rw [List.length_set, hr.len]
  have hs0 : (s.set 0 (0 : Int)).length = 32 := by rw [List.length_set, hs.len]
  unfold out_zoetropelaw14_BlockKnown
  simp only [Tr.all, toNat_min16, sub_min]
  refine ⟨⟨by split <;> omega, by split <;> omega⟩, fun _ => ⟨by omega, fun _ => ⟨hc, fun _ => ⟨⟨by omega, by omega, by omega⟩, fun _ => ⟨fun _ => h, fun h1 => ?_⟩⟩⟩⟩⟩
  have hm : mayOf ((sub l eo n).take 16) = true := by simpa using h1
  have hf := may_fits hm
  refine ⟨⟨⟨by omega, by omega, by omega⟩, hu', hr⟩, fun _ => ⟨⟨⟨by omega, by omega, by omega⟩, hu', hs⟩, fun _ => ?_⟩⟩
  have hz : ∀ q : List Int, q.length = 32 → (runOf ((sub l eo n).take 16) (q.set 0 0)).getD 0 0 = 0 := fun q hq => by
    rw [run_zero (by rw [List.length_set, hq]), getD_set, if_pos ⟨rfl, by omega⟩]
  have hkn := kn_run (l := (sub l eo n).take 16) (K := ((List.replicate 33 false).set 0 true).set 32 true) hf (by decide) hr0 hs0 (fun j hj hk => by
    match j, hj with
    | 0, _ => rw [getD_set, getD_set, if_pos ⟨rfl, by rw [hr.len]; omega⟩, if_pos ⟨rfl, by rw [hs.len]; omega⟩]
    | j + 1, hj =>
      rw [getD_set, if_neg (by omega), getD_set, if_neg (by omega)] at hk
      have h9 : ∀ j, j < 33 → (List.replicate 33 false).getD j false = false := by decide
      rw [h9 (j + 1) (by omega)] at hk
      cases hk)
  have z1 := hz r hr.len
  have z2 := hz s hs.len
  constructor
  all_goals
    refine ⟨by decide, fun _ => ⟨by decide, fun _ => ⟨by decide, fun _ => ⟨by decide, fun _ => ⟨by decide, fun _ => ⟨⟨by simp, ⟨by omega, by omega⟩, hf⟩, fun _ => ⟨⟨by simp, hkn⟩, fun _ => ⟨by decide, fun _ => ⟨by decide, fun _ => ⟨fun _ => by decide, fun _ => ⟨fun _ => by decide, fun _ => leafB h ?_⟩⟩⟩⟩⟩⟩⟩⟩⟩⟩⟩
    rw [show Int.toNat 0 = 0 from rfl, z1, z2]; simp
noncomputable def con_zoetropelaw14_BlockKnown : Con := ⟨true, fun args H W => match args, H, W with
  | [(.v (.c (.rs 0 6 eo n cap A))), (.v (.agg [.arr 0 32 r])), (.v (.agg [.arr 0 32 s]))], [], ⟨5, l⟩ :: W => .ass (n ≤ cap ∧ eo + n ≤ l.length ∧ (∀ m ∈ sub l eo n, U32 m.i) ∧ Regs r ∧ Regs s) (.ret (.v (.c (.b (true))), []))
  | _, _, _ => .stuck 900⟩
theorem lpok_zoetropelaw14_BlockKnown (c : Z.Cx) (ρ0 : List Nat) (W : List Rw) (hR : repR W c.R) (hne : ρ0.length ≤ 0) : LpOK Try.prog cx_zoetropelaw14_BlockKnown c ρ0 100 W (codeOf Try.f8) := LpOK.all (ls := [((loopC 9 (codeOf Try.f8)), lp_Kn), ((loopC 15 (codeOf Try.f8)), lp_Kn2)]) (by kernel_rfl) ⟨⟨(by kernel_rfl), lpc_lp_Kn c ρ0 W hR hne⟩, ⟨⟨(by kernel_rfl), lpc_lp_Kn2 c ρ0 W hR hne⟩, trivial⟩⟩
theorem ok_zoetropelaw14_BlockKnown : ConOK Try.prog 8 con_zoetropelaw14_BlockKnown := con_ok (code := (codeOf Try.f8)) (N := 100) (rs := [.tmp 6]) cx_zoetropelaw14_BlockKnown_ok 0 Try.func8 rfl rfl rfl lpok_zoetropelaw14_BlockKnown (by
  intro args H W K h hro
  unfold con_zoetropelaw14_BlockKnown at h
  simp only at h
  split at h
  · refine ⟨rfl, ?_⟩
    rw [run_zoetropelaw14_BlockKnown]
    exact pf_zoetropelaw14_BlockKnown _ _ _ _ _ _ _ K h
  · exact h.elim)
noncomputable def lp_Pt : LpT := fun e H W => match canE 0 [6, 7, 9] e H, W with
  | some ([(.v (.c (.b z))), (.v (.c (.sl 0 0 6 0 n cq))), (.v (.c (.i .i64 i)))], [⟨28, [.arr 5 M q], true⟩]), W => .ass ((z = false ∧ i = ((0 : Nat) : Int)) ∧ n ≤ 65536 ∧ n ≤ M ∧ q.length = M ∧ (∀ j, j < n → (q.getD j ⟨0, 0, 0, 0, 0, 0⟩).c = ((j : Nat) : Int) + 1)) (.ret (.ex 0, [], [⟨28, [.arr 5 M q], true⟩]))
  | some ([(.v (.c (.b z))), (.v (.c .ns)), (.v (.c (.i .i64 i)))], []), W => .ass (z = false ∧ i = 0) (.ret (.ex 0, [], []))
  | _, _ => .stuck 901
noncomputable def cx_zoetropelaw14_BlockParts : Ctx := mkCtx tys eqs [(10, con_ir_Translate), (15, con_ir_Run), (16, con_ir_Until), (12, con_zoetropelaw14_fixed)] [(10, lp_Pt)]
theorem cx_zoetropelaw14_BlockParts_ok : CtxOK Try.prog cx_zoetropelaw14_BlockParts := mkCtx_ok _ mixed tys_ok eqs_ok ⟨⟨ok_ir_Translate, Try.call10⟩, ⟨⟨ok_ir_Run, Try.call15⟩, ⟨⟨ok_ir_Until, Try.call16⟩, ⟨⟨ok_zoetropelaw14_fixed, Try.call12⟩, trivial⟩⟩⟩⟩
noncomputable def outr_lp_Pt (z : Bool) (n : Nat) (cq : Nat) (i : Int) (M : Nat) (q : List (Sh 5)) : Tr (X × List SV × List Bk) :=
Tr.ite (decide (i < (↑n : Int)))
 (Tr.ass ((0 : Int) ≤ i ∧ i < (↑n : Int))
 (Tr.ass ((0 : Nat) + Int.toNat i < M)
 (Tr.ite
 (!decide
 (Mic.c (List.getD q ((0 : Nat) + Int.toNat i) (Mic.mk (0 : Int) (0 : Int) (0 : Int) (0 : Int) (0 : Int) (0 : Int))) = IntKind.wrap IntKind.i64 (i + (1 : Int))))
 (Tr.ret
 (X.ret,
 [SV.v (V1.c (Sc.b false)), SV.v (V1.c (Sc.sl (nat_lit 0) (nat_lit 0) (nat_lit 6) (nat_lit 0) n cq)), SV.v (V1.c (Sc.i IntKind.i64 i))],
 [Bk.mk (nat_lit 28) [Seg.arr (nat_lit 5) M q] true]))
 (Tr.ret
 (X.nor,
 [SV.v (V1.c (Sc.b z)), SV.v (V1.c (Sc.sl (nat_lit 0) (nat_lit 0) (nat_lit 6) (nat_lit 0) n cq)),
 SV.v (V1.c (Sc.i IntKind.i64 (IntKind.wrap IntKind.i64 (i + (1 : Int)))))],
 [Bk.mk (nat_lit 28) [Seg.arr (nat_lit 5) M q] true])))))
 (Tr.ret
 (X.ex (nat_lit 0),
 [SV.v (V1.c (Sc.b z)), SV.v (V1.c (Sc.sl (nat_lit 0) (nat_lit 0) (nat_lit 6) (nat_lit 0) n cq)), SV.v (V1.c (Sc.i IntKind.i64 i))],
 [Bk.mk (nat_lit 28) [Seg.arr (nat_lit 5) M q] true]))

theorem rnd_lp_Pt (z : Bool) (n : Nat) (cq : Nat) (i : Int) (M : Nat) (q : List (Sh 5)) (W : List Rw) : rnd cx_zoetropelaw14_BlockParts 76 W (loopC 10 (codeOf Try.f6)) [6, 7, 9] 0 (zipE [6, 7, 9] [(.v (.c (.b z))), (.v (.c (.sl 0 0 6 0 n cq))), (.v (.c (.i .i64 i)))]) [⟨28, [.arr 5 M q], true⟩] = outr_lp_Pt z n cq i M q := by kernel_rfl
noncomputable def outr_lp_Pt_2 (z : Bool) (i : Int) : Tr (X × List SV × List Bk) :=
Tr.ite (decide (i < (0 : Int))) (Tr.stuck (nat_lit 126))
 (Tr.ret (X.ex (nat_lit 0), [SV.v (V1.c (Sc.b z)), SV.v (V1.c Sc.ns), SV.v (V1.c (Sc.i IntKind.i64 i))], []))

theorem rnd_lp_Pt_2 (z : Bool) (i : Int) (W : List Rw) : rnd cx_zoetropelaw14_BlockParts 76 W (loopC 10 (codeOf Try.f6)) [6, 7, 9] 0 (zipE [6, 7, 9] [(.v (.c (.b z))), (.v (.c .ns)), (.v (.c (.i .i64 i)))]) [] = outr_lp_Pt_2 z i := by kernel_rfl
theorem lpp_lp_Pt {c0 : Z.Cx} {ρ0 : List Nat} (z : Bool) (n : Nat) (cq : Nat) (i : Int) (M : Nat) (q : List (Sh 5)) (W : List Rw) (hR : repR W c0.R) (hne : ρ0.length ≤ 0) {Q : Exit → Act → World → Prop} {e : Env} {H : List Bk} (hsel : canE 0 [6, 7, 9] e H = some ([(.v (.c (.b z))), (.v (.c (.sl 0 0 6 0 n cq))), (.v (.c (.i .i64 i)))], [⟨28, [.arr 5 M q], true⟩])) (h : (.ass ((z = false ∧ i = ((0 : Nat) : Int)) ∧ n ≤ 65536 ∧ n ≤ M ∧ q.length = M ∧ (∀ j, j < n → (q.getD j ⟨0, 0, 0, 0, 0, 0⟩).c = ((j : Nat) : Int) + 1)) (.ret (.ex 0, [], [⟨28, [.arr 5 M q], true⟩])) : Tr (X × Env × List Bk)).all (fun y => YE c0 ρ0 Q 76 (toX y.1) y.2.1 y.2.2)) : YC Try.prog c0 ρ0 Q 76 (.loop (loopC 10 (codeOf Try.f6))) e H := by
  obtain ⟨hp, h⟩ := h
  replace h := h hp
  obtain ⟨⟨rfl, rfl⟩, hn, hc, hq, hk⟩ := hp
  refine YC.canon hne hsel ?_
  have key := loop_sound (P := Try.prog) (c := c0) (ρ0 := ρ0) (N := 76) (Q := Q) cx_zoetropelaw14_BlockParts_ok hR (LpOK.no (by kernel_rfl)) [6, 7, 9] 0 hne (σ := Nat) (body := (loopC 10 (codeOf Try.f6))) (fun s => [.v (.c (.b false)), .v (.c (.sl 0 0 6 0 n cq)), .v (.c (.i .i64 ((s : Int))))]) (fun _ => [⟨28, [.arr 5 M q], true⟩]) (fun s => s ≤ n) (fun s => n - s) (fun y => ∃ u, y = (.ex 0, [.v (.c (.b false)), .v (.c (.sl 0 0 6 0 n cq)), .v (.c (.i .i64 (u)))], [⟨28, [.arr 5 M q], true⟩])) ?round ?post 0 (by omega)
  case round =>
    intro s hI
    rw [rnd_lp_Pt]
    unfold outr_lp_Pt
    simp only [Tr.all, Nat.zero_add]
    refine ⟨fun hc => ?_, fun hc => Or.inr ⟨nofun, (s : Int), rfl⟩⟩
    have hc := of_decide_eq_true hc
    have e1 : IntKind.i64.wrap ((s : Int) + 1) = ((s + 1 : Nat) : Int) := Z.wI64 (by omega)
    have e2 := hk s (by omega)
    rw [e1, show ((s : Nat) : Int).toNat = s by omega, e2]
    exact ⟨by omega, fun _ => ⟨by omega, fun _ => ⟨fun h2 => absurd h2 (by simp), fun _ => Or.inl ⟨trivial, s + 1, by omega, by omega, rfl, trivial⟩⟩⟩⟩
  case post =>
    intro y hy hp
    obtain ⟨u, rfl⟩ := hp
    exact YE.weaken Sub.nil h
  exact key
theorem lpp_lp_Pt_2 {c0 : Z.Cx} {ρ0 : List Nat} (z : Bool) (i : Int) (W : List Rw) (hR : repR W c0.R) (hne : ρ0.length ≤ 0) {Q : Exit → Act → World → Prop} {e : Env} {H : List Bk} (hsel : canE 0 [6, 7, 9] e H = some ([(.v (.c (.b z))), (.v (.c .ns)), (.v (.c (.i .i64 i)))], [])) (h : (.ass (z = false ∧ i = 0) (.ret (.ex 0, [], [])) : Tr (X × Env × List Bk)).all (fun y => YE c0 ρ0 Q 76 (toX y.1) y.2.1 y.2.2)) : YC Try.prog c0 ρ0 Q 76 (.loop (loopC 10 (codeOf Try.f6))) e H := by
  obtain ⟨hp, h⟩ := h
  replace h := h hp
  obtain ⟨rfl, rfl⟩ := hp
  refine YC.canon hne hsel ?_
  have key := loop_sound (P := Try.prog) (c := c0) (ρ0 := ρ0) (N := 76) (Q := Q) cx_zoetropelaw14_BlockParts_ok hR (LpOK.no (by kernel_rfl)) [6, 7, 9] 0 hne (σ := Unit) (body := (loopC 10 (codeOf Try.f6))) (fun _ => [.v (.c (.b false)), .v (.c .ns), .v (.c (.i .i64 (0)))]) (fun _ => []) (fun _ => True) (fun _ => 0) (fun y => y = (.ex 0, [.v (.c (.b false)), .v (.c .ns), .v (.c (.i .i64 (0)))], [])) ?round ?post () trivial
  case round =>
    intro s hI
    rw [rnd_lp_Pt_2]
    unfold outr_lp_Pt_2
    simp only [Tr.all]
    exact ⟨fun hc => absurd hc (by decide), fun _ => Or.inr ⟨nofun, trivial⟩⟩
  case post =>
    intro y hy hp
    subst hp
    exact YE.weaken Sub.nil h
  exact key
theorem lpc_lp_Pt (c : Z.Cx) (ρ0 : List Nat) (W : List Rw) (hR : repR W c.R) (hne : ρ0.length ≤ 0) : ∀ Q e H, (lp_Pt e H W).all (fun y => YE c ρ0 Q 76 (toX y.1) y.2.1 y.2.2) → YC Try.prog c ρ0 Q 76 (.loop (loopC 10 (codeOf Try.f6))) e H := by
  intro Q e H h
  unfold lp_Pt at h
  (try simp only at h)
  split at h
  · rename_i heq
    exact lpp_lp_Pt _ _ _ _ _ _ _ hR hne (by assumption) h
  · rename_i heq
    exact lpp_lp_Pt_2 _ _ _ hR hne (by assumption) h
  · exact h.elim
noncomputable def out_zoetropelaw14_BlockParts (eo : Nat) (n : Nat) (cap : Nat) (A : Option Addr) (r : List (Sh 0)) (c : Int) (l : List (Sh 0)) : Tr (SV × List Bk) :=
Tr.ass (((0 : Int) ≤ if (16 : Int) < (↑n : Int) then (16 : Int) else (↑n : Int)) ∧ (if (16 : Int) < (↑n : Int) then (16 : Int) else (↑n : Int)) ≤ (↑n : Int))
 (Tr.ass ((0 : Int) ≤ (↑(0 : Nat) : Int) ∧ (↑(0 : Nat) : Int) ≤ (↑(Int.toNat (if (16 : Int) < (↑n : Int) then (16 : Int) else (↑n : Int))) : Int))
 (Tr.ass (n ≤ cap)
 (Tr.ass
 (Int.toNat (if (16 : Int) < (↑n : Int) then (16 : Int) else (↑n : Int)) ≤ cap ∧
 Int.toNat (if (16 : Int) < (↑n : Int) then (16 : Int) else (↑n : Int)) ≤ (65536 : Nat) ∧
 eo + Int.toNat (if (16 : Int) < (↑n : Int) then (16 : Int) else (↑n : Int)) ≤ List.length l ∧
 ∀ (x : Sh (0 : Nat)), x ∈ X.sub l eo (Int.toNat (if (16 : Int) < (↑n : Int) then (16 : Int) else (↑n : Int))) → Z.U32 x)
 (Tr.ite (decide (List.length (X.trM (List.take (16 : Nat) (X.sub l eo (Int.toNat (if (16 : Int) < (↑n : Int) then (16 : Int) else (↑n : Int)))))) = (0 : Nat)))
 (Tr.ite (decide ((↑(Int.toNat (if (16 : Int) < (↑n : Int) then (16 : Int) else (↑n : Int))) : Int) < (0 : Int)))
 (Tr.ret (SV.v (V1.c (Sc.b false)), []))
 (Tr.ass ((0 : Int) ≤ (0 : Int) ∧ (0 : Int) < (↑(32 : Nat) : Int))
 (Tr.ass (Int.toNat (0 : Int) < (32 : Nat))
 (Tr.ass (IntKind.wrap IntKind.i64 ((0 : Int) + (1 : Int)) ≠ (0 : Int))
 (Tr.ass ((0 : Int) ≤ (↑(0 : Nat) : Int) ∧ (↑(0 : Nat) : Int) ≤ (0 : Int))
 (Tr.ass
 ((0 : Int) ≤ Int.tmod (bits BinOp.and IntKind.i64 c (65535 : Int)) (IntKind.wrap IntKind.i64 ((0 : Int) + (1 : Int))) ∧
 Int.tmod (bits BinOp.and IntKind.i64 c (65535 : Int)) (IntKind.wrap IntKind.i64 ((0 : Int) + (1 : Int))) ≤ (0 : Int))
 (Tr.ass
 ((0 : Int) ≤ Int.tmod (bits BinOp.and IntKind.i64 c (65535 : Int)) (IntKind.wrap IntKind.i64 ((0 : Int) + (1 : Int))) ∧
 Int.tmod (bits BinOp.and IntKind.i64 c (65535 : Int)) (IntKind.wrap IntKind.i64 ((0 : Int) + (1 : Int))) ≤ (0 : Int))
 (Tr.ass ((0 : Int) ≤ (↑(0 : Nat) : Int) ∧ (↑(0 : Nat) : Int) ≤ (0 : Int))
 (Tr.ite
 ((!decide
 (X.runOf [] (List.set (X.runOf [] (List.set (List.set r (Int.toNat (0 : Int)) (0 : Int)) (0 : Nat) (0 : Int))) (0 : Nat) (0 : Int)) =
 X.runOf [] (List.set (List.set r (Int.toNat (0 : Int)) (0 : Int)) (0 : Nat) (0 : Int)))) ==
 false)
 (Tr.ite
 ((!decide
 (X.untilOf (0 : Int) [] (List.set (List.set r (Int.toNat (0 : Int)) (0 : Int)) (0 : Nat) (0 : Int)) = List.set r (Int.toNat (0 : Int)) (0 : Int))) ==
 false)
 (Tr.ass
 ((0 : Int) ≤ Int.tmod (bits BinOp.and IntKind.i64 c (65535 : Int)) (IntKind.wrap IntKind.i64 ((0 : Int) + (1 : Int))) ∧
 Int.tmod (bits BinOp.and IntKind.i64 c (65535 : Int)) (IntKind.wrap IntKind.i64 ((0 : Int) + (1 : Int))) ≤ (0 : Int))
 (Tr.ass ((0 : Int) ≤ (↑(0 : Nat) : Int) ∧ (↑(0 : Nat) : Int) ≤ (0 : Int))
 (Tr.ite
 (!decide
 (X.untilOf (Int.tmod (bits BinOp.and IntKind.i64 c (65535 : Int)) (IntKind.wrap IntKind.i64 ((0 : Int) + (1 : Int)))) []
 (List.set (List.set r (Int.toNat (0 : Int)) (0 : Int)) (0 : Nat) (0 : Int)) =
 X.runOf [] (List.set (List.set r (Int.toNat (0 : Int)) (0 : Int)) (0 : Nat) (0 : Int))))
 (Tr.ret (SV.v (V1.c (Sc.b false)), []))
 (Tr.ass (false = false ∧ (0 : Int) = (0 : Int)) (Tr.ret (SV.v (V1.c (Sc.b true)), []))))))
 (Tr.ret (SV.v (V1.c (Sc.b false)), [])))
 (Tr.ret (SV.v (V1.c (Sc.b false)), [])))))))))))
 (Tr.any Nat fun x =>
 Tr.any (List Mic) fun x_1 =>
 Tr.hyp
 (List.length (X.trM (List.take (16 : Nat) (X.sub l eo (Int.toNat (if (16 : Int) < (↑n : Int) then (16 : Int) else (↑n : Int)))))) ≤ x ∧
 List.length x_1 = x ∧
 List.take (List.length (X.trM (List.take (16 : Nat) (X.sub l eo (Int.toNat (if (16 : Int) < (↑n : Int) then (16 : Int) else (↑n : Int))))))) x_1 =
 X.trM (List.take (16 : Nat) (X.sub l eo (Int.toNat (if (16 : Int) < (↑n : Int) then (16 : Int) else (↑n : Int))))))
 (Tr.ite
 (decide
 ((↑(Int.toNat (if (16 : Int) < (↑n : Int) then (16 : Int) else (↑n : Int))) : Int) <
 (↑(List.length (X.trM (List.take (16 : Nat) (X.sub l eo (Int.toNat (if (16 : Int) < (↑n : Int) then (16 : Int) else (↑n : Int))))))) : Int)))
 (Tr.ret (SV.v (V1.c (Sc.b false)), []))
 (Tr.ass ((0 : Int) ≤ (0 : Int) ∧ (0 : Int) < (↑(32 : Nat) : Int))
 (Tr.ass (Int.toNat (0 : Int) < (32 : Nat))
 (Tr.ass
 (IntKind.wrap IntKind.i64
 ((↑(List.length (X.trM (List.take (16 : Nat) (X.sub l eo (Int.toNat (if (16 : Int) < (↑n : Int) then (16 : Int) else (↑n : Int))))))) : Int) + (1 : Int)) ≠
 (0 : Int))
 (Tr.ass
 ((0 : Int) ≤ (↑(List.length (X.trM (List.take (16 : Nat) (X.sub l eo (Int.toNat (if (16 : Int) < (↑n : Int) then (16 : Int) else (↑n : Int))))))) : Int) ∧
 (↑(List.length (X.trM (List.take (16 : Nat) (X.sub l eo (Int.toNat (if (16 : Int) < (↑n : Int) then (16 : Int) else (↑n : Int))))))) : Int) ≤ (↑x : Int))
 (Tr.ass
 ((0 : Int) ≤
 Int.tmod (bits BinOp.and IntKind.i64 c (65535 : Int))
 (IntKind.wrap IntKind.i64
 ((↑(List.length (X.trM (List.take (16 : Nat) (X.sub l eo (Int.toNat (if (16 : Int) < (↑n : Int) then (16 : Int) else (↑n : Int))))))) : Int) + (1 : Int))) ∧
 Int.tmod (bits BinOp.and IntKind.i64 c (65535 : Int))
 (IntKind.wrap IntKind.i64
 ((↑(List.length (X.trM (List.take (16 : Nat) (X.sub l eo (Int.toNat (if (16 : Int) < (↑n : Int) then (16 : Int) else (↑n : Int))))))) : Int) + (1 : Int))) ≤
 (↑(Int.toNat (↑(List.length (X.trM (List.take (16 : Nat) (X.sub l eo (Int.toNat (if (16 : Int) < (↑n : Int) then (16 : Int) else (↑n : Int))))))) : Int)) : Int))
 (Tr.ass
 ((0 : Int) ≤
 Int.tmod (bits BinOp.and IntKind.i64 c (65535 : Int))
 (IntKind.wrap IntKind.i64
 ((↑(List.length (X.trM (List.take (16 : Nat) (X.sub l eo (Int.toNat (if (16 : Int) < (↑n : Int) then (16 : Int) else (↑n : Int))))))) : Int) + (1 : Int))) ∧
 Int.tmod (bits BinOp.and IntKind.i64 c (65535 : Int))
 (IntKind.wrap IntKind.i64
 ((↑(List.length (X.trM (List.take (16 : Nat) (X.sub l eo (Int.toNat (if (16 : Int) < (↑n : Int) then (16 : Int) else (↑n : Int))))))) : Int) + (1 : Int))) ≤
 (↑x : Int))
 (Tr.ass
 ((0 : Int) ≤ (↑(0 : Nat) : Int) ∧
 (↑(0 : Nat) : Int) ≤
 (↑(Int.toNat
 (Int.tmod (bits BinOp.and IntKind.i64 c (65535 : Int))
 (IntKind.wrap IntKind.i64
 ((↑(List.length (X.trM (List.take (16 : Nat) (X.sub l eo (Int.toNat (if (16 : Int) < (↑n : Int) then (16 : Int) else (↑n : Int))))))) : Int) +
 (1 : Int))))) :
 Int))
 (Tr.ass
 ((Int.toNat
 (Int.tmod (bits BinOp.and IntKind.i64 c (65535 : Int))
 (IntKind.wrap IntKind.i64
 ((↑(List.length (X.trM (List.take (16 : Nat) (X.sub l eo (Int.toNat (if (16 : Int) < (↑n : Int) then (16 : Int) else (↑n : Int))))))) : Int) +
 (1 : Int)))) ≤
 (65536 : Nat) ∧
 (0 : Nat) +
 Int.toNat
 (Int.tmod (bits BinOp.and IntKind.i64 c (65535 : Int))
 (IntKind.wrap IntKind.i64
 ((↑(List.length (X.trM (List.take (16 : Nat) (X.sub l eo (Int.toNat (if (16 : Int) < (↑n : Int) then (16 : Int) else (↑n : Int))))))) : Int) +
 (1 : Int)))) ≤
 x ∧
 x ≤ List.length x_1 ∧ List.length x_1 ≤ x) ∧
 (∀ (m : Sh (5 : Nat)),
 m ∈
 X.sub x_1 (0 : Nat)
 (Int.toNat
 (Int.tmod (bits BinOp.and IntKind.i64 c (65535 : Int))
 (IntKind.wrap IntKind.i64
 ((↑(List.length (X.trM (List.take (16 : Nat) (X.sub l eo (Int.toNat (if (16 : Int) < (↑n : Int) then (16 : Int) else (↑n : Int))))))) : Int) +
 (1 : Int))))) →
 Z.U32 (Mic.i m)) ∧
 Z.Regs (List.set r (Int.toNat (0 : Int)) (0 : Int)))
 (Tr.ass
 ((Int.toNat (↑(List.length (X.trM (List.take (16 : Nat) (X.sub l eo (Int.toNat (if (16 : Int) < (↑n : Int) then (16 : Int) else (↑n : Int))))))) : Int) -
 Int.toNat
 (Int.tmod (bits BinOp.and IntKind.i64 c (65535 : Int))
 (IntKind.wrap IntKind.i64
 ((↑(List.length (X.trM (List.take (16 : Nat) (X.sub l eo (Int.toNat (if (16 : Int) < (↑n : Int) then (16 : Int) else (↑n : Int))))))) : Int) +
 (1 : Int)))) ≤
 (65536 : Nat) ∧
 (bif
 Nat.beq x
 (Int.toNat
 (Int.tmod (bits BinOp.and IntKind.i64 c (65535 : Int))
 (IntKind.wrap IntKind.i64
 ((↑(List.length (X.trM (List.take (16 : Nat) (X.sub l eo (Int.toNat (if (16 : Int) < (↑n : Int) then (16 : Int) else (↑n : Int))))))) :
 Int) +
 (1 : Int))))) then
 (0 : Nat)
 else
 (0 : Nat) +
 Int.toNat
 (Int.tmod (bits BinOp.and IntKind.i64 c (65535 : Int))
 (IntKind.wrap IntKind.i64
 ((↑(List.length (X.trM (List.take (16 : Nat) (X.sub l eo (Int.toNat (if (16 : Int) < (↑n : Int) then (16 : Int) else (↑n : Int))))))) :
 Int) +
 (1 : Int))))) +
 (Int.toNat
 (↑(List.length (X.trM (List.take (16 : Nat) (X.sub l eo (Int.toNat (if (16 : Int) < (↑n : Int) then (16 : Int) else (↑n : Int))))))) : Int) -
 Int.toNat
 (Int.tmod (bits BinOp.and IntKind.i64 c (65535 : Int))
 (IntKind.wrap IntKind.i64
 ((↑(List.length (X.trM (List.take (16 : Nat) (X.sub l eo (Int.toNat (if (16 : Int) < (↑n : Int) then (16 : Int) else (↑n : Int))))))) :
 Int) +
 (1 : Int))))) ≤
 x ∧
 x ≤ List.length x_1 ∧ List.length x_1 ≤ x) ∧
 (∀ (m : Sh (5 : Nat)),
 m ∈
 X.sub x_1
 (bif
 Nat.beq x
 (Int.toNat
 (Int.tmod (bits BinOp.and IntKind.i64 c (65535 : Int))
 (IntKind.wrap IntKind.i64
 ((↑(List.length
 (X.trM (List.take (16 : Nat) (X.sub l eo (Int.toNat (if (16 : Int) < (↑n : Int) then (16 : Int) else (↑n : Int))))))) :
 Int) +
 (1 : Int))))) then
 (0 : Nat)
 else
 (0 : Nat) +
 Int.toNat
 (Int.tmod (bits BinOp.and IntKind.i64 c (65535 : Int))
 (IntKind.wrap IntKind.i64
 ((↑(List.length (X.trM (List.take (16 : Nat) (X.sub l eo (Int.toNat (if (16 : Int) < (↑n : Int) then (16 : Int) else (↑n : Int))))))) :
 Int) +
 (1 : Int)))))
 (Int.toNat
 (↑(List.length (X.trM (List.take (16 : Nat) (X.sub l eo (Int.toNat (if (16 : Int) < (↑n : Int) then (16 : Int) else (↑n : Int))))))) : Int) -
 Int.toNat
 (Int.tmod (bits BinOp.and IntKind.i64 c (65535 : Int))
 (IntKind.wrap IntKind.i64
 ((↑(List.length (X.trM (List.take (16 : Nat) (X.sub l eo (Int.toNat (if (16 : Int) < (↑n : Int) then (16 : Int) else (↑n : Int))))))) :
 Int) +
 (1 : Int))))) →
 Z.U32 (Mic.i m)) ∧
 Z.Regs
 (X.runOf
 (X.sub x_1 (0 : Nat)
 (Int.toNat
 (Int.tmod (bits BinOp.and IntKind.i64 c (65535 : Int))
 (IntKind.wrap IntKind.i64
 ((↑(List.length (X.trM (List.take (16 : Nat) (X.sub l eo (Int.toNat (if (16 : Int) < (↑n : Int) then (16 : Int) else (↑n : Int))))))) : Int) +
 (1 : Int))))))
 (List.set (List.set r (Int.toNat (0 : Int)) (0 : Int)) (0 : Nat) (0 : Int))))
 (Tr.ass
 ((List.length (X.trM (List.take (16 : Nat) (X.sub l eo (Int.toNat (if (16 : Int) < (↑n : Int) then (16 : Int) else (↑n : Int)))))) ≤ (65536 : Nat) ∧
 (0 : Nat) + List.length (X.trM (List.take (16 : Nat) (X.sub l eo (Int.toNat (if (16 : Int) < (↑n : Int) then (16 : Int) else (↑n : Int)))))) ≤ x ∧
 x ≤ List.length x_1 ∧ List.length x_1 ≤ x) ∧
 (∀ (m : Sh (5 : Nat)),
 m ∈
 X.sub x_1 (0 : Nat)
 (List.length (X.trM (List.take (16 : Nat) (X.sub l eo (Int.toNat (if (16 : Int) < (↑n : Int) then (16 : Int) else (↑n : Int))))))) →
 Z.U32 (Mic.i m)) ∧
 Z.Regs (List.set r (Int.toNat (0 : Int)) (0 : Int)))
 (Tr.ite
 ((!decide
 (X.runOf
 (X.sub x_1
 (bif
 Nat.beq x
 (Int.toNat
 (Int.tmod (bits BinOp.and IntKind.i64 c (65535 : Int))
 (IntKind.wrap IntKind.i64
 ((↑(List.length
 (X.trM (List.take (16 : Nat) (X.sub l eo (Int.toNat (if (16 : Int) < (↑n : Int) then (16 : Int) else (↑n : Int))))))) :
 Int) +
 (1 : Int))))) then
 (0 : Nat)
 else
 (0 : Nat) +
 Int.toNat
 (Int.tmod (bits BinOp.and IntKind.i64 c (65535 : Int))
 (IntKind.wrap IntKind.i64
 ((↑(List.length
 (X.trM (List.take (16 : Nat) (X.sub l eo (Int.toNat (if (16 : Int) < (↑n : Int) then (16 : Int) else (↑n : Int))))))) :
 Int) +
 (1 : Int)))))
 (Int.toNat
 (↑(List.length (X.trM (List.take (16 : Nat) (X.sub l eo (Int.toNat (if (16 : Int) < (↑n : Int) then (16 : Int) else (↑n : Int))))))) :
 Int) -
 Int.toNat
 (Int.tmod (bits BinOp.and IntKind.i64 c (65535 : Int))
 (IntKind.wrap IntKind.i64
 ((↑(List.length
 (X.trM (List.take (16 : Nat) (X.sub l eo (Int.toNat (if (16 : Int) < (↑n : Int) then (16 : Int) else (↑n : Int))))))) :
 Int) +
 (1 : Int))))))
 (List.set
 (X.runOf
 (X.sub x_1 (0 : Nat)
 (Int.toNat
 (Int.tmod (bits BinOp.and IntKind.i64 c (65535 : Int))
 (IntKind.wrap IntKind.i64
 ((↑(List.length
 (X.trM (List.take (16 : Nat) (X.sub l eo (Int.toNat (if (16 : Int) < (↑n : Int) then (16 : Int) else (↑n : Int))))))) :
 Int) +
 (1 : Int))))))
 (List.set (List.set r (Int.toNat (0 : Int)) (0 : Int)) (0 : Nat) (0 : Int)))
 (0 : Nat) (0 : Int)) =
 X.runOf
 (X.sub x_1 (0 : Nat)
 (List.length (X.trM (List.take (16 : Nat) (X.sub l eo (Int.toNat (if (16 : Int) < (↑n : Int) then (16 : Int) else (↑n : Int))))))))
 (List.set (List.set r (Int.toNat (0 : Int)) (0 : Int)) (0 : Nat) (0 : Int)))) ==
 false)
 (Tr.ass
 ((List.length (X.trM (List.take (16 : Nat) (X.sub l eo (Int.toNat (if (16 : Int) < (↑n : Int) then (16 : Int) else (↑n : Int)))))) ≤ (65536 : Nat) ∧
 (0 : Nat) + List.length (X.trM (List.take (16 : Nat) (X.sub l eo (Int.toNat (if (16 : Int) < (↑n : Int) then (16 : Int) else (↑n : Int)))))) ≤ x ∧
 x ≤ List.length x_1 ∧ List.length x_1 ≤ x) ∧
 (∀ (m : Sh (5 : Nat)),
 m ∈
 X.sub x_1 (0 : Nat)
 (List.length (X.trM (List.take (16 : Nat) (X.sub l eo (Int.toNat (if (16 : Int) < (↑n : Int) then (16 : Int) else (↑n : Int))))))) →
 Z.U32 (Mic.i m)) ∧
 Z.Regs (List.set r (Int.toNat (0 : Int)) (0 : Int)))
 (Tr.ite
 ((!decide
 (X.untilOf (0 : Int)
 (X.sub x_1 (0 : Nat)
 (List.length (X.trM (List.take (16 : Nat) (X.sub l eo (Int.toNat (if (16 : Int) < (↑n : Int) then (16 : Int) else (↑n : Int))))))))
 (List.set (List.set r (Int.toNat (0 : Int)) (0 : Int)) (0 : Nat) (0 : Int)) =
 List.set r (Int.toNat (0 : Int)) (0 : Int))) ==
 false)
 (Tr.ass
 ((List.length (X.trM (List.take (16 : Nat) (X.sub l eo (Int.toNat (if (16 : Int) < (↑n : Int) then (16 : Int) else (↑n : Int)))))) ≤ (65536 : Nat) ∧
 (0 : Nat) + List.length (X.trM (List.take (16 : Nat) (X.sub l eo (Int.toNat (if (16 : Int) < (↑n : Int) then (16 : Int) else (↑n : Int)))))) ≤
 x ∧
 x ≤ List.length x_1 ∧ List.length x_1 ≤ x) ∧
 (∀ (m : Sh (5 : Nat)),
 m ∈
 X.sub x_1 (0 : Nat)
 (List.length (X.trM (List.take (16 : Nat) (X.sub l eo (Int.toNat (if (16 : Int) < (↑n : Int) then (16 : Int) else (↑n : Int))))))) →
 Z.U32 (Mic.i m)) ∧
 Z.Regs (List.set r (Int.toNat (0 : Int)) (0 : Int)))
 (Tr.ass
 ((0 : Int) ≤
 Int.tmod (bits BinOp.and IntKind.i64 c (65535 : Int))
 (IntKind.wrap IntKind.i64
 ((↑(List.length (X.trM (List.take (16 : Nat) (X.sub l eo (Int.toNat (if (16 : Int) < (↑n : Int) then (16 : Int) else (↑n : Int))))))) :
 Int) +
 (1 : Int))) ∧
 Int.tmod (bits BinOp.and IntKind.i64 c (65535 : Int))
 (IntKind.wrap IntKind.i64
 ((↑(List.length (X.trM (List.take (16 : Nat) (X.sub l eo (Int.toNat (if (16 : Int) < (↑n : Int) then (16 : Int) else (↑n : Int))))))) :
 Int) +
 (1 : Int))) ≤
 (↑x : Int))
 (Tr.ass
 ((0 : Int) ≤ (↑(0 : Nat) : Int) ∧
 (↑(0 : Nat) : Int) ≤
 (↑(Int.toNat
 (Int.tmod (bits BinOp.and IntKind.i64 c (65535 : Int))
 (IntKind.wrap IntKind.i64
 ((↑(List.length
 (X.trM (List.take (16 : Nat) (X.sub l eo (Int.toNat (if (16 : Int) < (↑n : Int) then (16 : Int) else (↑n : Int))))))) :
 Int) +
 (1 : Int))))) :
 Int))
 (Tr.ass
 ((Int.toNat
 (Int.tmod (bits BinOp.and IntKind.i64 c (65535 : Int))
 (IntKind.wrap IntKind.i64
 ((↑(List.length
 (X.trM (List.take (16 : Nat) (X.sub l eo (Int.toNat (if (16 : Int) < (↑n : Int) then (16 : Int) else (↑n : Int))))))) :
 Int) +
 (1 : Int)))) ≤
 (65536 : Nat) ∧
 (0 : Nat) +
 Int.toNat
 (Int.tmod (bits BinOp.and IntKind.i64 c (65535 : Int))
 (IntKind.wrap IntKind.i64
 ((↑(List.length
 (X.trM
 (List.take (16 : Nat) (X.sub l eo (Int.toNat (if (16 : Int) < (↑n : Int) then (16 : Int) else (↑n : Int))))))) :
 Int) +
 (1 : Int)))) ≤
 x ∧
 x ≤ List.length x_1 ∧ List.length x_1 ≤ x) ∧
 (∀ (m : Sh (5 : Nat)),
 m ∈
 X.sub x_1 (0 : Nat)
 (Int.toNat
 (Int.tmod (bits BinOp.and IntKind.i64 c (65535 : Int))
 (IntKind.wrap IntKind.i64
 ((↑(List.length
 (X.trM
 (List.take (16 : Nat) (X.sub l eo (Int.toNat (if (16 : Int) < (↑n : Int) then (16 : Int) else (↑n : Int))))))) :
 Int) +
 (1 : Int))))) →
 Z.U32 (Mic.i m)) ∧
 Z.Regs (List.set r (Int.toNat (0 : Int)) (0 : Int)))
 (Tr.ite
 (!decide
 (X.untilOf
 (Int.tmod (bits BinOp.and IntKind.i64 c (65535 : Int))
 (IntKind.wrap IntKind.i64
 ((↑(List.length
 (X.trM (List.take (16 : Nat) (X.sub l eo (Int.toNat (if (16 : Int) < (↑n : Int) then (16 : Int) else (↑n : Int))))))) :
 Int) +
 (1 : Int))))
 (X.sub x_1 (0 : Nat)
 (List.length
 (X.trM (List.take (16 : Nat) (X.sub l eo (Int.toNat (if (16 : Int) < (↑n : Int) then (16 : Int) else (↑n : Int))))))))
 (List.set (List.set r (Int.toNat (0 : Int)) (0 : Int)) (0 : Nat) (0 : Int)) =
 X.runOf
 (X.sub x_1 (0 : Nat)
 (Int.toNat
 (Int.tmod (bits BinOp.and IntKind.i64 c (65535 : Int))
 (IntKind.wrap IntKind.i64
 ((↑(List.length
 (X.trM
 (List.take (16 : Nat) (X.sub l eo (Int.toNat (if (16 : Int) < (↑n : Int) then (16 : Int) else (↑n : Int))))))) :
 Int) +
 (1 : Int))))))
 (List.set (List.set r (Int.toNat (0 : Int)) (0 : Int)) (0 : Nat) (0 : Int))))
 (Tr.ret (SV.v (V1.c (Sc.b false)), []))
 (Tr.ass
 ((false = false ∧ (0 : Int) = (↑(0 : Nat) : Int)) ∧
 List.length (X.trM (List.take (16 : Nat) (X.sub l eo (Int.toNat (if (16 : Int) < (↑n : Int) then (16 : Int) else (↑n : Int)))))) ≤
 (65536 : Nat) ∧
 List.length (X.trM (List.take (16 : Nat) (X.sub l eo (Int.toNat (if (16 : Int) < (↑n : Int) then (16 : Int) else (↑n : Int)))))) ≤ x ∧
 List.length x_1 = x ∧
 ∀ (j : Nat),
 j <
 List.length
 (X.trM (List.take (16 : Nat) (X.sub l eo (Int.toNat (if (16 : Int) < (↑n : Int) then (16 : Int) else (↑n : Int)))))) →
 Mic.c (List.getD x_1 j (Mic.mk (0 : Int) (0 : Int) (0 : Int) (0 : Int) (0 : Int) (0 : Int))) = (↑j : Int) + (1 : Int))
 (Tr.ret (SV.v (V1.c (Sc.b true)), []))))))))
 (Tr.ret (SV.v (V1.c (Sc.b false)), []))))
 (Tr.ret (SV.v (V1.c (Sc.b false)), [])))))))))))))))))))

theorem run_zoetropelaw14_BlockParts (eo : Nat) (n : Nat) (cap : Nat) (A : Option Addr) (r : List (Sh 0)) (c : Int) (l : List (Sh 0)) (W : List Rw) : runF cx_zoetropelaw14_BlockParts 76 [.tmp 6] (codeOf Try.f6) [(.v (.c (.rs 0 1 eo n cap A))), (.v (.agg [.arr 0 32 r])), (.v (.c (.i .i64 c)))] [] (⟨0, l⟩ :: W) = out_zoetropelaw14_BlockParts eo n cap A r c l := by kernel_rfl
theorem pf_zoetropelaw14_BlockParts (eo : Nat) (n : Nat) (cap : Nat) (A : Option Addr) (r : List (Sh 0)) (c : Int) (l : List (Sh 0)) (K : SV × List Bk → Prop) (h : (.ass (n ≤ cap ∧ eo + n ≤ l.length ∧ (∀ x ∈ sub l eo n, U32 x) ∧ Regs r) (.ret (.v (.c (.b (true))), [])) : Tr (SV × List Bk)).all K) : (out_zoetropelaw14_BlockParts eo n cap A r c l).all K := by
  obtain ⟨hp, h⟩ := h
  replace h := h hp
  replace h : K _ := h
  obtain ⟨hc, hN, hu, hr⟩ := hp
  have hu' : ∀ x ∈ (sub l eo n).take 16, U32 x := fun m hm => hu m (List.mem_of_mem_take hm)
  have hr0 : Regs (r.set 0 (0 : Int)) := hr.set _ (by decide)
  have hrs : (r.set 0 (0 : Int)).set 0 (0 : Int) = r.set 0 (0 : Int) := by rw [List.set_set]
  have hr1 : (r.set 0 (0 : Int)).getD 0 (0 : Int) = (0 : Int) := by rw [getD_set, if_pos ⟨rfl, by rw [hr.len]; omega⟩]
  unfold out_zoetropelaw14_BlockParts
  simp only [Tr.all, toNat_min16, sub_min, List.take_take, Nat.min_self, show Int.toNat 0 = 0 from rfl, hrs]
  have hle := trM_le ((sub l eo n).take 16)
  have hlt : ((sub l eo n).take 16).length ≤ min 16 n := by rw [List.length_take]; have := sub_len hN; omega
  have hcc := fun j hj => trM_c (s := (sub l eo n).take 16) (j := j) hj
  have huu := trM_u32 ((sub l eo n).take 16)
  generalize trM ((sub l eo n).take 16) = P at hle hcc huu
  have hb : bits .and .i64 c 65535 = c % 65536 := Z.bM_i64 16 (by decide) (by decide) (by decide)
  have e1 : IntKind.i64.wrap ((P.length : Int) + 1) = (P.length : Int) + 1 := Z.wI64 (by omega)
  obtain ⟨k, hk, hkl⟩ : ∃ k : Nat, Int.tmod (c % 65536) ((P.length : Int) + 1) = (k : Int) ∧ k ≤ P.length := by
    have h1 : Int.tmod (c % 65536) ((P.length : Int) + 1) = (c % 65536) % ((P.length : Int) + 1) := Z.tmod_nn (by omega) (by omega)
    have h2 := Int.emod_nonneg (c % 65536) (show (P.length : Int) + 1 ≠ 0 by omega)
    have h3 := Int.emod_lt_of_pos (c % 65536) (show 0 < (P.length : Int) + 1 by omega)
    exact ⟨((c % 65536) % ((P.length : Int) + 1)).toNat, by rw [h1]; omega, by omega⟩
  simp only [hb, e1, hk, Int.toNat_natCast, Nat.zero_add]
  have e2 : IntKind.i64.wrap (0 + 1) = 1 := by decide
  have e3 : (c % 65536).tmod 1 = 0 := Int.tmod_one _
  simp only [e2, e3]
  refine ⟨⟨by split <;> omega, by split <;> omega⟩, fun _ => ⟨by omega, fun _ => ⟨hc, fun _ => ⟨⟨by omega, by omega, by omega, hu'⟩, fun _ => ⟨fun hz => ?_, fun hz q Q hq => ?_⟩⟩⟩⟩⟩
  · refine ⟨fun hx => absurd hx (by simp), fun _ => ⟨by decide, fun _ => ⟨by decide, fun _ => ⟨by decide, fun _ => ⟨by decide, fun _ => ⟨by decide, fun _ => ⟨by decide, fun _ => ⟨by decide, fun _ => ?_⟩⟩⟩⟩⟩⟩⟩⟩
    refine ⟨fun _ => ⟨fun _ => ⟨by decide, fun _ => ⟨by decide, fun _ => ⟨fun hx => absurd hx (by simp [untilOf, runOf]), fun _ => ⟨by simp, fun _ => h⟩⟩⟩⟩, fun hx => absurd hx (by simp [untilOf, runOf, hrs])⟩, fun hx => absurd hx (by simp [untilOf, runOf, hrs])⟩
  · obtain ⟨q1, q2, q3⟩ := hq
    have f0 : sub Q 0 P.length = P := q3
    have f1 : sub Q 0 k = P.take k := by
      show (Q.drop 0).take k = _
      rw [← q3, List.take_take, Nat.min_eq_left hkl]; rfl
    have f2 : sub Q (bif q.beq k then 0 else k) (P.length - k) = P.drop k := by
      by_cases hq : q = k
      · have : P.length - k = 0 := by omega
        rw [this, List.drop_eq_nil_of_le (by omega)]; simp [sub]
      · rw [Z.beq_ne hq]
        show (Q.drop k).take (P.length - k) = _
        rw [← List.drop_take, q3]
    have f3 : (bif q.beq k then 0 else k) + (P.length - k) ≤ q := by
      by_cases hq : q = k
      · subst hq; rw [Nat.beq_refl]; simp; omega
      · rw [Z.beq_ne hq]; simp; omega
    have hu1 : ∀ m ∈ P.take k, U32 m.i := fun m hm => huu m (List.mem_of_mem_take hm)
    have hu2 : ∀ m ∈ P.drop k, U32 m.i := fun m hm => huu m (List.mem_of_mem_drop hm)
    have hr2 : Regs (runOf (P.take k) (r.set 0 (0 : Int))) := runOf_regs hu1 hr0
    have g1 : runOf (P.drop k) ((runOf (P.take k) (r.set 0 (0 : Int))).set 0 0) = runOf P (r.set 0 (0 : Int)) := by
      rw [run_set0 hr0.len hr1, ← run_app, List.take_append_drop]
    have g2 : untilOf 0 P (r.set 0 (0 : Int)) = r.set 0 (0 : Int) := until_take hcc (Nat.zero_le _)
    have g3 : untilOf (k : Int) P (r.set 0 (0 : Int)) = runOf (P.take k) (r.set 0 (0 : Int)) := until_take hcc hkl
    have hQ : ∀ j, j < P.length → (Q.getD j ⟨0, 0, 0, 0, 0, 0⟩).c = ((j : Nat) : Int) + 1 := fun j hj => by
      rw [← hcc j hj]
      conv => rhs; rw [← q3]
      rw [List.getD_eq_getElem?_getD, List.getD_eq_getElem?_getD, List.getElem?_take_of_lt hj]
    simp only [f0, f1, f2, g1, g2, g3, decide_true, Bool.not_true]
    refine ⟨fun hx => absurd (of_decide_eq_true hx) (by omega), fun _ => ?_⟩
    repeat' (first | exact hr0 | exact hr2 | exact huu | exact hu1 | exact hu2 | exact hQ | exact h | exact f3 | with_reducible apply And.intro | with_reducible intro)
    all_goals first
      | omega
      | decide
      | (rename_i hx; exact absurd hx (by decide))
      | rfl
  
noncomputable def con_zoetropelaw14_BlockParts : Con := ⟨true, fun args H W => match args, H, W with
  | [(.v (.c (.rs 0 1 eo n cap A))), (.v (.agg [.arr 0 32 r])), (.v (.c (.i .i64 c)))], [], ⟨0, l⟩ :: W => .ass (n ≤ cap ∧ eo + n ≤ l.length ∧ (∀ x ∈ sub l eo n, U32 x) ∧ Regs r) (.ret (.v (.c (.b (true))), []))
  | _, _, _ => .stuck 900⟩
theorem lpok_zoetropelaw14_BlockParts (c : Z.Cx) (ρ0 : List Nat) (W : List Rw) (hR : repR W c.R) (hne : ρ0.length ≤ 0) : LpOK Try.prog cx_zoetropelaw14_BlockParts c ρ0 76 W (codeOf Try.f6) := LpOK.all (ls := [((loopC 10 (codeOf Try.f6)), lp_Pt)]) (by kernel_rfl) ⟨⟨(by kernel_rfl), lpc_lp_Pt c ρ0 W hR hne⟩, trivial⟩
theorem ok_zoetropelaw14_BlockParts : ConOK Try.prog 6 con_zoetropelaw14_BlockParts := con_ok (code := (codeOf Try.f6)) (N := 76) (rs := [.tmp 6]) cx_zoetropelaw14_BlockParts_ok 0 Try.func6 rfl rfl rfl lpok_zoetropelaw14_BlockParts (by
  intro args H W K h hro
  unfold con_zoetropelaw14_BlockParts at h
  simp only at h
  split at h
  · refine ⟨rfl, ?_⟩
    rw [run_zoetropelaw14_BlockParts]
    exact pf_zoetropelaw14_BlockParts _ _ _ _ _ _ _ K h
  · exact h.elim)
end Go.Y
