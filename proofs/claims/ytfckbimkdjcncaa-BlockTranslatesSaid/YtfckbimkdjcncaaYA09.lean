/- PRINTED by wip/tools/ybuild.py: contracts of zoetropelaw14.fixed. -/
import Derived.Test.YtfckbimkdjcncaaYTyA
import Derived.Test.YtfckbimkdjcncaaG6
import Derived.Test.YtfckbimkdjcncaaYA00
import Derived.Test.YtfckbimkdjcncaaYA01
import Derived.Test.YtfckbimkdjcncaaYA02
import Derived.Test.YtfckbimkdjcncaaYA03
import Derived.Test.YtfckbimkdjcncaaYA04
import Derived.Test.YtfckbimkdjcncaaYA05
import Derived.Test.YtfckbimkdjcncaaYA06
import Derived.Test.YtfckbimkdjcncaaYA07
import Derived.Test.YtfckbimkdjcncaaYA08
set_option maxRecDepth 100000
set_option linter.unusedSimpArgs false
set_option linter.unusedVariables false
namespace Go.Y
open Go.Proofs Go.X
open Go.Z (U32 Regs rg kindOf lessOf shiftOf fillOf sg bitAt withBit bnor bor band bxor b01 bitsOf)
noncomputable def cx_zoetropelaw14_fixed : Ctx := mkCtx tys eqs [(10, con_ir_Translate), (15, con_ir_Run), (16, con_ir_Until), (11, con_zoetroperef14_Same), (13, con_ir_May)] []
theorem cx_zoetropelaw14_fixed_ok : CtxOK Try.prog cx_zoetropelaw14_fixed := mkCtx_ok _ mixed tys_ok eqs_ok ⟨⟨ok_ir_Translate, Try.call10⟩, ⟨⟨ok_ir_Run, Try.call15⟩, ⟨⟨ok_ir_Until, Try.call16⟩, ⟨⟨ok_zoetroperef14_Same, Try.call11⟩, ⟨⟨ok_ir_May, Try.call13⟩, trivial⟩⟩⟩⟩⟩
noncomputable def out_zoetropelaw14_fixed  : Tr (SV × List Bk) :=
Tr.ass
 ((3 : Nat) ≤ (3 : Nat) ∧
 (3 : Nat) ≤ (65536 : Nat) ∧
 (3 : Nat) ≤ (3 : Nat) ∧
 (3 : Nat) ≤ List.length [(604045317 : Int), (69824 : Int), (2409889808 : Int)] ∧
 ∀ (x : Sh (0 : Nat)), x ∈ X.sub [(604045317 : Int), (69824 : Int), (2409889808 : Int)] (0 : Nat) (3 : Nat) → Z.U32 x)
 (Tr.ite (decide (List.length (X.trM [(604045317 : Int), (69824 : Int), (2409889808 : Int)]) = (0 : Nat)))
 (Tr.ass
 ((2 : Nat) ≤ (65536 : Nat) ∧
 (2 : Nat) ≤ (2 : Nat) ∧
 (2 : Nat) ≤ List.length [Mic.mk (3 : Int) (1 : Int) (0 : Int) (32 : Int) (5 : Int) (1 : Int), Mic.mk (11 : Int) (2 : Int) (1 : Int) (32 : Int) (3 : Int) (2 : Int)])
 (Tr.ass
 (decide
 ([] =
 X.sub [Mic.mk (3 : Int) (1 : Int) (0 : Int) (32 : Int) (5 : Int) (1 : Int), Mic.mk (11 : Int) (2 : Int) (1 : Int) (32 : Int) (3 : Int) (2 : Int)] (0 : Nat) (2 : Nat)) =
 true →
 (0 : Int) ≤ (1 : Int) ∧ (1 : Int) < (↑(32 : Nat) : Int))
 (Tr.ass
 (decide
 ([] =
 X.sub [Mic.mk (3 : Int) (1 : Int) (0 : Int) (32 : Int) (5 : Int) (1 : Int), Mic.mk (11 : Int) (2 : Int) (1 : Int) (32 : Int) (3 : Int) (2 : Int)] (0 : Nat) (2 : Nat)) =
 true →
 Int.toNat (1 : Int) < (32 : Nat))
 (Tr.ass
 ((bif
 decide
 ([] =
 X.sub [Mic.mk (3 : Int) (1 : Int) (0 : Int) (32 : Int) (5 : Int) (1 : Int), Mic.mk (11 : Int) (2 : Int) (1 : Int) (32 : Int) (3 : Int) (2 : Int)] (0 : Nat)
 (2 : Nat)) then
 decide (List.getD (X.runOf [] (List.set (repL (0 : Int) (32 : Nat)) (0 : Nat) (0 : Int))) (Int.toNat (1 : Int)) (0 : Int) = (5 : Int))
 else false) =
 true →
 (0 : Int) ≤ (2 : Int) ∧ (2 : Int) < (↑(32 : Nat) : Int))
 (Tr.ass
 ((bif
 decide
 ([] =
 X.sub [Mic.mk (3 : Int) (1 : Int) (0 : Int) (32 : Int) (5 : Int) (1 : Int), Mic.mk (11 : Int) (2 : Int) (1 : Int) (32 : Int) (3 : Int) (2 : Int)] (0 : Nat)
 (2 : Nat)) then
 decide (List.getD (X.runOf [] (List.set (repL (0 : Int) (32 : Nat)) (0 : Nat) (0 : Int))) (Int.toNat (1 : Int)) (0 : Int) = (5 : Int))
 else false) =
 true →
 Int.toNat (2 : Int) < (32 : Nat))
 (Tr.ass
 ((bif
 bif
 decide
 ([] =
 X.sub [Mic.mk (3 : Int) (1 : Int) (0 : Int) (32 : Int) (5 : Int) (1 : Int), Mic.mk (11 : Int) (2 : Int) (1 : Int) (32 : Int) (3 : Int) (2 : Int)] (0 : Nat)
 (2 : Nat)) then
 decide (List.getD (X.runOf [] (List.set (repL (0 : Int) (32 : Nat)) (0 : Nat) (0 : Int))) (Int.toNat (1 : Int)) (0 : Int) = (5 : Int))
 else false then
 decide (List.getD (X.runOf [] (List.set (repL (0 : Int) (32 : Nat)) (0 : Nat) (0 : Int))) (Int.toNat (2 : Int)) (0 : Int) = (40 : Int))
 else false) =
 true →
 (0 : Int) ≤ (1 : Int) ∧ (1 : Int) < (↑(32 : Nat) : Int))
 (Tr.ass
 ((bif
 bif
 decide
 ([] =
 X.sub [Mic.mk (3 : Int) (1 : Int) (0 : Int) (32 : Int) (5 : Int) (1 : Int), Mic.mk (11 : Int) (2 : Int) (1 : Int) (32 : Int) (3 : Int) (2 : Int)]
 (0 : Nat) (2 : Nat)) then
 decide (List.getD (X.runOf [] (List.set (repL (0 : Int) (32 : Nat)) (0 : Nat) (0 : Int))) (Int.toNat (1 : Int)) (0 : Int) = (5 : Int))
 else false then
 decide (List.getD (X.runOf [] (List.set (repL (0 : Int) (32 : Nat)) (0 : Nat) (0 : Int))) (Int.toNat (2 : Int)) (0 : Int) = (40 : Int))
 else false) =
 true →
 Int.toNat (1 : Int) < (32 : Nat))
 (Tr.ass
 ((bif
 bif
 bif
 decide
 ([] =
 X.sub [Mic.mk (3 : Int) (1 : Int) (0 : Int) (32 : Int) (5 : Int) (1 : Int), Mic.mk (11 : Int) (2 : Int) (1 : Int) (32 : Int) (3 : Int) (2 : Int)]
 (0 : Nat) (2 : Nat)) then
 decide (List.getD (X.runOf [] (List.set (repL (0 : Int) (32 : Nat)) (0 : Nat) (0 : Int))) (Int.toNat (1 : Int)) (0 : Int) = (5 : Int))
 else false then
 decide (List.getD (X.runOf [] (List.set (repL (0 : Int) (32 : Nat)) (0 : Nat) (0 : Int))) (Int.toNat (2 : Int)) (0 : Int) = (40 : Int))
 else false then
 decide (List.getD (X.untilOf (1 : Int) [] (List.set (repL (0 : Int) (32 : Nat)) (0 : Nat) (0 : Int))) (Int.toNat (1 : Int)) (0 : Int) = (5 : Int))
 else false) =
 true →
 (0 : Int) ≤ (2 : Int) ∧ (2 : Int) < (↑(32 : Nat) : Int))
 (Tr.ass
 ((bif
 bif
 bif
 decide
 ([] =
 X.sub [Mic.mk (3 : Int) (1 : Int) (0 : Int) (32 : Int) (5 : Int) (1 : Int), Mic.mk (11 : Int) (2 : Int) (1 : Int) (32 : Int) (3 : Int) (2 : Int)]
 (0 : Nat) (2 : Nat)) then
 decide (List.getD (X.runOf [] (List.set (repL (0 : Int) (32 : Nat)) (0 : Nat) (0 : Int))) (Int.toNat (1 : Int)) (0 : Int) = (5 : Int))
 else false then
 decide (List.getD (X.runOf [] (List.set (repL (0 : Int) (32 : Nat)) (0 : Nat) (0 : Int))) (Int.toNat (2 : Int)) (0 : Int) = (40 : Int))
 else false then
 decide (List.getD (X.untilOf (1 : Int) [] (List.set (repL (0 : Int) (32 : Nat)) (0 : Nat) (0 : Int))) (Int.toNat (1 : Int)) (0 : Int) = (5 : Int))
 else false) =
 true →
 Int.toNat (2 : Int) < (32 : Nat))
 (Tr.ite
 (bif
 bif
 bif
 bif
 bif
 decide
 ([] =
 X.sub
 [Mic.mk (3 : Int) (1 : Int) (0 : Int) (32 : Int) (5 : Int) (1 : Int), Mic.mk (11 : Int) (2 : Int) (1 : Int) (32 : Int) (3 : Int) (2 : Int)]
 (0 : Nat) (2 : Nat)) then
 decide (List.getD (X.runOf [] (List.set (repL (0 : Int) (32 : Nat)) (0 : Nat) (0 : Int))) (Int.toNat (1 : Int)) (0 : Int) = (5 : Int))
 else false then
 decide (List.getD (X.runOf [] (List.set (repL (0 : Int) (32 : Nat)) (0 : Nat) (0 : Int))) (Int.toNat (2 : Int)) (0 : Int) = (40 : Int))
 else false then
 decide (List.getD (X.untilOf (1 : Int) [] (List.set (repL (0 : Int) (32 : Nat)) (0 : Nat) (0 : Int))) (Int.toNat (1 : Int)) (0 : Int) = (5 : Int))
 else false then
 decide (List.getD (X.untilOf (1 : Int) [] (List.set (repL (0 : Int) (32 : Nat)) (0 : Nat) (0 : Int))) (Int.toNat (2 : Int)) (0 : Int) = (0 : Int))
 else false then
 true
 else false)
 (Tr.ass
 ((1 : Nat) ≤ (65536 : Nat) ∧
 (1 : Nat) ≤ (1 : Nat) ∧
 (1 : Nat) ≤ List.length [Mic.mk (2 : Int) (0 : Int) (0 : Int) (0 : Int) (0 : Int) (0 : Int)] ∧
 List.length [Mic.mk (2 : Int) (0 : Int) (0 : Int) (0 : Int) (0 : Int) (0 : Int)] ≤ (1 : Nat))
 (Tr.ret (SV.v (V1.c (Sc.b !X.mayOf (X.sub [Mic.mk (2 : Int) (0 : Int) (0 : Int) (0 : Int) (0 : Int) (0 : Int)] (0 : Nat) (1 : Nat)))), [])))
 (Tr.ret (SV.v (V1.c (Sc.b false)), []))))))))))))
 (Tr.any Nat fun x =>
 Tr.any (List Mic) fun x_1 =>
 Tr.hyp
 (List.length (X.trM [(604045317 : Int), (69824 : Int), (2409889808 : Int)]) ≤ x ∧
 List.length x_1 = x ∧ List.take (List.length (X.trM [(604045317 : Int), (69824 : Int), (2409889808 : Int)])) x_1 = X.trM [(604045317 : Int), (69824 : Int), (2409889808 : Int)])
 (Tr.ass
 ((List.length (X.trM [(604045317 : Int), (69824 : Int), (2409889808 : Int)]) ≤ (65536 : Nat) ∧ (2 : Nat) ≤ x ∧ x ≤ List.length x_1 ∧ List.length x_1 ≤ x) ∧
 (∀ (m : Sh (5 : Nat)), m ∈ X.sub x_1 (0 : Nat) (List.length (X.trM [(604045317 : Int), (69824 : Int), (2409889808 : Int)])) → Z.U32 (Mic.i m)) ∧
 Z.Regs (repL (0 : Int) (32 : Nat)))
 (Tr.ass
 ((List.length (X.trM [(604045317 : Int), (69824 : Int), (2409889808 : Int)]) ≤ (65536 : Nat) ∧ (2 : Nat) ≤ x ∧ x ≤ List.length x_1 ∧ List.length x_1 ≤ x) ∧
 (∀ (m : Sh (5 : Nat)), m ∈ X.sub x_1 (0 : Nat) (List.length (X.trM [(604045317 : Int), (69824 : Int), (2409889808 : Int)])) → Z.U32 (Mic.i m)) ∧
 Z.Regs (repL (0 : Int) (32 : Nat)))
 (Tr.ass
 ((List.length (X.trM [(604045317 : Int), (69824 : Int), (2409889808 : Int)]) ≤ (65536 : Nat) ∧ (2 : Nat) ≤ x ∧ x ≤ List.length x_1) ∧
 (2 : Nat) ≤ (65536 : Nat) ∧
 (2 : Nat) ≤ (2 : Nat) ∧
 (2 : Nat) ≤ List.length [Mic.mk (3 : Int) (1 : Int) (0 : Int) (32 : Int) (5 : Int) (1 : Int), Mic.mk (11 : Int) (2 : Int) (1 : Int) (32 : Int) (3 : Int) (2 : Int)])
 (Tr.ass
 (decide
 (X.sub x_1 (0 : Nat) (List.length (X.trM [(604045317 : Int), (69824 : Int), (2409889808 : Int)])) =
 X.sub [Mic.mk (3 : Int) (1 : Int) (0 : Int) (32 : Int) (5 : Int) (1 : Int), Mic.mk (11 : Int) (2 : Int) (1 : Int) (32 : Int) (3 : Int) (2 : Int)] (0 : Nat)
 (2 : Nat)) =
 true →
 (0 : Int) ≤ (1 : Int) ∧ (1 : Int) < (↑(32 : Nat) : Int))
 (Tr.ass
 (decide
 (X.sub x_1 (0 : Nat) (List.length (X.trM [(604045317 : Int), (69824 : Int), (2409889808 : Int)])) =
 X.sub [Mic.mk (3 : Int) (1 : Int) (0 : Int) (32 : Int) (5 : Int) (1 : Int), Mic.mk (11 : Int) (2 : Int) (1 : Int) (32 : Int) (3 : Int) (2 : Int)] (0 : Nat)
 (2 : Nat)) =
 true →
 Int.toNat (1 : Int) < (32 : Nat))
 (Tr.ass
 ((bif
 decide
 (X.sub x_1 (0 : Nat) (List.length (X.trM [(604045317 : Int), (69824 : Int), (2409889808 : Int)])) =
 X.sub [Mic.mk (3 : Int) (1 : Int) (0 : Int) (32 : Int) (5 : Int) (1 : Int), Mic.mk (11 : Int) (2 : Int) (1 : Int) (32 : Int) (3 : Int) (2 : Int)]
 (0 : Nat) (2 : Nat)) then
 decide
 (List.getD
 (X.runOf (X.sub x_1 (0 : Nat) (List.length (X.trM [(604045317 : Int), (69824 : Int), (2409889808 : Int)])))
 (List.set (repL (0 : Int) (32 : Nat)) (0 : Nat) (0 : Int)))
 (Int.toNat (1 : Int)) (0 : Int) =
 (5 : Int))
 else false) =
 true →
 (0 : Int) ≤ (2 : Int) ∧ (2 : Int) < (↑(32 : Nat) : Int))
 (Tr.ass
 ((bif
 decide
 (X.sub x_1 (0 : Nat) (List.length (X.trM [(604045317 : Int), (69824 : Int), (2409889808 : Int)])) =
 X.sub [Mic.mk (3 : Int) (1 : Int) (0 : Int) (32 : Int) (5 : Int) (1 : Int), Mic.mk (11 : Int) (2 : Int) (1 : Int) (32 : Int) (3 : Int) (2 : Int)]
 (0 : Nat) (2 : Nat)) then
 decide
 (List.getD
 (X.runOf (X.sub x_1 (0 : Nat) (List.length (X.trM [(604045317 : Int), (69824 : Int), (2409889808 : Int)])))
 (List.set (repL (0 : Int) (32 : Nat)) (0 : Nat) (0 : Int)))
 (Int.toNat (1 : Int)) (0 : Int) =
 (5 : Int))
 else false) =
 true →
 Int.toNat (2 : Int) < (32 : Nat))
 (Tr.ass
 ((bif
 bif
 decide
 (X.sub x_1 (0 : Nat) (List.length (X.trM [(604045317 : Int), (69824 : Int), (2409889808 : Int)])) =
 X.sub [Mic.mk (3 : Int) (1 : Int) (0 : Int) (32 : Int) (5 : Int) (1 : Int), Mic.mk (11 : Int) (2 : Int) (1 : Int) (32 : Int) (3 : Int) (2 : Int)]
 (0 : Nat) (2 : Nat)) then
 decide
 (List.getD
 (X.runOf (X.sub x_1 (0 : Nat) (List.length (X.trM [(604045317 : Int), (69824 : Int), (2409889808 : Int)])))
 (List.set (repL (0 : Int) (32 : Nat)) (0 : Nat) (0 : Int)))
 (Int.toNat (1 : Int)) (0 : Int) =
 (5 : Int))
 else false then
 decide
 (List.getD
 (X.runOf (X.sub x_1 (0 : Nat) (List.length (X.trM [(604045317 : Int), (69824 : Int), (2409889808 : Int)])))
 (List.set (repL (0 : Int) (32 : Nat)) (0 : Nat) (0 : Int)))
 (Int.toNat (2 : Int)) (0 : Int) =
 (40 : Int))
 else false) =
 true →
 (0 : Int) ≤ (1 : Int) ∧ (1 : Int) < (↑(32 : Nat) : Int))
 (Tr.ass
 ((bif
 bif
 decide
 (X.sub x_1 (0 : Nat) (List.length (X.trM [(604045317 : Int), (69824 : Int), (2409889808 : Int)])) =
 X.sub
 [Mic.mk (3 : Int) (1 : Int) (0 : Int) (32 : Int) (5 : Int) (1 : Int), Mic.mk (11 : Int) (2 : Int) (1 : Int) (32 : Int) (3 : Int) (2 : Int)]
 (0 : Nat) (2 : Nat)) then
 decide
 (List.getD
 (X.runOf (X.sub x_1 (0 : Nat) (List.length (X.trM [(604045317 : Int), (69824 : Int), (2409889808 : Int)])))
 (List.set (repL (0 : Int) (32 : Nat)) (0 : Nat) (0 : Int)))
 (Int.toNat (1 : Int)) (0 : Int) =
 (5 : Int))
 else false then
 decide
 (List.getD
 (X.runOf (X.sub x_1 (0 : Nat) (List.length (X.trM [(604045317 : Int), (69824 : Int), (2409889808 : Int)])))
 (List.set (repL (0 : Int) (32 : Nat)) (0 : Nat) (0 : Int)))
 (Int.toNat (2 : Int)) (0 : Int) =
 (40 : Int))
 else false) =
 true →
 Int.toNat (1 : Int) < (32 : Nat))
 (Tr.ass
 ((bif
 bif
 bif
 decide
 (X.sub x_1 (0 : Nat) (List.length (X.trM [(604045317 : Int), (69824 : Int), (2409889808 : Int)])) =
 X.sub
 [Mic.mk (3 : Int) (1 : Int) (0 : Int) (32 : Int) (5 : Int) (1 : Int),
 Mic.mk (11 : Int) (2 : Int) (1 : Int) (32 : Int) (3 : Int) (2 : Int)]
 (0 : Nat) (2 : Nat)) then
 decide
 (List.getD
 (X.runOf (X.sub x_1 (0 : Nat) (List.length (X.trM [(604045317 : Int), (69824 : Int), (2409889808 : Int)])))
 (List.set (repL (0 : Int) (32 : Nat)) (0 : Nat) (0 : Int)))
 (Int.toNat (1 : Int)) (0 : Int) =
 (5 : Int))
 else false then
 decide
 (List.getD
 (X.runOf (X.sub x_1 (0 : Nat) (List.length (X.trM [(604045317 : Int), (69824 : Int), (2409889808 : Int)])))
 (List.set (repL (0 : Int) (32 : Nat)) (0 : Nat) (0 : Int)))
 (Int.toNat (2 : Int)) (0 : Int) =
 (40 : Int))
 else false then
 decide
 (List.getD
 (X.untilOf (1 : Int) (X.sub x_1 (0 : Nat) (List.length (X.trM [(604045317 : Int), (69824 : Int), (2409889808 : Int)])))
 (List.set (repL (0 : Int) (32 : Nat)) (0 : Nat) (0 : Int)))
 (Int.toNat (1 : Int)) (0 : Int) =
 (5 : Int))
 else false) =
 true →
 (0 : Int) ≤ (2 : Int) ∧ (2 : Int) < (↑(32 : Nat) : Int))
 (Tr.ass
 ((bif
 bif
 bif
 decide
 (X.sub x_1 (0 : Nat) (List.length (X.trM [(604045317 : Int), (69824 : Int), (2409889808 : Int)])) =
 X.sub
 [Mic.mk (3 : Int) (1 : Int) (0 : Int) (32 : Int) (5 : Int) (1 : Int),
 Mic.mk (11 : Int) (2 : Int) (1 : Int) (32 : Int) (3 : Int) (2 : Int)]
 (0 : Nat) (2 : Nat)) then
 decide
 (List.getD
 (X.runOf (X.sub x_1 (0 : Nat) (List.length (X.trM [(604045317 : Int), (69824 : Int), (2409889808 : Int)])))
 (List.set (repL (0 : Int) (32 : Nat)) (0 : Nat) (0 : Int)))
 (Int.toNat (1 : Int)) (0 : Int) =
 (5 : Int))
 else false then
 decide
 (List.getD
 (X.runOf (X.sub x_1 (0 : Nat) (List.length (X.trM [(604045317 : Int), (69824 : Int), (2409889808 : Int)])))
 (List.set (repL (0 : Int) (32 : Nat)) (0 : Nat) (0 : Int)))
 (Int.toNat (2 : Int)) (0 : Int) =
 (40 : Int))
 else false then
 decide
 (List.getD
 (X.untilOf (1 : Int) (X.sub x_1 (0 : Nat) (List.length (X.trM [(604045317 : Int), (69824 : Int), (2409889808 : Int)])))
 (List.set (repL (0 : Int) (32 : Nat)) (0 : Nat) (0 : Int)))
 (Int.toNat (1 : Int)) (0 : Int) =
 (5 : Int))
 else false) =
 true →
 Int.toNat (2 : Int) < (32 : Nat))
 (Tr.ass
 ((bif
 bif
 bif
 bif
 decide
 (X.sub x_1 (0 : Nat) (List.length (X.trM [(604045317 : Int), (69824 : Int), (2409889808 : Int)])) =
 X.sub
 [Mic.mk (3 : Int) (1 : Int) (0 : Int) (32 : Int) (5 : Int) (1 : Int),
 Mic.mk (11 : Int) (2 : Int) (1 : Int) (32 : Int) (3 : Int) (2 : Int)]
 (0 : Nat) (2 : Nat)) then
 decide
 (List.getD
 (X.runOf (X.sub x_1 (0 : Nat) (List.length (X.trM [(604045317 : Int), (69824 : Int), (2409889808 : Int)])))
 (List.set (repL (0 : Int) (32 : Nat)) (0 : Nat) (0 : Int)))
 (Int.toNat (1 : Int)) (0 : Int) =
 (5 : Int))
 else false then
 decide
 (List.getD
 (X.runOf (X.sub x_1 (0 : Nat) (List.length (X.trM [(604045317 : Int), (69824 : Int), (2409889808 : Int)])))
 (List.set (repL (0 : Int) (32 : Nat)) (0 : Nat) (0 : Int)))
 (Int.toNat (2 : Int)) (0 : Int) =
 (40 : Int))
 else false then
 decide
 (List.getD
 (X.untilOf (1 : Int) (X.sub x_1 (0 : Nat) (List.length (X.trM [(604045317 : Int), (69824 : Int), (2409889808 : Int)])))
 (List.set (repL (0 : Int) (32 : Nat)) (0 : Nat) (0 : Int)))
 (Int.toNat (1 : Int)) (0 : Int) =
 (5 : Int))
 else false then
 decide
 (List.getD
 (X.untilOf (1 : Int) (X.sub x_1 (0 : Nat) (List.length (X.trM [(604045317 : Int), (69824 : Int), (2409889808 : Int)])))
 (List.set (repL (0 : Int) (32 : Nat)) (0 : Nat) (0 : Int)))
 (Int.toNat (2 : Int)) (0 : Int) =
 (0 : Int))
 else false) =
 true →
 List.length (X.trM [(604045317 : Int), (69824 : Int), (2409889808 : Int)]) ≤ (65536 : Nat) ∧ (2 : Nat) ≤ x ∧ x ≤ List.length x_1 ∧ List.length x_1 ≤ x)
 (Tr.ite
 (bif
 bif
 bif
 bif
 bif
 decide
 (X.sub x_1 (0 : Nat) (List.length (X.trM [(604045317 : Int), (69824 : Int), (2409889808 : Int)])) =
 X.sub
 [Mic.mk (3 : Int) (1 : Int) (0 : Int) (32 : Int) (5 : Int) (1 : Int),
 Mic.mk (11 : Int) (2 : Int) (1 : Int) (32 : Int) (3 : Int) (2 : Int)]
 (0 : Nat) (2 : Nat)) then
 decide
 (List.getD
 (X.runOf (X.sub x_1 (0 : Nat) (List.length (X.trM [(604045317 : Int), (69824 : Int), (2409889808 : Int)])))
 (List.set (repL (0 : Int) (32 : Nat)) (0 : Nat) (0 : Int)))
 (Int.toNat (1 : Int)) (0 : Int) =
 (5 : Int))
 else false then
 decide
 (List.getD
 (X.runOf (X.sub x_1 (0 : Nat) (List.length (X.trM [(604045317 : Int), (69824 : Int), (2409889808 : Int)])))
 (List.set (repL (0 : Int) (32 : Nat)) (0 : Nat) (0 : Int)))
 (Int.toNat (2 : Int)) (0 : Int) =
 (40 : Int))
 else false then
 decide
 (List.getD
 (X.untilOf (1 : Int) (X.sub x_1 (0 : Nat) (List.length (X.trM [(604045317 : Int), (69824 : Int), (2409889808 : Int)])))
 (List.set (repL (0 : Int) (32 : Nat)) (0 : Nat) (0 : Int)))
 (Int.toNat (1 : Int)) (0 : Int) =
 (5 : Int))
 else false then
 decide
 (List.getD
 (X.untilOf (1 : Int) (X.sub x_1 (0 : Nat) (List.length (X.trM [(604045317 : Int), (69824 : Int), (2409889808 : Int)])))
 (List.set (repL (0 : Int) (32 : Nat)) (0 : Nat) (0 : Int)))
 (Int.toNat (2 : Int)) (0 : Int) =
 (0 : Int))
 else false then
 X.mayOf (X.sub x_1 (0 : Nat) (List.length (X.trM [(604045317 : Int), (69824 : Int), (2409889808 : Int)])))
 else false)
 (Tr.ass
 ((1 : Nat) ≤ (65536 : Nat) ∧
 (1 : Nat) ≤ (1 : Nat) ∧
 (1 : Nat) ≤ List.length [Mic.mk (2 : Int) (0 : Int) (0 : Int) (0 : Int) (0 : Int) (0 : Int)] ∧
 List.length [Mic.mk (2 : Int) (0 : Int) (0 : Int) (0 : Int) (0 : Int) (0 : Int)] ≤ (1 : Nat))
 (Tr.ret
 (SV.v (V1.c (Sc.b !X.mayOf (X.sub [Mic.mk (2 : Int) (0 : Int) (0 : Int) (0 : Int) (0 : Int) (0 : Int)] (0 : Nat) (1 : Nat)))), [])))
 (Tr.ret (SV.v (V1.c (Sc.b false)), [])))))))))))))))))

theorem run_zoetropelaw14_fixed  (W : List Rw) : runF cx_zoetropelaw14_fixed 47 [.tmp 0] (codeOf Try.f12) [] [] W = out_zoetropelaw14_fixed  := by kernel_rfl
theorem pf_zoetropelaw14_fixed  (K : SV × List Bk → Prop) (h : (.ret (.v (.c (.b (true))), []) : Tr (SV × List Bk)).all K) : (out_zoetropelaw14_fixed ).all K := by
  replace h : K _ := h
  have hM : trM [604045317, 69824, 2409889808] = [⟨3, 1, 0, 32, 5, 1⟩, ⟨11, 2, 1, 32, 3, 2⟩] := by kernel_rfl
  have hR : Regs (repL (0 : Int) 32) := ⟨rfl, by decide⟩
  unfold out_zoetropelaw14_fixed
  simp only [Tr.all, hM, List.length_cons, List.length_nil, Nat.zero_add, Nat.reduceAdd]
  refine ⟨⟨by decide, by decide, by decide, by decide, by decide⟩, fun _ => ⟨fun h1 => absurd h1 (by decide), fun _ cap q hq => ?_⟩⟩
  obtain ⟨q1, q2, q3⟩ := hq
  have hs : sub q 0 2 = [⟨3, 1, 0, 32, 5, 1⟩, ⟨11, 2, 1, 32, 3, 2⟩] := q3
  simp only [hs]
  have hU : ∀ m ∈ ([⟨3, 1, 0, 32, 5, 1⟩, ⟨11, 2, 1, 32, 3, 2⟩] : List Mic), U32 m.i := by decide
  repeat' (first | exact hU | exact hR | with_reducible apply And.intro | with_reducible intro)
  all_goals first
    | decide
    | omega
    | (rename_i hf; exact absurd hf (by decide))
    | exact leafB h (by kernel_rfl)
noncomputable def con_zoetropelaw14_fixed : Con := ⟨true, fun args H W => match args, H, W with
  | [], [], _ => .ret (.v (.c (.b (true))), [])
  | _, _, _ => .stuck 900⟩
theorem ok_zoetropelaw14_fixed : ConOK Try.prog 12 con_zoetropelaw14_fixed := con_ok (code := (codeOf Try.f12)) (N := 47) (rs := [.tmp 0]) cx_zoetropelaw14_fixed_ok 0 Try.func12 rfl rfl rfl (fun _ _ _ _ _ => LpOK.no (by kernel_rfl)) (by
  intro args H W K h hro
  unfold con_zoetropelaw14_fixed at h
  simp only at h
  split at h
  · refine ⟨rfl, ?_⟩
    rw [run_zoetropelaw14_fixed]
    exact pf_zoetropelaw14_fixed  K h
  · exact h.elim)
end Go.Y
