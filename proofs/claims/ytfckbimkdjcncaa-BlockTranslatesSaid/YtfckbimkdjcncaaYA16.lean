/- PRINTED by wip/tools/ybuild.py: contracts of zoetroperef14.Translate. -/
import Derived.Test.YtfckbimkdjcncaaYTyA
import Derived.Test.YtfckbimkdjcncaaG6
import Derived.Test.YtfckbimkdjcncaaYA00
import Derived.Test.YtfckbimkdjcncaaYA01
import Derived.Test.YtfckbimkdjcncaaYA02
import Derived.Test.YtfckbimkdjcncaaYA03
import Derived.Test.YtfckbimkdjcncaaYA04
import Derived.Test.YtfckbimkdjcncaaYA05
import Derived.Test.YtfckbimkdjcncaaYA06
import Derived.Test.YtfckbimkdjcncaaYA07
import Derived.Test.YtfckbimkdjcncaaYA08
import Derived.Test.YtfckbimkdjcncaaYA09
import Derived.Test.YtfckbimkdjcncaaYA10
import Derived.Test.YtfckbimkdjcncaaYA11
import Derived.Test.YtfckbimkdjcncaaYA12
import Derived.Test.YtfckbimkdjcncaaYA13
import Derived.Test.YtfckbimkdjcncaaYA14
import Derived.Test.YtfckbimkdjcncaaYA15
set_option maxRecDepth 100000
set_option linter.unusedSimpArgs false
set_option linter.unusedVariables false
namespace Go.Y
open Go.Proofs Go.X
open Go.Z (U32 Regs rg kindOf lessOf shiftOf fillOf sg bitAt withBit bnor bor band bxor b01 bitsOf)
noncomputable def lp_RTr : LpT := fun e H W => match canE 0 [0, 3, 4] e H, W with
  | some ([(.v (.c (.rs 0 1 eo n cap A))), (.v (.c (.sl 0 0 6 0 nq cq))), (.v (.c (.i .i64 i)))], [⟨28, [.arr 5 M q], true⟩]), ⟨0, l⟩ :: W => .ass ((i = ((0 : Nat) : Int) ∧ nq = 0 ∧ cq = 0 ∧ M = 0 ∧ isNil q) ∧ n ≤ 65536 ∧ eo + n ≤ l.length ∧ (∀ x ∈ sub l eo n, U32 x)) (.any Nat fun cq => .any (List Mic) fun q => .hyp ((trM ((sub l eo n).take 16)).length ≤ cq ∧ q.length = cq ∧ q.take (trM ((sub l eo n).take 16)).length = trM ((sub l eo n).take 16)) (.ret (.ex 0, [(3, .v (.c (.sl 0 0 6 0 (trM ((sub l eo n).take 16)).length cq)))], [⟨28, [.arr 5 cq q], true⟩])))
  | _, _ => .stuck 901
noncomputable def cx_zoetroperef14_Translate : Ctx := mkCtx tys eqs [(20, con_zoetroperef04_Decode), (21, con_zoetroperef04_At), (22, con_zoetroperef14_kinds), (23, con_zoetroperef01_Word)] [(3, lp_RTr)]
theorem cx_zoetroperef14_Translate_ok : CtxOK Try.prog cx_zoetroperef14_Translate := mkCtx_ok _ mixed tys_ok eqs_ok ⟨⟨ok_zoetroperef04_Decode, Try.call20⟩, ⟨⟨ok_zoetroperef04_At, Try.call21⟩, ⟨⟨ok_zoetroperef14_kinds, Try.call22⟩, ⟨⟨ok_zoetroperef01_Word, Try.call23⟩, trivial⟩⟩⟩⟩
noncomputable def outr_lp_RTr (eo : Nat) (n : Nat) (cap : Nat) (A : Option Addr) (nq : Nat) (cq : Nat) (i : Int) (M : Nat) (q : List (Sh 5)) (l : List (Sh 0)) : Tr (X × List SV × List Bk) :=
Tr.ite (bif decide (i < (↑n : Int)) then decide (i < (16 : Int)) else false)
 (Tr.ass ((0 : Int) ≤ i ∧ i < (↑n : Int))
 (Tr.ass (eo + Int.toNat i < List.length l)
 (Tr.ass (Z.U32 (List.getD l (eo + Int.toNat i) (0 : Int)))
 (Tr.ite
 (bif !decide (X.decE (List.getD l (eo + Int.toNat i) (0 : Int)) = (0 : Int)) then true
 else decide (X.kndN (X.nameL (Z.Ins.op (X.decI (List.getD l (eo + Int.toNat i) (0 : Int))))) < (0 : Int)))
 (Tr.ret
 (X.ex (nat_lit 0),
 [SV.v (V1.c (Sc.rs (nat_lit 0) (nat_lit 1) eo n cap A)), SV.v (V1.c (Sc.sl (nat_lit 0) (nat_lit 0) (nat_lit 6) (nat_lit 0) nq cq)),
 SV.v (V1.c (Sc.i IntKind.i64 i))],
 [Bk.mk (nat_lit 28) [Seg.arr (nat_lit 5) M q] true]))
 (Tr.ite (decide (X.formL (Z.Ins.op (X.decI (List.getD l (eo + Int.toNat i) (0 : Int)))) = [(83 : UInt8), (72 : UInt8)]))
 (Tr.ite (decide (X.formL (Z.Ins.op (X.decI (List.getD l (eo + Int.toNat i) (0 : Int)))) = [(83 : UInt8), (86 : UInt8)]))
 (Tr.ite
 (bif decide (X.formL (Z.Ins.op (X.decI (List.getD l (eo + Int.toNat i) (0 : Int)))) = [(73 : UInt8)]) then true
 else decide (X.formL (Z.Ins.op (X.decI (List.getD l (eo + Int.toNat i) (0 : Int)))) = [(73 : UInt8), (85 : UInt8)]))
 (Tr.ite (decide (X.formL (Z.Ins.op (X.decI (List.getD l (eo + Int.toNat i) (0 : Int)))) = [(76 : UInt8), (85 : UInt8), (73 : UInt8)]))
 (Tr.ite (decide (Z.Ins.rt (X.decI (List.getD l (eo + Int.toNat i) (0 : Int))) = (0 : Int)))
 (Tr.ass ((1 : Nat) ≤ (1 : Nat))
 (Tr.ass (nq ≤ cq ∧ cq ≤ M ∧ nq + (1 : Nat) ≤ (65536 : Nat))
 (Tr.ite (decide (nq + (1 : Nat) ≤ cq))
 (Tr.any (List (Sh (5 : Nat))) fun x =>
 Tr.hyp
 (List.length x = M ∧
 List.take (nq + (1 : Nat)) x = List.take nq q ++ [Mic.mk (0 : Int) (0 : Int) (0 : Int) (0 : Int) (0 : Int) (IntKind.wrap IntKind.i64 (i + (1 : Int)))])
 (Tr.ret
 (X.nor,
 [SV.v (V1.c (Sc.rs (nat_lit 0) (nat_lit 1) eo n cap A)),
 SV.v (V1.c (Sc.sl (nat_lit 0) (nat_lit 0) (nat_lit 6) (nat_lit 0) (nq + (1 : Nat)) cq)),
 SV.v (V1.c (Sc.i IntKind.i64 (IntKind.wrap IntKind.i64 (i + (1 : Int)))))],
 [Bk.mk (nat_lit 28) [Seg.arr (nat_lit 5) M x] true])))
 (Tr.any Nat fun x =>
 Tr.any (List (Sh (5 : Nat))) fun x_1 =>
 Tr.hyp
 (nq + (1 : Nat) ≤ x ∧
 List.length x_1 = x ∧
 List.take (nq + (1 : Nat)) x_1 = List.take nq q ++ [Mic.mk (0 : Int) (0 : Int) (0 : Int) (0 : Int) (0 : Int) (IntKind.wrap IntKind.i64 (i + (1 : Int)))])
 (Tr.ret
 (X.nor,
 [SV.v (V1.c (Sc.rs (nat_lit 0) (nat_lit 1) eo n cap A)),
 SV.v (V1.c (Sc.sl (nat_lit 0) (nat_lit 0) (nat_lit 6) (nat_lit 0) (nq + (1 : Nat)) x)),
 SV.v (V1.c (Sc.i IntKind.i64 (IntKind.wrap IntKind.i64 (i + (1 : Int)))))],
 [Bk.mk (nat_lit 28) [Seg.arr (nat_lit 5) x x_1] true]))))))
 (Tr.ass ((1 : Nat) ≤ (1 : Nat))
 (Tr.ass (nq ≤ cq ∧ cq ≤ M ∧ nq + (1 : Nat) ≤ (65536 : Nat))
 (Tr.ite (decide (nq + (1 : Nat) ≤ cq))
 (Tr.any (List (Sh (5 : Nat))) fun x =>
 Tr.hyp
 (List.length x = M ∧
 List.take (nq + (1 : Nat)) x =
 List.take nq q ++
 [Mic.mk (X.kndN (X.nameL (Z.Ins.op (X.decI (List.getD l (eo + Int.toNat i) (0 : Int))))))
 (Z.Ins.rt (X.decI (List.getD l (eo + Int.toNat i) (0 : Int)))) (0 : Int) (0 : Int)
 (IntKind.wrap IntKind.i64 (Z.Ins.imm (X.decI (List.getD l (eo + Int.toNat i) (0 : Int))) * (65536 : Int)) % (4294967296 : Int))
 (IntKind.wrap IntKind.i64 (i + (1 : Int)))])
 (Tr.ret
 (X.nor,
 [SV.v (V1.c (Sc.rs (nat_lit 0) (nat_lit 1) eo n cap A)),
 SV.v (V1.c (Sc.sl (nat_lit 0) (nat_lit 0) (nat_lit 6) (nat_lit 0) (nq + (1 : Nat)) cq)),
 SV.v (V1.c (Sc.i IntKind.i64 (IntKind.wrap IntKind.i64 (i + (1 : Int)))))],
 [Bk.mk (nat_lit 28) [Seg.arr (nat_lit 5) M x] true])))
 (Tr.any Nat fun x =>
 Tr.any (List (Sh (5 : Nat))) fun x_1 =>
 Tr.hyp
 (nq + (1 : Nat) ≤ x ∧
 List.length x_1 = x ∧
 List.take (nq + (1 : Nat)) x_1 =
 List.take nq q ++
 [Mic.mk (X.kndN (X.nameL (Z.Ins.op (X.decI (List.getD l (eo + Int.toNat i) (0 : Int))))))
 (Z.Ins.rt (X.decI (List.getD l (eo + Int.toNat i) (0 : Int)))) (0 : Int) (0 : Int)
 (IntKind.wrap IntKind.i64 (Z.Ins.imm (X.decI (List.getD l (eo + Int.toNat i) (0 : Int))) * (65536 : Int)) % (4294967296 : Int))
 (IntKind.wrap IntKind.i64 (i + (1 : Int)))])
 (Tr.ret
 (X.nor,
 [SV.v (V1.c (Sc.rs (nat_lit 0) (nat_lit 1) eo n cap A)),
 SV.v (V1.c (Sc.sl (nat_lit 0) (nat_lit 0) (nat_lit 6) (nat_lit 0) (nq + (1 : Nat)) x)),
 SV.v (V1.c (Sc.i IntKind.i64 (IntKind.wrap IntKind.i64 (i + (1 : Int)))))],
 [Bk.mk (nat_lit 28) [Seg.arr (nat_lit 5) x x_1] true])))))))
 (Tr.ite (decide (Z.Ins.rt (X.decI (List.getD l (eo + Int.toNat i) (0 : Int))) = (0 : Int)))
 (Tr.ass ((1 : Nat) ≤ (1 : Nat))
 (Tr.ass (nq ≤ cq ∧ cq ≤ M ∧ nq + (1 : Nat) ≤ (65536 : Nat))
 (Tr.ite (decide (nq + (1 : Nat) ≤ cq))
 (Tr.any (List (Sh (5 : Nat))) fun x =>
 Tr.hyp
 (List.length x = M ∧
 List.take (nq + (1 : Nat)) x = List.take nq q ++ [Mic.mk (0 : Int) (0 : Int) (0 : Int) (0 : Int) (0 : Int) (IntKind.wrap IntKind.i64 (i + (1 : Int)))])
 (Tr.ret
 (X.nor,
 [SV.v (V1.c (Sc.rs (nat_lit 0) (nat_lit 1) eo n cap A)),
 SV.v (V1.c (Sc.sl (nat_lit 0) (nat_lit 0) (nat_lit 6) (nat_lit 0) (nq + (1 : Nat)) cq)),
 SV.v (V1.c (Sc.i IntKind.i64 (IntKind.wrap IntKind.i64 (i + (1 : Int)))))],
 [Bk.mk (nat_lit 28) [Seg.arr (nat_lit 5) M x] true])))
 (Tr.any Nat fun x =>
 Tr.any (List (Sh (5 : Nat))) fun x_1 =>
 Tr.hyp
 (nq + (1 : Nat) ≤ x ∧
 List.length x_1 = x ∧
 List.take (nq + (1 : Nat)) x_1 = List.take nq q ++ [Mic.mk (0 : Int) (0 : Int) (0 : Int) (0 : Int) (0 : Int) (IntKind.wrap IntKind.i64 (i + (1 : Int)))])
 (Tr.ret
 (X.nor,
 [SV.v (V1.c (Sc.rs (nat_lit 0) (nat_lit 1) eo n cap A)),
 SV.v (V1.c (Sc.sl (nat_lit 0) (nat_lit 0) (nat_lit 6) (nat_lit 0) (nq + (1 : Nat)) x)),
 SV.v (V1.c (Sc.i IntKind.i64 (IntKind.wrap IntKind.i64 (i + (1 : Int)))))],
 [Bk.mk (nat_lit 28) [Seg.arr (nat_lit 5) x x_1] true]))))))
 (Tr.ass ((1 : Nat) ≤ (1 : Nat))
 (Tr.ass (nq ≤ cq ∧ cq ≤ M ∧ nq + (1 : Nat) ≤ (65536 : Nat))
 (Tr.ite (decide (nq + (1 : Nat) ≤ cq))
 (Tr.any (List (Sh (5 : Nat))) fun x =>
 Tr.hyp
 (List.length x = M ∧
 List.take (nq + (1 : Nat)) x =
 List.take nq q ++
 [Mic.mk (X.kndN (X.nameL (Z.Ins.op (X.decI (List.getD l (eo + Int.toNat i) (0 : Int))))))
 (Z.Ins.rt (X.decI (List.getD l (eo + Int.toNat i) (0 : Int)))) (Z.Ins.rs (X.decI (List.getD l (eo + Int.toNat i) (0 : Int)))) (32 : Int)
 (Z.Ins.imm (X.decI (List.getD l (eo + Int.toNat i) (0 : Int))) % (4294967296 : Int)) (IntKind.wrap IntKind.i64 (i + (1 : Int)))])
 (Tr.ret
 (X.nor,
 [SV.v (V1.c (Sc.rs (nat_lit 0) (nat_lit 1) eo n cap A)),
 SV.v (V1.c (Sc.sl (nat_lit 0) (nat_lit 0) (nat_lit 6) (nat_lit 0) (nq + (1 : Nat)) cq)),
 SV.v (V1.c (Sc.i IntKind.i64 (IntKind.wrap IntKind.i64 (i + (1 : Int)))))],
 [Bk.mk (nat_lit 28) [Seg.arr (nat_lit 5) M x] true])))
 (Tr.any Nat fun x =>
 Tr.any (List (Sh (5 : Nat))) fun x_1 =>
 Tr.hyp
 (nq + (1 : Nat) ≤ x ∧
 List.length x_1 = x ∧
 List.take (nq + (1 : Nat)) x_1 =
 List.take nq q ++
 [Mic.mk (X.kndN (X.nameL (Z.Ins.op (X.decI (List.getD l (eo + Int.toNat i) (0 : Int))))))
 (Z.Ins.rt (X.decI (List.getD l (eo + Int.toNat i) (0 : Int)))) (Z.Ins.rs (X.decI (List.getD l (eo + Int.toNat i) (0 : Int)))) (32 : Int)
 (Z.Ins.imm (X.decI (List.getD l (eo + Int.toNat i) (0 : Int))) % (4294967296 : Int)) (IntKind.wrap IntKind.i64 (i + (1 : Int)))])
 (Tr.ret
 (X.nor,
 [SV.v (V1.c (Sc.rs (nat_lit 0) (nat_lit 1) eo n cap A)),
 SV.v (V1.c (Sc.sl (nat_lit 0) (nat_lit 0) (nat_lit 6) (nat_lit 0) (nq + (1 : Nat)) x)),
 SV.v (V1.c (Sc.i IntKind.i64 (IntKind.wrap IntKind.i64 (i + (1 : Int)))))],
 [Bk.mk (nat_lit 28) [Seg.arr (nat_lit 5) x x_1] true]))))))))
 (Tr.ite (decide (X.formL (Z.Ins.op (X.decI (List.getD l (eo + Int.toNat i) (0 : Int)))) = [(76 : UInt8), (85 : UInt8), (73 : UInt8)]))
 (Tr.ite (decide (Z.Ins.rt (X.decI (List.getD l (eo + Int.toNat i) (0 : Int))) = (0 : Int)))
 (Tr.ass ((1 : Nat) ≤ (1 : Nat))
 (Tr.ass (nq ≤ cq ∧ cq ≤ M ∧ nq + (1 : Nat) ≤ (65536 : Nat))
 (Tr.ite (decide (nq + (1 : Nat) ≤ cq))
 (Tr.any (List (Sh (5 : Nat))) fun x =>
 Tr.hyp
 (List.length x = M ∧
 List.take (nq + (1 : Nat)) x = List.take nq q ++ [Mic.mk (0 : Int) (0 : Int) (0 : Int) (0 : Int) (0 : Int) (IntKind.wrap IntKind.i64 (i + (1 : Int)))])
 (Tr.ret
 (X.nor,
 [SV.v (V1.c (Sc.rs (nat_lit 0) (nat_lit 1) eo n cap A)),
 SV.v (V1.c (Sc.sl (nat_lit 0) (nat_lit 0) (nat_lit 6) (nat_lit 0) (nq + (1 : Nat)) cq)),
 SV.v (V1.c (Sc.i IntKind.i64 (IntKind.wrap IntKind.i64 (i + (1 : Int)))))],
 [Bk.mk (nat_lit 28) [Seg.arr (nat_lit 5) M x] true])))
 (Tr.any Nat fun x =>
 Tr.any (List (Sh (5 : Nat))) fun x_1 =>
 Tr.hyp
 (nq + (1 : Nat) ≤ x ∧
 List.length x_1 = x ∧
 List.take (nq + (1 : Nat)) x_1 = List.take nq q ++ [Mic.mk (0 : Int) (0 : Int) (0 : Int) (0 : Int) (0 : Int) (IntKind.wrap IntKind.i64 (i + (1 : Int)))])
 (Tr.ret
 (X.nor,
 [SV.v (V1.c (Sc.rs (nat_lit 0) (nat_lit 1) eo n cap A)),
 SV.v (V1.c (Sc.sl (nat_lit 0) (nat_lit 0) (nat_lit 6) (nat_lit 0) (nq + (1 : Nat)) x)),
 SV.v (V1.c (Sc.i IntKind.i64 (IntKind.wrap IntKind.i64 (i + (1 : Int)))))],
 [Bk.mk (nat_lit 28) [Seg.arr (nat_lit 5) x x_1] true]))))))
 (Tr.ass ((1 : Nat) ≤ (1 : Nat))
 (Tr.ass (nq ≤ cq ∧ cq ≤ M ∧ nq + (1 : Nat) ≤ (65536 : Nat))
 (Tr.ite (decide (nq + (1 : Nat) ≤ cq))
 (Tr.any (List (Sh (5 : Nat))) fun x =>
 Tr.hyp
 (List.length x = M ∧
 List.take (nq + (1 : Nat)) x =
 List.take nq q ++
 [Mic.mk (X.kndN (X.nameL (Z.Ins.op (X.decI (List.getD l (eo + Int.toNat i) (0 : Int))))))
 (Z.Ins.rt (X.decI (List.getD l (eo + Int.toNat i) (0 : Int)))) (0 : Int) (0 : Int)
 (IntKind.wrap IntKind.i64 (Z.Ins.imm (X.decI (List.getD l (eo + Int.toNat i) (0 : Int))) * (65536 : Int)) % (4294967296 : Int))
 (IntKind.wrap IntKind.i64 (i + (1 : Int)))])
 (Tr.ret
 (X.nor,
 [SV.v (V1.c (Sc.rs (nat_lit 0) (nat_lit 1) eo n cap A)),
 SV.v (V1.c (Sc.sl (nat_lit 0) (nat_lit 0) (nat_lit 6) (nat_lit 0) (nq + (1 : Nat)) cq)),
 SV.v (V1.c (Sc.i IntKind.i64 (IntKind.wrap IntKind.i64 (i + (1 : Int)))))],
 [Bk.mk (nat_lit 28) [Seg.arr (nat_lit 5) M x] true])))
 (Tr.any Nat fun x =>
 Tr.any (List (Sh (5 : Nat))) fun x_1 =>
 Tr.hyp
 (nq + (1 : Nat) ≤ x ∧
 List.length x_1 = x ∧
 List.take (nq + (1 : Nat)) x_1 =
 List.take nq q ++
 [Mic.mk (X.kndN (X.nameL (Z.Ins.op (X.decI (List.getD l (eo + Int.toNat i) (0 : Int))))))
 (Z.Ins.rt (X.decI (List.getD l (eo + Int.toNat i) (0 : Int)))) (0 : Int) (0 : Int)
 (IntKind.wrap IntKind.i64 (Z.Ins.imm (X.decI (List.getD l (eo + Int.toNat i) (0 : Int))) * (65536 : Int)) % (4294967296 : Int))
 (IntKind.wrap IntKind.i64 (i + (1 : Int)))])
 (Tr.ret
 (X.nor,
 [SV.v (V1.c (Sc.rs (nat_lit 0) (nat_lit 1) eo n cap A)),
 SV.v (V1.c (Sc.sl (nat_lit 0) (nat_lit 0) (nat_lit 6) (nat_lit 0) (nq + (1 : Nat)) x)),
 SV.v (V1.c (Sc.i IntKind.i64 (IntKind.wrap IntKind.i64 (i + (1 : Int)))))],
 [Bk.mk (nat_lit 28) [Seg.arr (nat_lit 5) x x_1] true])))))))
 (Tr.ite (decide (Z.Ins.rd (X.decI (List.getD l (eo + Int.toNat i) (0 : Int))) = (0 : Int)))
 (Tr.ass ((1 : Nat) ≤ (1 : Nat))
 (Tr.ass (nq ≤ cq ∧ cq ≤ M ∧ nq + (1 : Nat) ≤ (65536 : Nat))
 (Tr.ite (decide (nq + (1 : Nat) ≤ cq))
 (Tr.any (List (Sh (5 : Nat))) fun x =>
 Tr.hyp
 (List.length x = M ∧
 List.take (nq + (1 : Nat)) x = List.take nq q ++ [Mic.mk (0 : Int) (0 : Int) (0 : Int) (0 : Int) (0 : Int) (IntKind.wrap IntKind.i64 (i + (1 : Int)))])
 (Tr.ret
 (X.nor,
 [SV.v (V1.c (Sc.rs (nat_lit 0) (nat_lit 1) eo n cap A)),
 SV.v (V1.c (Sc.sl (nat_lit 0) (nat_lit 0) (nat_lit 6) (nat_lit 0) (nq + (1 : Nat)) cq)),
 SV.v (V1.c (Sc.i IntKind.i64 (IntKind.wrap IntKind.i64 (i + (1 : Int)))))],
 [Bk.mk (nat_lit 28) [Seg.arr (nat_lit 5) M x] true])))
 (Tr.any Nat fun x =>
 Tr.any (List (Sh (5 : Nat))) fun x_1 =>
 Tr.hyp
 (nq + (1 : Nat) ≤ x ∧
 List.length x_1 = x ∧
 List.take (nq + (1 : Nat)) x_1 = List.take nq q ++ [Mic.mk (0 : Int) (0 : Int) (0 : Int) (0 : Int) (0 : Int) (IntKind.wrap IntKind.i64 (i + (1 : Int)))])
 (Tr.ret
 (X.nor,
 [SV.v (V1.c (Sc.rs (nat_lit 0) (nat_lit 1) eo n cap A)),
 SV.v (V1.c (Sc.sl (nat_lit 0) (nat_lit 0) (nat_lit 6) (nat_lit 0) (nq + (1 : Nat)) x)),
 SV.v (V1.c (Sc.i IntKind.i64 (IntKind.wrap IntKind.i64 (i + (1 : Int)))))],
 [Bk.mk (nat_lit 28) [Seg.arr (nat_lit 5) x x_1] true]))))))
 (Tr.ass ((1 : Nat) ≤ (1 : Nat))
 (Tr.ass (nq ≤ cq ∧ cq ≤ M ∧ nq + (1 : Nat) ≤ (65536 : Nat))
 (Tr.ite (decide (nq + (1 : Nat) ≤ cq))
 (Tr.any (List (Sh (5 : Nat))) fun x =>
 Tr.hyp
 (List.length x = M ∧
 List.take (nq + (1 : Nat)) x =
 List.take nq q ++
 [Mic.mk (X.kndN (X.nameL (Z.Ins.op (X.decI (List.getD l (eo + Int.toNat i) (0 : Int))))))
 (Z.Ins.rd (X.decI (List.getD l (eo + Int.toNat i) (0 : Int)))) (Z.Ins.rt (X.decI (List.getD l (eo + Int.toNat i) (0 : Int))))
 (Z.Ins.rs (X.decI (List.getD l (eo + Int.toNat i) (0 : Int)))) (0 : Int) (IntKind.wrap IntKind.i64 (i + (1 : Int)))])
 (Tr.ret
 (X.nor,
 [SV.v (V1.c (Sc.rs (nat_lit 0) (nat_lit 1) eo n cap A)),
 SV.v (V1.c (Sc.sl (nat_lit 0) (nat_lit 0) (nat_lit 6) (nat_lit 0) (nq + (1 : Nat)) cq)),
 SV.v (V1.c (Sc.i IntKind.i64 (IntKind.wrap IntKind.i64 (i + (1 : Int)))))],
 [Bk.mk (nat_lit 28) [Seg.arr (nat_lit 5) M x] true])))
 (Tr.any Nat fun x =>
 Tr.any (List (Sh (5 : Nat))) fun x_1 =>
 Tr.hyp
 (nq + (1 : Nat) ≤ x ∧
 List.length x_1 = x ∧
 List.take (nq + (1 : Nat)) x_1 =
 List.take nq q ++
 [Mic.mk (X.kndN (X.nameL (Z.Ins.op (X.decI (List.getD l (eo + Int.toNat i) (0 : Int))))))
 (Z.Ins.rd (X.decI (List.getD l (eo + Int.toNat i) (0 : Int)))) (Z.Ins.rt (X.decI (List.getD l (eo + Int.toNat i) (0 : Int))))
 (Z.Ins.rs (X.decI (List.getD l (eo + Int.toNat i) (0 : Int)))) (0 : Int) (IntKind.wrap IntKind.i64 (i + (1 : Int)))])
 (Tr.ret
 (X.nor,
 [SV.v (V1.c (Sc.rs (nat_lit 0) (nat_lit 1) eo n cap A)),
 SV.v (V1.c (Sc.sl (nat_lit 0) (nat_lit 0) (nat_lit 6) (nat_lit 0) (nq + (1 : Nat)) x)),
 SV.v (V1.c (Sc.i IntKind.i64 (IntKind.wrap IntKind.i64 (i + (1 : Int)))))],
 [Bk.mk (nat_lit 28) [Seg.arr (nat_lit 5) x x_1] true])))))))))
 (Tr.ite
 (bif decide (X.formL (Z.Ins.op (X.decI (List.getD l (eo + Int.toNat i) (0 : Int)))) = [(73 : UInt8)]) then true
 else decide (X.formL (Z.Ins.op (X.decI (List.getD l (eo + Int.toNat i) (0 : Int)))) = [(73 : UInt8), (85 : UInt8)]))
 (Tr.ite (decide (X.formL (Z.Ins.op (X.decI (List.getD l (eo + Int.toNat i) (0 : Int)))) = [(76 : UInt8), (85 : UInt8), (73 : UInt8)]))
 (Tr.ite (decide (Z.Ins.rt (X.decI (List.getD l (eo + Int.toNat i) (0 : Int))) = (0 : Int)))
 (Tr.ass ((1 : Nat) ≤ (1 : Nat))
 (Tr.ass (nq ≤ cq ∧ cq ≤ M ∧ nq + (1 : Nat) ≤ (65536 : Nat))
 (Tr.ite (decide (nq + (1 : Nat) ≤ cq))
 (Tr.any (List (Sh (5 : Nat))) fun x =>
 Tr.hyp
 (List.length x = M ∧
 List.take (nq + (1 : Nat)) x = List.take nq q ++ [Mic.mk (0 : Int) (0 : Int) (0 : Int) (0 : Int) (0 : Int) (IntKind.wrap IntKind.i64 (i + (1 : Int)))])
 (Tr.ret
 (X.nor,
 [SV.v (V1.c (Sc.rs (nat_lit 0) (nat_lit 1) eo n cap A)),
 SV.v (V1.c (Sc.sl (nat_lit 0) (nat_lit 0) (nat_lit 6) (nat_lit 0) (nq + (1 : Nat)) cq)),
 SV.v (V1.c (Sc.i IntKind.i64 (IntKind.wrap IntKind.i64 (i + (1 : Int)))))],
 [Bk.mk (nat_lit 28) [Seg.arr (nat_lit 5) M x] true])))
 (Tr.any Nat fun x =>
 Tr.any (List (Sh (5 : Nat))) fun x_1 =>
 Tr.hyp
 (nq + (1 : Nat) ≤ x ∧
 List.length x_1 = x ∧
 List.take (nq + (1 : Nat)) x_1 = List.take nq q ++ [Mic.mk (0 : Int) (0 : Int) (0 : Int) (0 : Int) (0 : Int) (IntKind.wrap IntKind.i64 (i + (1 : Int)))])
 (Tr.ret
 (X.nor,
 [SV.v (V1.c (Sc.rs (nat_lit 0) (nat_lit 1) eo n cap A)),
 SV.v (V1.c (Sc.sl (nat_lit 0) (nat_lit 0) (nat_lit 6) (nat_lit 0) (nq + (1 : Nat)) x)),
 SV.v (V1.c (Sc.i IntKind.i64 (IntKind.wrap IntKind.i64 (i + (1 : Int)))))],
 [Bk.mk (nat_lit 28) [Seg.arr (nat_lit 5) x x_1] true]))))))
 (Tr.ass ((1 : Nat) ≤ (1 : Nat))
 (Tr.ass (nq ≤ cq ∧ cq ≤ M ∧ nq + (1 : Nat) ≤ (65536 : Nat))
 (Tr.ite (decide (nq + (1 : Nat) ≤ cq))
 (Tr.any (List (Sh (5 : Nat))) fun x =>
 Tr.hyp
 (List.length x = M ∧
 List.take (nq + (1 : Nat)) x =
 List.take nq q ++
 [Mic.mk (X.kndN (X.nameL (Z.Ins.op (X.decI (List.getD l (eo + Int.toNat i) (0 : Int))))))
 (Z.Ins.rt (X.decI (List.getD l (eo + Int.toNat i) (0 : Int)))) (0 : Int) (0 : Int)
 (IntKind.wrap IntKind.i64 (Z.Ins.imm (X.decI (List.getD l (eo + Int.toNat i) (0 : Int))) * (65536 : Int)) % (4294967296 : Int))
 (IntKind.wrap IntKind.i64 (i + (1 : Int)))])
 (Tr.ret
 (X.nor,
 [SV.v (V1.c (Sc.rs (nat_lit 0) (nat_lit 1) eo n cap A)),
 SV.v (V1.c (Sc.sl (nat_lit 0) (nat_lit 0) (nat_lit 6) (nat_lit 0) (nq + (1 : Nat)) cq)),
 SV.v (V1.c (Sc.i IntKind.i64 (IntKind.wrap IntKind.i64 (i + (1 : Int)))))],
 [Bk.mk (nat_lit 28) [Seg.arr (nat_lit 5) M x] true])))
 (Tr.any Nat fun x =>
 Tr.any (List (Sh (5 : Nat))) fun x_1 =>
 Tr.hyp
 (nq + (1 : Nat) ≤ x ∧
 List.length x_1 = x ∧
 List.take (nq + (1 : Nat)) x_1 =
 List.take nq q ++
 [Mic.mk (X.kndN (X.nameL (Z.Ins.op (X.decI (List.getD l (eo + Int.toNat i) (0 : Int))))))
 (Z.Ins.rt (X.decI (List.getD l (eo + Int.toNat i) (0 : Int)))) (0 : Int) (0 : Int)
 (IntKind.wrap IntKind.i64 (Z.Ins.imm (X.decI (List.getD l (eo + Int.toNat i) (0 : Int))) * (65536 : Int)) % (4294967296 : Int))
 (IntKind.wrap IntKind.i64 (i + (1 : Int)))])
 (Tr.ret
 (X.nor,
 [SV.v (V1.c (Sc.rs (nat_lit 0) (nat_lit 1) eo n cap A)),
 SV.v (V1.c (Sc.sl (nat_lit 0) (nat_lit 0) (nat_lit 6) (nat_lit 0) (nq + (1 : Nat)) x)),
 SV.v (V1.c (Sc.i IntKind.i64 (IntKind.wrap IntKind.i64 (i + (1 : Int)))))],
 [Bk.mk (nat_lit 28) [Seg.arr (nat_lit 5) x x_1] true])))))))
 (Tr.ite (decide (Z.Ins.rt (X.decI (List.getD l (eo + Int.toNat i) (0 : Int))) = (0 : Int)))
 (Tr.ass ((1 : Nat) ≤ (1 : Nat))
 (Tr.ass (nq ≤ cq ∧ cq ≤ M ∧ nq + (1 : Nat) ≤ (65536 : Nat))
 (Tr.ite (decide (nq + (1 : Nat) ≤ cq))
 (Tr.any (List (Sh (5 : Nat))) fun x =>
 Tr.hyp
 (List.length x = M ∧
 List.take (nq + (1 : Nat)) x = List.take nq q ++ [Mic.mk (0 : Int) (0 : Int) (0 : Int) (0 : Int) (0 : Int) (IntKind.wrap IntKind.i64 (i + (1 : Int)))])
 (Tr.ret
 (X.nor,
 [SV.v (V1.c (Sc.rs (nat_lit 0) (nat_lit 1) eo n cap A)),
 SV.v (V1.c (Sc.sl (nat_lit 0) (nat_lit 0) (nat_lit 6) (nat_lit 0) (nq + (1 : Nat)) cq)),
 SV.v (V1.c (Sc.i IntKind.i64 (IntKind.wrap IntKind.i64 (i + (1 : Int)))))],
 [Bk.mk (nat_lit 28) [Seg.arr (nat_lit 5) M x] true])))
 (Tr.any Nat fun x =>
 Tr.any (List (Sh (5 : Nat))) fun x_1 =>
 Tr.hyp
 (nq + (1 : Nat) ≤ x ∧
 List.length x_1 = x ∧
 List.take (nq + (1 : Nat)) x_1 = List.take nq q ++ [Mic.mk (0 : Int) (0 : Int) (0 : Int) (0 : Int) (0 : Int) (IntKind.wrap IntKind.i64 (i + (1 : Int)))])
 (Tr.ret
 (X.nor,
 [SV.v (V1.c (Sc.rs (nat_lit 0) (nat_lit 1) eo n cap A)),
 SV.v (V1.c (Sc.sl (nat_lit 0) (nat_lit 0) (nat_lit 6) (nat_lit 0) (nq + (1 : Nat)) x)),
 SV.v (V1.c (Sc.i IntKind.i64 (IntKind.wrap IntKind.i64 (i + (1 : Int)))))],
 [Bk.mk (nat_lit 28) [Seg.arr (nat_lit 5) x x_1] true]))))))
 (Tr.ass ((1 : Nat) ≤ (1 : Nat))
 (Tr.ass (nq ≤ cq ∧ cq ≤ M ∧ nq + (1 : Nat) ≤ (65536 : Nat))
 (Tr.ite (decide (nq + (1 : Nat) ≤ cq))
 (Tr.any (List (Sh (5 : Nat))) fun x =>
 Tr.hyp
 (List.length x = M ∧
 List.take (nq + (1 : Nat)) x =
 List.take nq q ++
 [Mic.mk (X.kndN (X.nameL (Z.Ins.op (X.decI (List.getD l (eo + Int.toNat i) (0 : Int))))))
 (Z.Ins.rt (X.decI (List.getD l (eo + Int.toNat i) (0 : Int)))) (Z.Ins.rs (X.decI (List.getD l (eo + Int.toNat i) (0 : Int)))) (32 : Int)
 (Z.Ins.imm (X.decI (List.getD l (eo + Int.toNat i) (0 : Int))) % (4294967296 : Int)) (IntKind.wrap IntKind.i64 (i + (1 : Int)))])
 (Tr.ret
 (X.nor,
 [SV.v (V1.c (Sc.rs (nat_lit 0) (nat_lit 1) eo n cap A)),
 SV.v (V1.c (Sc.sl (nat_lit 0) (nat_lit 0) (nat_lit 6) (nat_lit 0) (nq + (1 : Nat)) cq)),
 SV.v (V1.c (Sc.i IntKind.i64 (IntKind.wrap IntKind.i64 (i + (1 : Int)))))],
 [Bk.mk (nat_lit 28) [Seg.arr (nat_lit 5) M x] true])))
 (Tr.any Nat fun x =>
 Tr.any (List (Sh (5 : Nat))) fun x_1 =>
 Tr.hyp
 (nq + (1 : Nat) ≤ x ∧
 List.length x_1 = x ∧
 List.take (nq + (1 : Nat)) x_1 =
 List.take nq q ++
 [Mic.mk (X.kndN (X.nameL (Z.Ins.op (X.decI (List.getD l (eo + Int.toNat i) (0 : Int))))))
 (Z.Ins.rt (X.decI (List.getD l (eo + Int.toNat i) (0 : Int)))) (Z.Ins.rs (X.decI (List.getD l (eo + Int.toNat i) (0 : Int)))) (32 : Int)
 (Z.Ins.imm (X.decI (List.getD l (eo + Int.toNat i) (0 : Int))) % (4294967296 : Int)) (IntKind.wrap IntKind.i64 (i + (1 : Int)))])
 (Tr.ret
 (X.nor,
 [SV.v (V1.c (Sc.rs (nat_lit 0) (nat_lit 1) eo n cap A)),
 SV.v (V1.c (Sc.sl (nat_lit 0) (nat_lit 0) (nat_lit 6) (nat_lit 0) (nq + (1 : Nat)) x)),
 SV.v (V1.c (Sc.i IntKind.i64 (IntKind.wrap IntKind.i64 (i + (1 : Int)))))],
 [Bk.mk (nat_lit 28) [Seg.arr (nat_lit 5) x x_1] true]))))))))
 (Tr.ite (decide (X.formL (Z.Ins.op (X.decI (List.getD l (eo + Int.toNat i) (0 : Int)))) = [(76 : UInt8), (85 : UInt8), (73 : UInt8)]))
 (Tr.ite (decide (Z.Ins.rt (X.decI (List.getD l (eo + Int.toNat i) (0 : Int))) = (0 : Int)))
 (Tr.ass ((1 : Nat) ≤ (1 : Nat))
 (Tr.ass (nq ≤ cq ∧ cq ≤ M ∧ nq + (1 : Nat) ≤ (65536 : Nat))
 (Tr.ite (decide (nq + (1 : Nat) ≤ cq))
 (Tr.any (List (Sh (5 : Nat))) fun x =>
 Tr.hyp
 (List.length x = M ∧
 List.take (nq + (1 : Nat)) x = List.take nq q ++ [Mic.mk (0 : Int) (0 : Int) (0 : Int) (0 : Int) (0 : Int) (IntKind.wrap IntKind.i64 (i + (1 : Int)))])
 (Tr.ret
 (X.nor,
 [SV.v (V1.c (Sc.rs (nat_lit 0) (nat_lit 1) eo n cap A)),
 SV.v (V1.c (Sc.sl (nat_lit 0) (nat_lit 0) (nat_lit 6) (nat_lit 0) (nq + (1 : Nat)) cq)),
 SV.v (V1.c (Sc.i IntKind.i64 (IntKind.wrap IntKind.i64 (i + (1 : Int)))))],
 [Bk.mk (nat_lit 28) [Seg.arr (nat_lit 5) M x] true])))
 (Tr.any Nat fun x =>
 Tr.any (List (Sh (5 : Nat))) fun x_1 =>
 Tr.hyp
 (nq + (1 : Nat) ≤ x ∧
 List.length x_1 = x ∧
 List.take (nq + (1 : Nat)) x_1 = List.take nq q ++ [Mic.mk (0 : Int) (0 : Int) (0 : Int) (0 : Int) (0 : Int) (IntKind.wrap IntKind.i64 (i + (1 : Int)))])
 (Tr.ret
 (X.nor,
 [SV.v (V1.c (Sc.rs (nat_lit 0) (nat_lit 1) eo n cap A)),
 SV.v (V1.c (Sc.sl (nat_lit 0) (nat_lit 0) (nat_lit 6) (nat_lit 0) (nq + (1 : Nat)) x)),
 SV.v (V1.c (Sc.i IntKind.i64 (IntKind.wrap IntKind.i64 (i + (1 : Int)))))],
 [Bk.mk (nat_lit 28) [Seg.arr (nat_lit 5) x x_1] true]))))))
 (Tr.ass ((1 : Nat) ≤ (1 : Nat))
 (Tr.ass (nq ≤ cq ∧ cq ≤ M ∧ nq + (1 : Nat) ≤ (65536 : Nat))
 (Tr.ite (decide (nq + (1 : Nat) ≤ cq))
 (Tr.any (List (Sh (5 : Nat))) fun x =>
 Tr.hyp
 (List.length x = M ∧
 List.take (nq + (1 : Nat)) x =
 List.take nq q ++
 [Mic.mk (X.kndN (X.nameL (Z.Ins.op (X.decI (List.getD l (eo + Int.toNat i) (0 : Int))))))
 (Z.Ins.rt (X.decI (List.getD l (eo + Int.toNat i) (0 : Int)))) (0 : Int) (0 : Int)
 (IntKind.wrap IntKind.i64 (Z.Ins.imm (X.decI (List.getD l (eo + Int.toNat i) (0 : Int))) * (65536 : Int)) % (4294967296 : Int))
 (IntKind.wrap IntKind.i64 (i + (1 : Int)))])
 (Tr.ret
 (X.nor,
 [SV.v (V1.c (Sc.rs (nat_lit 0) (nat_lit 1) eo n cap A)),
 SV.v (V1.c (Sc.sl (nat_lit 0) (nat_lit 0) (nat_lit 6) (nat_lit 0) (nq + (1 : Nat)) cq)),
 SV.v (V1.c (Sc.i IntKind.i64 (IntKind.wrap IntKind.i64 (i + (1 : Int)))))],
 [Bk.mk (nat_lit 28) [Seg.arr (nat_lit 5) M x] true])))
 (Tr.any Nat fun x =>
 Tr.any (List (Sh (5 : Nat))) fun x_1 =>
 Tr.hyp
 (nq + (1 : Nat) ≤ x ∧
 List.length x_1 = x ∧
 List.take (nq + (1 : Nat)) x_1 =
 List.take nq q ++
 [Mic.mk (X.kndN (X.nameL (Z.Ins.op (X.decI (List.getD l (eo + Int.toNat i) (0 : Int))))))
 (Z.Ins.rt (X.decI (List.getD l (eo + Int.toNat i) (0 : Int)))) (0 : Int) (0 : Int)
 (IntKind.wrap IntKind.i64 (Z.Ins.imm (X.decI (List.getD l (eo + Int.toNat i) (0 : Int))) * (65536 : Int)) % (4294967296 : Int))
 (IntKind.wrap IntKind.i64 (i + (1 : Int)))])
 (Tr.ret
 (X.nor,
 [SV.v (V1.c (Sc.rs (nat_lit 0) (nat_lit 1) eo n cap A)),
 SV.v (V1.c (Sc.sl (nat_lit 0) (nat_lit 0) (nat_lit 6) (nat_lit 0) (nq + (1 : Nat)) x)),
 SV.v (V1.c (Sc.i IntKind.i64 (IntKind.wrap IntKind.i64 (i + (1 : Int)))))],
 [Bk.mk (nat_lit 28) [Seg.arr (nat_lit 5) x x_1] true])))))))
 (Tr.ite (decide (Z.Ins.rd (X.decI (List.getD l (eo + Int.toNat i) (0 : Int))) = (0 : Int)))
 (Tr.ass ((1 : Nat) ≤ (1 : Nat))
 (Tr.ass (nq ≤ cq ∧ cq ≤ M ∧ nq + (1 : Nat) ≤ (65536 : Nat))
 (Tr.ite (decide (nq + (1 : Nat) ≤ cq))
 (Tr.any (List (Sh (5 : Nat))) fun x =>
 Tr.hyp
 (List.length x = M ∧
 List.take (nq + (1 : Nat)) x = List.take nq q ++ [Mic.mk (0 : Int) (0 : Int) (0 : Int) (0 : Int) (0 : Int) (IntKind.wrap IntKind.i64 (i + (1 : Int)))])
 (Tr.ret
 (X.nor,
 [SV.v (V1.c (Sc.rs (nat_lit 0) (nat_lit 1) eo n cap A)),
 SV.v (V1.c (Sc.sl (nat_lit 0) (nat_lit 0) (nat_lit 6) (nat_lit 0) (nq + (1 : Nat)) cq)),
 SV.v (V1.c (Sc.i IntKind.i64 (IntKind.wrap IntKind.i64 (i + (1 : Int)))))],
 [Bk.mk (nat_lit 28) [Seg.arr (nat_lit 5) M x] true])))
 (Tr.any Nat fun x =>
 Tr.any (List (Sh (5 : Nat))) fun x_1 =>
 Tr.hyp
 (nq + (1 : Nat) ≤ x ∧
 List.length x_1 = x ∧
 List.take (nq + (1 : Nat)) x_1 = List.take nq q ++ [Mic.mk (0 : Int) (0 : Int) (0 : Int) (0 : Int) (0 : Int) (IntKind.wrap IntKind.i64 (i + (1 : Int)))])
 (Tr.ret
 (X.nor,
 [SV.v (V1.c (Sc.rs (nat_lit 0) (nat_lit 1) eo n cap A)),
 SV.v (V1.c (Sc.sl (nat_lit 0) (nat_lit 0) (nat_lit 6) (nat_lit 0) (nq + (1 : Nat)) x)),
 SV.v (V1.c (Sc.i IntKind.i64 (IntKind.wrap IntKind.i64 (i + (1 : Int)))))],
 [Bk.mk (nat_lit 28) [Seg.arr (nat_lit 5) x x_1] true]))))))
 (Tr.ass ((1 : Nat) ≤ (1 : Nat))
 (Tr.ass (nq ≤ cq ∧ cq ≤ M ∧ nq + (1 : Nat) ≤ (65536 : Nat))
 (Tr.ite (decide (nq + (1 : Nat) ≤ cq))
 (Tr.any (List (Sh (5 : Nat))) fun x =>
 Tr.hyp
 (List.length x = M ∧
 List.take (nq + (1 : Nat)) x =
 List.take nq q ++
 [Mic.mk (X.kndN (X.nameL (Z.Ins.op (X.decI (List.getD l (eo + Int.toNat i) (0 : Int))))))
 (Z.Ins.rd (X.decI (List.getD l (eo + Int.toNat i) (0 : Int)))) (Z.Ins.rt (X.decI (List.getD l (eo + Int.toNat i) (0 : Int)))) (32 : Int)
 (IntKind.wrap IntKind.u32 (Z.Ins.sa (X.decI (List.getD l (eo + Int.toNat i) (0 : Int))))) (IntKind.wrap IntKind.i64 (i + (1 : Int)))])
 (Tr.ret
 (X.nor,
 [SV.v (V1.c (Sc.rs (nat_lit 0) (nat_lit 1) eo n cap A)),
 SV.v (V1.c (Sc.sl (nat_lit 0) (nat_lit 0) (nat_lit 6) (nat_lit 0) (nq + (1 : Nat)) cq)),
 SV.v (V1.c (Sc.i IntKind.i64 (IntKind.wrap IntKind.i64 (i + (1 : Int)))))],
 [Bk.mk (nat_lit 28) [Seg.arr (nat_lit 5) M x] true])))
 (Tr.any Nat fun x =>
 Tr.any (List (Sh (5 : Nat))) fun x_1 =>
 Tr.hyp
 (nq + (1 : Nat) ≤ x ∧
 List.length x_1 = x ∧
 List.take (nq + (1 : Nat)) x_1 =
 List.take nq q ++
 [Mic.mk (X.kndN (X.nameL (Z.Ins.op (X.decI (List.getD l (eo + Int.toNat i) (0 : Int))))))
 (Z.Ins.rd (X.decI (List.getD l (eo + Int.toNat i) (0 : Int)))) (Z.Ins.rt (X.decI (List.getD l (eo + Int.toNat i) (0 : Int)))) (32 : Int)
 (IntKind.wrap IntKind.u32 (Z.Ins.sa (X.decI (List.getD l (eo + Int.toNat i) (0 : Int))))) (IntKind.wrap IntKind.i64 (i + (1 : Int)))])
 (Tr.ret
 (X.nor,
 [SV.v (V1.c (Sc.rs (nat_lit 0) (nat_lit 1) eo n cap A)),
 SV.v (V1.c (Sc.sl (nat_lit 0) (nat_lit 0) (nat_lit 6) (nat_lit 0) (nq + (1 : Nat)) x)),
 SV.v (V1.c (Sc.i IntKind.i64 (IntKind.wrap IntKind.i64 (i + (1 : Int)))))],
 [Bk.mk (nat_lit 28) [Seg.arr (nat_lit 5) x x_1] true]))))))))))
 (Tr.ite (decide (X.formL (Z.Ins.op (X.decI (List.getD l (eo + Int.toNat i) (0 : Int)))) = [(83 : UInt8), (86 : UInt8)]))
 (Tr.ite
 (bif decide (X.formL (Z.Ins.op (X.decI (List.getD l (eo + Int.toNat i) (0 : Int)))) = [(73 : UInt8)]) then true
 else decide (X.formL (Z.Ins.op (X.decI (List.getD l (eo + Int.toNat i) (0 : Int)))) = [(73 : UInt8), (85 : UInt8)]))
 (Tr.ite (decide (X.formL (Z.Ins.op (X.decI (List.getD l (eo + Int.toNat i) (0 : Int)))) = [(76 : UInt8), (85 : UInt8), (73 : UInt8)]))
 (Tr.ite (decide (Z.Ins.rt (X.decI (List.getD l (eo + Int.toNat i) (0 : Int))) = (0 : Int)))
 (Tr.ass ((1 : Nat) ≤ (1 : Nat))
 (Tr.ass (nq ≤ cq ∧ cq ≤ M ∧ nq + (1 : Nat) ≤ (65536 : Nat))
 (Tr.ite (decide (nq + (1 : Nat) ≤ cq))
 (Tr.any (List (Sh (5 : Nat))) fun x =>
 Tr.hyp
 (List.length x = M ∧
 List.take (nq + (1 : Nat)) x = List.take nq q ++ [Mic.mk (0 : Int) (0 : Int) (0 : Int) (0 : Int) (0 : Int) (IntKind.wrap IntKind.i64 (i + (1 : Int)))])
 (Tr.ret
 (X.nor,
 [SV.v (V1.c (Sc.rs (nat_lit 0) (nat_lit 1) eo n cap A)),
 SV.v (V1.c (Sc.sl (nat_lit 0) (nat_lit 0) (nat_lit 6) (nat_lit 0) (nq + (1 : Nat)) cq)),
 SV.v (V1.c (Sc.i IntKind.i64 (IntKind.wrap IntKind.i64 (i + (1 : Int)))))],
 [Bk.mk (nat_lit 28) [Seg.arr (nat_lit 5) M x] true])))
 (Tr.any Nat fun x =>
 Tr.any (List (Sh (5 : Nat))) fun x_1 =>
 Tr.hyp
 (nq + (1 : Nat) ≤ x ∧
 List.length x_1 = x ∧
 List.take (nq + (1 : Nat)) x_1 = List.take nq q ++ [Mic.mk (0 : Int) (0 : Int) (0 : Int) (0 : Int) (0 : Int) (IntKind.wrap IntKind.i64 (i + (1 : Int)))])
 (Tr.ret
 (X.nor,
 [SV.v (V1.c (Sc.rs (nat_lit 0) (nat_lit 1) eo n cap A)),
 SV.v (V1.c (Sc.sl (nat_lit 0) (nat_lit 0) (nat_lit 6) (nat_lit 0) (nq + (1 : Nat)) x)),
 SV.v (V1.c (Sc.i IntKind.i64 (IntKind.wrap IntKind.i64 (i + (1 : Int)))))],
 [Bk.mk (nat_lit 28) [Seg.arr (nat_lit 5) x x_1] true]))))))
 (Tr.ass ((1 : Nat) ≤ (1 : Nat))
 (Tr.ass (nq ≤ cq ∧ cq ≤ M ∧ nq + (1 : Nat) ≤ (65536 : Nat))
 (Tr.ite (decide (nq + (1 : Nat) ≤ cq))
 (Tr.any (List (Sh (5 : Nat))) fun x =>
 Tr.hyp
 (List.length x = M ∧
 List.take (nq + (1 : Nat)) x =
 List.take nq q ++
 [Mic.mk (X.kndN (X.nameL (Z.Ins.op (X.decI (List.getD l (eo + Int.toNat i) (0 : Int))))))
 (Z.Ins.rt (X.decI (List.getD l (eo + Int.toNat i) (0 : Int)))) (0 : Int) (0 : Int)
 (IntKind.wrap IntKind.i64 (Z.Ins.imm (X.decI (List.getD l (eo + Int.toNat i) (0 : Int))) * (65536 : Int)) % (4294967296 : Int))
 (IntKind.wrap IntKind.i64 (i + (1 : Int)))])
 (Tr.ret
 (X.nor,
 [SV.v (V1.c (Sc.rs (nat_lit 0) (nat_lit 1) eo n cap A)),
 SV.v (V1.c (Sc.sl (nat_lit 0) (nat_lit 0) (nat_lit 6) (nat_lit 0) (nq + (1 : Nat)) cq)),
 SV.v (V1.c (Sc.i IntKind.i64 (IntKind.wrap IntKind.i64 (i + (1 : Int)))))],
 [Bk.mk (nat_lit 28) [Seg.arr (nat_lit 5) M x] true])))
 (Tr.any Nat fun x =>
 Tr.any (List (Sh (5 : Nat))) fun x_1 =>
 Tr.hyp
 (nq + (1 : Nat) ≤ x ∧
 List.length x_1 = x ∧
 List.take (nq + (1 : Nat)) x_1 =
 List.take nq q ++
 [Mic.mk (X.kndN (X.nameL (Z.Ins.op (X.decI (List.getD l (eo + Int.toNat i) (0 : Int))))))
 (Z.Ins.rt (X.decI (List.getD l (eo + Int.toNat i) (0 : Int)))) (0 : Int) (0 : Int)
 (IntKind.wrap IntKind.i64 (Z.Ins.imm (X.decI (List.getD l (eo + Int.toNat i) (0 : Int))) * (65536 : Int)) % (4294967296 : Int))
 (IntKind.wrap IntKind.i64 (i + (1 : Int)))])
 (Tr.ret
 (X.nor,
 [SV.v (V1.c (Sc.rs (nat_lit 0) (nat_lit 1) eo n cap A)),
 SV.v (V1.c (Sc.sl (nat_lit 0) (nat_lit 0) (nat_lit 6) (nat_lit 0) (nq + (1 : Nat)) x)),
 SV.v (V1.c (Sc.i IntKind.i64 (IntKind.wrap IntKind.i64 (i + (1 : Int)))))],
 [Bk.mk (nat_lit 28) [Seg.arr (nat_lit 5) x x_1] true])))))))
 (Tr.ite (decide (Z.Ins.rt (X.decI (List.getD l (eo + Int.toNat i) (0 : Int))) = (0 : Int)))
 (Tr.ass ((1 : Nat) ≤ (1 : Nat))
 (Tr.ass (nq ≤ cq ∧ cq ≤ M ∧ nq + (1 : Nat) ≤ (65536 : Nat))
 (Tr.ite (decide (nq + (1 : Nat) ≤ cq))
 (Tr.any (List (Sh (5 : Nat))) fun x =>
 Tr.hyp
 (List.length x = M ∧
 List.take (nq + (1 : Nat)) x = List.take nq q ++ [Mic.mk (0 : Int) (0 : Int) (0 : Int) (0 : Int) (0 : Int) (IntKind.wrap IntKind.i64 (i + (1 : Int)))])
 (Tr.ret
 (X.nor,
 [SV.v (V1.c (Sc.rs (nat_lit 0) (nat_lit 1) eo n cap A)),
 SV.v (V1.c (Sc.sl (nat_lit 0) (nat_lit 0) (nat_lit 6) (nat_lit 0) (nq + (1 : Nat)) cq)),
 SV.v (V1.c (Sc.i IntKind.i64 (IntKind.wrap IntKind.i64 (i + (1 : Int)))))],
 [Bk.mk (nat_lit 28) [Seg.arr (nat_lit 5) M x] true])))
 (Tr.any Nat fun x =>
 Tr.any (List (Sh (5 : Nat))) fun x_1 =>
 Tr.hyp
 (nq + (1 : Nat) ≤ x ∧
 List.length x_1 = x ∧
 List.take (nq + (1 : Nat)) x_1 = List.take nq q ++ [Mic.mk (0 : Int) (0 : Int) (0 : Int) (0 : Int) (0 : Int) (IntKind.wrap IntKind.i64 (i + (1 : Int)))])
 (Tr.ret
 (X.nor,
 [SV.v (V1.c (Sc.rs (nat_lit 0) (nat_lit 1) eo n cap A)),
 SV.v (V1.c (Sc.sl (nat_lit 0) (nat_lit 0) (nat_lit 6) (nat_lit 0) (nq + (1 : Nat)) x)),
 SV.v (V1.c (Sc.i IntKind.i64 (IntKind.wrap IntKind.i64 (i + (1 : Int)))))],
 [Bk.mk (nat_lit 28) [Seg.arr (nat_lit 5) x x_1] true]))))))
 (Tr.ass ((1 : Nat) ≤ (1 : Nat))
 (Tr.ass (nq ≤ cq ∧ cq ≤ M ∧ nq + (1 : Nat) ≤ (65536 : Nat))
 (Tr.ite (decide (nq + (1 : Nat) ≤ cq))
 (Tr.any (List (Sh (5 : Nat))) fun x =>
 Tr.hyp
 (List.length x = M ∧
 List.take (nq + (1 : Nat)) x =
 List.take nq q ++
 [Mic.mk (X.kndN (X.nameL (Z.Ins.op (X.decI (List.getD l (eo + Int.toNat i) (0 : Int))))))
 (Z.Ins.rt (X.decI (List.getD l (eo + Int.toNat i) (0 : Int)))) (Z.Ins.rs (X.decI (List.getD l (eo + Int.toNat i) (0 : Int)))) (32 : Int)
 (Z.Ins.imm (X.decI (List.getD l (eo + Int.toNat i) (0 : Int))) % (4294967296 : Int)) (IntKind.wrap IntKind.i64 (i + (1 : Int)))])
 (Tr.ret
 (X.nor,
 [SV.v (V1.c (Sc.rs (nat_lit 0) (nat_lit 1) eo n cap A)),
 SV.v (V1.c (Sc.sl (nat_lit 0) (nat_lit 0) (nat_lit 6) (nat_lit 0) (nq + (1 : Nat)) cq)),
 SV.v (V1.c (Sc.i IntKind.i64 (IntKind.wrap IntKind.i64 (i + (1 : Int)))))],
 [Bk.mk (nat_lit 28) [Seg.arr (nat_lit 5) M x] true])))
 (Tr.any Nat fun x =>
 Tr.any (List (Sh (5 : Nat))) fun x_1 =>
 Tr.hyp
 (nq + (1 : Nat) ≤ x ∧
 List.length x_1 = x ∧
 List.take (nq + (1 : Nat)) x_1 =
 List.take nq q ++
 [Mic.mk (X.kndN (X.nameL (Z.Ins.op (X.decI (List.getD l (eo + Int.toNat i) (0 : Int))))))
 (Z.Ins.rt (X.decI (List.getD l (eo + Int.toNat i) (0 : Int)))) (Z.Ins.rs (X.decI (List.getD l (eo + Int.toNat i) (0 : Int)))) (32 : Int)
 (Z.Ins.imm (X.decI (List.getD l (eo + Int.toNat i) (0 : Int))) % (4294967296 : Int)) (IntKind.wrap IntKind.i64 (i + (1 : Int)))])
 (Tr.ret
 (X.nor,
 [SV.v (V1.c (Sc.rs (nat_lit 0) (nat_lit 1) eo n cap A)),
 SV.v (V1.c (Sc.sl (nat_lit 0) (nat_lit 0) (nat_lit 6) (nat_lit 0) (nq + (1 : Nat)) x)),
 SV.v (V1.c (Sc.i IntKind.i64 (IntKind.wrap IntKind.i64 (i + (1 : Int)))))],
 [Bk.mk (nat_lit 28) [Seg.arr (nat_lit 5) x x_1] true]))))))))
 (Tr.ite (decide (X.formL (Z.Ins.op (X.decI (List.getD l (eo + Int.toNat i) (0 : Int)))) = [(76 : UInt8), (85 : UInt8), (73 : UInt8)]))
 (Tr.ite (decide (Z.Ins.rt (X.decI (List.getD l (eo + Int.toNat i) (0 : Int))) = (0 : Int)))
 (Tr.ass ((1 : Nat) ≤ (1 : Nat))
 (Tr.ass (nq ≤ cq ∧ cq ≤ M ∧ nq + (1 : Nat) ≤ (65536 : Nat))
 (Tr.ite (decide (nq + (1 : Nat) ≤ cq))
 (Tr.any (List (Sh (5 : Nat))) fun x =>
 Tr.hyp
 (List.length x = M ∧
 List.take (nq + (1 : Nat)) x = List.take nq q ++ [Mic.mk (0 : Int) (0 : Int) (0 : Int) (0 : Int) (0 : Int) (IntKind.wrap IntKind.i64 (i + (1 : Int)))])
 (Tr.ret
 (X.nor,
 [SV.v (V1.c (Sc.rs (nat_lit 0) (nat_lit 1) eo n cap A)),
 SV.v (V1.c (Sc.sl (nat_lit 0) (nat_lit 0) (nat_lit 6) (nat_lit 0) (nq + (1 : Nat)) cq)),
 SV.v (V1.c (Sc.i IntKind.i64 (IntKind.wrap IntKind.i64 (i + (1 : Int)))))],
 [Bk.mk (nat_lit 28) [Seg.arr (nat_lit 5) M x] true])))
 (Tr.any Nat fun x =>
 Tr.any (List (Sh (5 : Nat))) fun x_1 =>
 Tr.hyp
 (nq + (1 : Nat) ≤ x ∧
 List.length x_1 = x ∧
 List.take (nq + (1 : Nat)) x_1 = List.take nq q ++ [Mic.mk (0 : Int) (0 : Int) (0 : Int) (0 : Int) (0 : Int) (IntKind.wrap IntKind.i64 (i + (1 : Int)))])
 (Tr.ret
 (X.nor,
 [SV.v (V1.c (Sc.rs (nat_lit 0) (nat_lit 1) eo n cap A)),
 SV.v (V1.c (Sc.sl (nat_lit 0) (nat_lit 0) (nat_lit 6) (nat_lit 0) (nq + (1 : Nat)) x)),
 SV.v (V1.c (Sc.i IntKind.i64 (IntKind.wrap IntKind.i64 (i + (1 : Int)))))],
 [Bk.mk (nat_lit 28) [Seg.arr (nat_lit 5) x x_1] true]))))))
 (Tr.ass ((1 : Nat) ≤ (1 : Nat))
 (Tr.ass (nq ≤ cq ∧ cq ≤ M ∧ nq + (1 : Nat) ≤ (65536 : Nat))
 (Tr.ite (decide (nq + (1 : Nat) ≤ cq))
 (Tr.any (List (Sh (5 : Nat))) fun x =>
 Tr.hyp
 (List.length x = M ∧
 List.take (nq + (1 : Nat)) x =
 List.take nq q ++
 [Mic.mk (X.kndN (X.nameL (Z.Ins.op (X.decI (List.getD l (eo + Int.toNat i) (0 : Int))))))
 (Z.Ins.rt (X.decI (List.getD l (eo + Int.toNat i) (0 : Int)))) (0 : Int) (0 : Int)
 (IntKind.wrap IntKind.i64 (Z.Ins.imm (X.decI (List.getD l (eo + Int.toNat i) (0 : Int))) * (65536 : Int)) % (4294967296 : Int))
 (IntKind.wrap IntKind.i64 (i + (1 : Int)))])
 (Tr.ret
 (X.nor,
 [SV.v (V1.c (Sc.rs (nat_lit 0) (nat_lit 1) eo n cap A)),
 SV.v (V1.c (Sc.sl (nat_lit 0) (nat_lit 0) (nat_lit 6) (nat_lit 0) (nq + (1 : Nat)) cq)),
 SV.v (V1.c (Sc.i IntKind.i64 (IntKind.wrap IntKind.i64 (i + (1 : Int)))))],
 [Bk.mk (nat_lit 28) [Seg.arr (nat_lit 5) M x] true])))
 (Tr.any Nat fun x =>
 Tr.any (List (Sh (5 : Nat))) fun x_1 =>
 Tr.hyp
 (nq + (1 : Nat) ≤ x ∧
 List.length x_1 = x ∧
 List.take (nq + (1 : Nat)) x_1 =
 List.take nq q ++
 [Mic.mk (X.kndN (X.nameL (Z.Ins.op (X.decI (List.getD l (eo + Int.toNat i) (0 : Int))))))
 (Z.Ins.rt (X.decI (List.getD l (eo + Int.toNat i) (0 : Int)))) (0 : Int) (0 : Int)
 (IntKind.wrap IntKind.i64 (Z.Ins.imm (X.decI (List.getD l (eo + Int.toNat i) (0 : Int))) * (65536 : Int)) % (4294967296 : Int))
 (IntKind.wrap IntKind.i64 (i + (1 : Int)))])
 (Tr.ret
 (X.nor,
 [SV.v (V1.c (Sc.rs (nat_lit 0) (nat_lit 1) eo n cap A)),
 SV.v (V1.c (Sc.sl (nat_lit 0) (nat_lit 0) (nat_lit 6) (nat_lit 0) (nq + (1 : Nat)) x)),
 SV.v (V1.c (Sc.i IntKind.i64 (IntKind.wrap IntKind.i64 (i + (1 : Int)))))],
 [Bk.mk (nat_lit 28) [Seg.arr (nat_lit 5) x x_1] true])))))))
 (Tr.ite (decide (Z.Ins.rd (X.decI (List.getD l (eo + Int.toNat i) (0 : Int))) = (0 : Int)))
 (Tr.ass ((1 : Nat) ≤ (1 : Nat))
 (Tr.ass (nq ≤ cq ∧ cq ≤ M ∧ nq + (1 : Nat) ≤ (65536 : Nat))
 (Tr.ite (decide (nq + (1 : Nat) ≤ cq))
 (Tr.any (List (Sh (5 : Nat))) fun x =>
 Tr.hyp
 (List.length x = M ∧
 List.take (nq + (1 : Nat)) x = List.take nq q ++ [Mic.mk (0 : Int) (0 : Int) (0 : Int) (0 : Int) (0 : Int) (IntKind.wrap IntKind.i64 (i + (1 : Int)))])
 (Tr.ret
 (X.nor,
 [SV.v (V1.c (Sc.rs (nat_lit 0) (nat_lit 1) eo n cap A)),
 SV.v (V1.c (Sc.sl (nat_lit 0) (nat_lit 0) (nat_lit 6) (nat_lit 0) (nq + (1 : Nat)) cq)),
 SV.v (V1.c (Sc.i IntKind.i64 (IntKind.wrap IntKind.i64 (i + (1 : Int)))))],
 [Bk.mk (nat_lit 28) [Seg.arr (nat_lit 5) M x] true])))
 (Tr.any Nat fun x =>
 Tr.any (List (Sh (5 : Nat))) fun x_1 =>
 Tr.hyp
 (nq + (1 : Nat) ≤ x ∧
 List.length x_1 = x ∧
 List.take (nq + (1 : Nat)) x_1 = List.take nq q ++ [Mic.mk (0 : Int) (0 : Int) (0 : Int) (0 : Int) (0 : Int) (IntKind.wrap IntKind.i64 (i + (1 : Int)))])
 (Tr.ret
 (X.nor,
 [SV.v (V1.c (Sc.rs (nat_lit 0) (nat_lit 1) eo n cap A)),
 SV.v (V1.c (Sc.sl (nat_lit 0) (nat_lit 0) (nat_lit 6) (nat_lit 0) (nq + (1 : Nat)) x)),
 SV.v (V1.c (Sc.i IntKind.i64 (IntKind.wrap IntKind.i64 (i + (1 : Int)))))],
 [Bk.mk (nat_lit 28) [Seg.arr (nat_lit 5) x x_1] true]))))))
 (Tr.ass ((1 : Nat) ≤ (1 : Nat))
 (Tr.ass (nq ≤ cq ∧ cq ≤ M ∧ nq + (1 : Nat) ≤ (65536 : Nat))
 (Tr.ite (decide (nq + (1 : Nat) ≤ cq))
 (Tr.any (List (Sh (5 : Nat))) fun x =>
 Tr.hyp
 (List.length x = M ∧
 List.take (nq + (1 : Nat)) x =
 List.take nq q ++
 [Mic.mk (X.kndN (X.nameL (Z.Ins.op (X.decI (List.getD l (eo + Int.toNat i) (0 : Int))))))
 (Z.Ins.rd (X.decI (List.getD l (eo + Int.toNat i) (0 : Int)))) (Z.Ins.rt (X.decI (List.getD l (eo + Int.toNat i) (0 : Int))))
 (Z.Ins.rs (X.decI (List.getD l (eo + Int.toNat i) (0 : Int)))) (0 : Int) (IntKind.wrap IntKind.i64 (i + (1 : Int)))])
 (Tr.ret
 (X.nor,
 [SV.v (V1.c (Sc.rs (nat_lit 0) (nat_lit 1) eo n cap A)),
 SV.v (V1.c (Sc.sl (nat_lit 0) (nat_lit 0) (nat_lit 6) (nat_lit 0) (nq + (1 : Nat)) cq)),
 SV.v (V1.c (Sc.i IntKind.i64 (IntKind.wrap IntKind.i64 (i + (1 : Int)))))],
 [Bk.mk (nat_lit 28) [Seg.arr (nat_lit 5) M x] true])))
 (Tr.any Nat fun x =>
 Tr.any (List (Sh (5 : Nat))) fun x_1 =>
 Tr.hyp
 (nq + (1 : Nat) ≤ x ∧
 List.length x_1 = x ∧
 List.take (nq + (1 : Nat)) x_1 =
 List.take nq q ++
 [Mic.mk (X.kndN (X.nameL (Z.Ins.op (X.decI (List.getD l (eo + Int.toNat i) (0 : Int))))))
 (Z.Ins.rd (X.decI (List.getD l (eo + Int.toNat i) (0 : Int)))) (Z.Ins.rt (X.decI (List.getD l (eo + Int.toNat i) (0 : Int))))
 (Z.Ins.rs (X.decI (List.getD l (eo + Int.toNat i) (0 : Int)))) (0 : Int) (IntKind.wrap IntKind.i64 (i + (1 : Int)))])
 (Tr.ret
 (X.nor,
 [SV.v (V1.c (Sc.rs (nat_lit 0) (nat_lit 1) eo n cap A)),
 SV.v (V1.c (Sc.sl (nat_lit 0) (nat_lit 0) (nat_lit 6) (nat_lit 0) (nq + (1 : Nat)) x)),
 SV.v (V1.c (Sc.i IntKind.i64 (IntKind.wrap IntKind.i64 (i + (1 : Int)))))],
 [Bk.mk (nat_lit 28) [Seg.arr (nat_lit 5) x x_1] true])))))))))
 (Tr.ite
 (bif decide (X.formL (Z.Ins.op (X.decI (List.getD l (eo + Int.toNat i) (0 : Int)))) = [(73 : UInt8)]) then true
 else decide (X.formL (Z.Ins.op (X.decI (List.getD l (eo + Int.toNat i) (0 : Int)))) = [(73 : UInt8), (85 : UInt8)]))
 (Tr.ite (decide (X.formL (Z.Ins.op (X.decI (List.getD l (eo + Int.toNat i) (0 : Int)))) = [(76 : UInt8), (85 : UInt8), (73 : UInt8)]))
 (Tr.ite (decide (Z.Ins.rt (X.decI (List.getD l (eo + Int.toNat i) (0 : Int))) = (0 : Int)))
 (Tr.ass ((1 : Nat) ≤ (1 : Nat))
 (Tr.ass (nq ≤ cq ∧ cq ≤ M ∧ nq + (1 : Nat) ≤ (65536 : Nat))
 (Tr.ite (decide (nq + (1 : Nat) ≤ cq))
 (Tr.any (List (Sh (5 : Nat))) fun x =>
 Tr.hyp
 (List.length x = M ∧
 List.take (nq + (1 : Nat)) x = List.take nq q ++ [Mic.mk (0 : Int) (0 : Int) (0 : Int) (0 : Int) (0 : Int) (IntKind.wrap IntKind.i64 (i + (1 : Int)))])
 (Tr.ret
 (X.nor,
 [SV.v (V1.c (Sc.rs (nat_lit 0) (nat_lit 1) eo n cap A)),
 SV.v (V1.c (Sc.sl (nat_lit 0) (nat_lit 0) (nat_lit 6) (nat_lit 0) (nq + (1 : Nat)) cq)),
 SV.v (V1.c (Sc.i IntKind.i64 (IntKind.wrap IntKind.i64 (i + (1 : Int)))))],
 [Bk.mk (nat_lit 28) [Seg.arr (nat_lit 5) M x] true])))
 (Tr.any Nat fun x =>
 Tr.any (List (Sh (5 : Nat))) fun x_1 =>
 Tr.hyp
 (nq + (1 : Nat) ≤ x ∧
 List.length x_1 = x ∧
 List.take (nq + (1 : Nat)) x_1 = List.take nq q ++ [Mic.mk (0 : Int) (0 : Int) (0 : Int) (0 : Int) (0 : Int) (IntKind.wrap IntKind.i64 (i + (1 : Int)))])
 (Tr.ret
 (X.nor,
 [SV.v (V1.c (Sc.rs (nat_lit 0) (nat_lit 1) eo n cap A)),
 SV.v (V1.c (Sc.sl (nat_lit 0) (nat_lit 0) (nat_lit 6) (nat_lit 0) (nq + (1 : Nat)) x)),
 SV.v (V1.c (Sc.i IntKind.i64 (IntKind.wrap IntKind.i64 (i + (1 : Int)))))],
 [Bk.mk (nat_lit 28) [Seg.arr (nat_lit 5) x x_1] true]))))))
 (Tr.ass ((1 : Nat) ≤ (1 : Nat))
 (Tr.ass (nq ≤ cq ∧ cq ≤ M ∧ nq + (1 : Nat) ≤ (65536 : Nat))
 (Tr.ite (decide (nq + (1 : Nat) ≤ cq))
 (Tr.any (List (Sh (5 : Nat))) fun x =>
 Tr.hyp
 (List.length x = M ∧
 List.take (nq + (1 : Nat)) x =
 List.take nq q ++
 [Mic.mk (X.kndN (X.nameL (Z.Ins.op (X.decI (List.getD l (eo + Int.toNat i) (0 : Int))))))
 (Z.Ins.rt (X.decI (List.getD l (eo + Int.toNat i) (0 : Int)))) (0 : Int) (0 : Int)
 (IntKind.wrap IntKind.i64 (Z.Ins.imm (X.decI (List.getD l (eo + Int.toNat i) (0 : Int))) * (65536 : Int)) % (4294967296 : Int))
 (IntKind.wrap IntKind.i64 (i + (1 : Int)))])
 (Tr.ret
 (X.nor,
 [SV.v (V1.c (Sc.rs (nat_lit 0) (nat_lit 1) eo n cap A)),
 SV.v (V1.c (Sc.sl (nat_lit 0) (nat_lit 0) (nat_lit 6) (nat_lit 0) (nq + (1 : Nat)) cq)),
 SV.v (V1.c (Sc.i IntKind.i64 (IntKind.wrap IntKind.i64 (i + (1 : Int)))))],
 [Bk.mk (nat_lit 28) [Seg.arr (nat_lit 5) M x] true])))
 (Tr.any Nat fun x =>
 Tr.any (List (Sh (5 : Nat))) fun x_1 =>
 Tr.hyp
 (nq + (1 : Nat) ≤ x ∧
 List.length x_1 = x ∧
 List.take (nq + (1 : Nat)) x_1 =
 List.take nq q ++
 [Mic.mk (X.kndN (X.nameL (Z.Ins.op (X.decI (List.getD l (eo + Int.toNat i) (0 : Int))))))
 (Z.Ins.rt (X.decI (List.getD l (eo + Int.toNat i) (0 : Int)))) (0 : Int) (0 : Int)
 (IntKind.wrap IntKind.i64 (Z.Ins.imm (X.decI (List.getD l (eo + Int.toNat i) (0 : Int))) * (65536 : Int)) % (4294967296 : Int))
 (IntKind.wrap IntKind.i64 (i + (1 : Int)))])
 (Tr.ret
 (X.nor,
 [SV.v (V1.c (Sc.rs (nat_lit 0) (nat_lit 1) eo n cap A)),
 SV.v (V1.c (Sc.sl (nat_lit 0) (nat_lit 0) (nat_lit 6) (nat_lit 0) (nq + (1 : Nat)) x)),
 SV.v (V1.c (Sc.i IntKind.i64 (IntKind.wrap IntKind.i64 (i + (1 : Int)))))],
 [Bk.mk (nat_lit 28) [Seg.arr (nat_lit 5) x x_1] true])))))))
 (Tr.ite (decide (Z.Ins.rt (X.decI (List.getD l (eo + Int.toNat i) (0 : Int))) = (0 : Int)))
 (Tr.ass ((1 : Nat) ≤ (1 : Nat))
 (Tr.ass (nq ≤ cq ∧ cq ≤ M ∧ nq + (1 : Nat) ≤ (65536 : Nat))
 (Tr.ite (decide (nq + (1 : Nat) ≤ cq))
 (Tr.any (List (Sh (5 : Nat))) fun x =>
 Tr.hyp
 (List.length x = M ∧
 List.take (nq + (1 : Nat)) x = List.take nq q ++ [Mic.mk (0 : Int) (0 : Int) (0 : Int) (0 : Int) (0 : Int) (IntKind.wrap IntKind.i64 (i + (1 : Int)))])
 (Tr.ret
 (X.nor,
 [SV.v (V1.c (Sc.rs (nat_lit 0) (nat_lit 1) eo n cap A)),
 SV.v (V1.c (Sc.sl (nat_lit 0) (nat_lit 0) (nat_lit 6) (nat_lit 0) (nq + (1 : Nat)) cq)),
 SV.v (V1.c (Sc.i IntKind.i64 (IntKind.wrap IntKind.i64 (i + (1 : Int)))))],
 [Bk.mk (nat_lit 28) [Seg.arr (nat_lit 5) M x] true])))
 (Tr.any Nat fun x =>
 Tr.any (List (Sh (5 : Nat))) fun x_1 =>
 Tr.hyp
 (nq + (1 : Nat) ≤ x ∧
 List.length x_1 = x ∧
 List.take (nq + (1 : Nat)) x_1 = List.take nq q ++ [Mic.mk (0 : Int) (0 : Int) (0 : Int) (0 : Int) (0 : Int) (IntKind.wrap IntKind.i64 (i + (1 : Int)))])
 (Tr.ret
 (X.nor,
 [SV.v (V1.c (Sc.rs (nat_lit 0) (nat_lit 1) eo n cap A)),
 SV.v (V1.c (Sc.sl (nat_lit 0) (nat_lit 0) (nat_lit 6) (nat_lit 0) (nq + (1 : Nat)) x)),
 SV.v (V1.c (Sc.i IntKind.i64 (IntKind.wrap IntKind.i64 (i + (1 : Int)))))],
 [Bk.mk (nat_lit 28) [Seg.arr (nat_lit 5) x x_1] true]))))))
 (Tr.ass ((1 : Nat) ≤ (1 : Nat))
 (Tr.ass (nq ≤ cq ∧ cq ≤ M ∧ nq + (1 : Nat) ≤ (65536 : Nat))
 (Tr.ite (decide (nq + (1 : Nat) ≤ cq))
 (Tr.any (List (Sh (5 : Nat))) fun x =>
 Tr.hyp
 (List.length x = M ∧
 List.take (nq + (1 : Nat)) x =
 List.take nq q ++
 [Mic.mk (X.kndN (X.nameL (Z.Ins.op (X.decI (List.getD l (eo + Int.toNat i) (0 : Int))))))
 (Z.Ins.rt (X.decI (List.getD l (eo + Int.toNat i) (0 : Int)))) (Z.Ins.rs (X.decI (List.getD l (eo + Int.toNat i) (0 : Int)))) (32 : Int)
 (Z.Ins.imm (X.decI (List.getD l (eo + Int.toNat i) (0 : Int))) % (4294967296 : Int)) (IntKind.wrap IntKind.i64 (i + (1 : Int)))])
 (Tr.ret
 (X.nor,
 [SV.v (V1.c (Sc.rs (nat_lit 0) (nat_lit 1) eo n cap A)),
 SV.v (V1.c (Sc.sl (nat_lit 0) (nat_lit 0) (nat_lit 6) (nat_lit 0) (nq + (1 : Nat)) cq)),
 SV.v (V1.c (Sc.i IntKind.i64 (IntKind.wrap IntKind.i64 (i + (1 : Int)))))],
 [Bk.mk (nat_lit 28) [Seg.arr (nat_lit 5) M x] true])))
 (Tr.any Nat fun x =>
 Tr.any (List (Sh (5 : Nat))) fun x_1 =>
 Tr.hyp
 (nq + (1 : Nat) ≤ x ∧
 List.length x_1 = x ∧
 List.take (nq + (1 : Nat)) x_1 =
 List.take nq q ++
 [Mic.mk (X.kndN (X.nameL (Z.Ins.op (X.decI (List.getD l (eo + Int.toNat i) (0 : Int))))))
 (Z.Ins.rt (X.decI (List.getD l (eo + Int.toNat i) (0 : Int)))) (Z.Ins.rs (X.decI (List.getD l (eo + Int.toNat i) (0 : Int)))) (32 : Int)
 (Z.Ins.imm (X.decI (List.getD l (eo + Int.toNat i) (0 : Int))) % (4294967296 : Int)) (IntKind.wrap IntKind.i64 (i + (1 : Int)))])
 (Tr.ret
 (X.nor,
 [SV.v (V1.c (Sc.rs (nat_lit 0) (nat_lit 1) eo n cap A)),
 SV.v (V1.c (Sc.sl (nat_lit 0) (nat_lit 0) (nat_lit 6) (nat_lit 0) (nq + (1 : Nat)) x)),
 SV.v (V1.c (Sc.i IntKind.i64 (IntKind.wrap IntKind.i64 (i + (1 : Int)))))],
 [Bk.mk (nat_lit 28) [Seg.arr (nat_lit 5) x x_1] true]))))))))
 (Tr.ite (decide (X.formL (Z.Ins.op (X.decI (List.getD l (eo + Int.toNat i) (0 : Int)))) = [(76 : UInt8), (85 : UInt8), (73 : UInt8)]))
 (Tr.ite (decide (Z.Ins.rt (X.decI (List.getD l (eo + Int.toNat i) (0 : Int))) = (0 : Int)))
 (Tr.ass ((1 : Nat) ≤ (1 : Nat))
 (Tr.ass (nq ≤ cq ∧ cq ≤ M ∧ nq + (1 : Nat) ≤ (65536 : Nat))
 (Tr.ite (decide (nq + (1 : Nat) ≤ cq))
 (Tr.any (List (Sh (5 : Nat))) fun x =>
 Tr.hyp
 (List.length x = M ∧
 List.take (nq + (1 : Nat)) x = List.take nq q ++ [Mic.mk (0 : Int) (0 : Int) (0 : Int) (0 : Int) (0 : Int) (IntKind.wrap IntKind.i64 (i + (1 : Int)))])
 (Tr.ret
 (X.nor,
 [SV.v (V1.c (Sc.rs (nat_lit 0) (nat_lit 1) eo n cap A)),
 SV.v (V1.c (Sc.sl (nat_lit 0) (nat_lit 0) (nat_lit 6) (nat_lit 0) (nq + (1 : Nat)) cq)),
 SV.v (V1.c (Sc.i IntKind.i64 (IntKind.wrap IntKind.i64 (i + (1 : Int)))))],
 [Bk.mk (nat_lit 28) [Seg.arr (nat_lit 5) M x] true])))
 (Tr.any Nat fun x =>
 Tr.any (List (Sh (5 : Nat))) fun x_1 =>
 Tr.hyp
 (nq + (1 : Nat) ≤ x ∧
 List.length x_1 = x ∧
 List.take (nq + (1 : Nat)) x_1 = List.take nq q ++ [Mic.mk (0 : Int) (0 : Int) (0 : Int) (0 : Int) (0 : Int) (IntKind.wrap IntKind.i64 (i + (1 : Int)))])
 (Tr.ret
 (X.nor,
 [SV.v (V1.c (Sc.rs (nat_lit 0) (nat_lit 1) eo n cap A)),
 SV.v (V1.c (Sc.sl (nat_lit 0) (nat_lit 0) (nat_lit 6) (nat_lit 0) (nq + (1 : Nat)) x)),
 SV.v (V1.c (Sc.i IntKind.i64 (IntKind.wrap IntKind.i64 (i + (1 : Int)))))],
 [Bk.mk (nat_lit 28) [Seg.arr (nat_lit 5) x x_1] true]))))))
 (Tr.ass ((1 : Nat) ≤ (1 : Nat))
 (Tr.ass (nq ≤ cq ∧ cq ≤ M ∧ nq + (1 : Nat) ≤ (65536 : Nat))
 (Tr.ite (decide (nq + (1 : Nat) ≤ cq))
 (Tr.any (List (Sh (5 : Nat))) fun x =>
 Tr.hyp
 (List.length x = M ∧
 List.take (nq + (1 : Nat)) x =
 List.take nq q ++
 [Mic.mk (X.kndN (X.nameL (Z.Ins.op (X.decI (List.getD l (eo + Int.toNat i) (0 : Int))))))
 (Z.Ins.rt (X.decI (List.getD l (eo + Int.toNat i) (0 : Int)))) (0 : Int) (0 : Int)
 (IntKind.wrap IntKind.i64 (Z.Ins.imm (X.decI (List.getD l (eo + Int.toNat i) (0 : Int))) * (65536 : Int)) % (4294967296 : Int))
 (IntKind.wrap IntKind.i64 (i + (1 : Int)))])
 (Tr.ret
 (X.nor,
 [SV.v (V1.c (Sc.rs (nat_lit 0) (nat_lit 1) eo n cap A)),
 SV.v (V1.c (Sc.sl (nat_lit 0) (nat_lit 0) (nat_lit 6) (nat_lit 0) (nq + (1 : Nat)) cq)),
 SV.v (V1.c (Sc.i IntKind.i64 (IntKind.wrap IntKind.i64 (i + (1 : Int)))))],
 [Bk.mk (nat_lit 28) [Seg.arr (nat_lit 5) M x] true])))
 (Tr.any Nat fun x =>
 Tr.any (List (Sh (5 : Nat))) fun x_1 =>
 Tr.hyp
 (nq + (1 : Nat) ≤ x ∧
 List.length x_1 = x ∧
 List.take (nq + (1 : Nat)) x_1 =
 List.take nq q ++
 [Mic.mk (X.kndN (X.nameL (Z.Ins.op (X.decI (List.getD l (eo + Int.toNat i) (0 : Int))))))
 (Z.Ins.rt (X.decI (List.getD l (eo + Int.toNat i) (0 : Int)))) (0 : Int) (0 : Int)
 (IntKind.wrap IntKind.i64 (Z.Ins.imm (X.decI (List.getD l (eo + Int.toNat i) (0 : Int))) * (65536 : Int)) % (4294967296 : Int))
 (IntKind.wrap IntKind.i64 (i + (1 : Int)))])
 (Tr.ret
 (X.nor,
 [SV.v (V1.c (Sc.rs (nat_lit 0) (nat_lit 1) eo n cap A)),
 SV.v (V1.c (Sc.sl (nat_lit 0) (nat_lit 0) (nat_lit 6) (nat_lit 0) (nq + (1 : Nat)) x)),
 SV.v (V1.c (Sc.i IntKind.i64 (IntKind.wrap IntKind.i64 (i + (1 : Int)))))],
 [Bk.mk (nat_lit 28) [Seg.arr (nat_lit 5) x x_1] true])))))))
 (Tr.ite (decide (Z.Ins.rd (X.decI (List.getD l (eo + Int.toNat i) (0 : Int))) = (0 : Int)))
 (Tr.ass ((1 : Nat) ≤ (1 : Nat))
 (Tr.ass (nq ≤ cq ∧ cq ≤ M ∧ nq + (1 : Nat) ≤ (65536 : Nat))
 (Tr.ite (decide (nq + (1 : Nat) ≤ cq))
 (Tr.any (List (Sh (5 : Nat))) fun x =>
 Tr.hyp
 (List.length x = M ∧
 List.take (nq + (1 : Nat)) x = List.take nq q ++ [Mic.mk (0 : Int) (0 : Int) (0 : Int) (0 : Int) (0 : Int) (IntKind.wrap IntKind.i64 (i + (1 : Int)))])
 (Tr.ret
 (X.nor,
 [SV.v (V1.c (Sc.rs (nat_lit 0) (nat_lit 1) eo n cap A)),
 SV.v (V1.c (Sc.sl (nat_lit 0) (nat_lit 0) (nat_lit 6) (nat_lit 0) (nq + (1 : Nat)) cq)),
 SV.v (V1.c (Sc.i IntKind.i64 (IntKind.wrap IntKind.i64 (i + (1 : Int)))))],
 [Bk.mk (nat_lit 28) [Seg.arr (nat_lit 5) M x] true])))
 (Tr.any Nat fun x =>
 Tr.any (List (Sh (5 : Nat))) fun x_1 =>
 Tr.hyp
 (nq + (1 : Nat) ≤ x ∧
 List.length x_1 = x ∧
 List.take (nq + (1 : Nat)) x_1 = List.take nq q ++ [Mic.mk (0 : Int) (0 : Int) (0 : Int) (0 : Int) (0 : Int) (IntKind.wrap IntKind.i64 (i + (1 : Int)))])
 (Tr.ret
 (X.nor,
 [SV.v (V1.c (Sc.rs (nat_lit 0) (nat_lit 1) eo n cap A)),
 SV.v (V1.c (Sc.sl (nat_lit 0) (nat_lit 0) (nat_lit 6) (nat_lit 0) (nq + (1 : Nat)) x)),
 SV.v (V1.c (Sc.i IntKind.i64 (IntKind.wrap IntKind.i64 (i + (1 : Int)))))],
 [Bk.mk (nat_lit 28) [Seg.arr (nat_lit 5) x x_1] true]))))))
 (Tr.ass ((1 : Nat) ≤ (1 : Nat))
 (Tr.ass (nq ≤ cq ∧ cq ≤ M ∧ nq + (1 : Nat) ≤ (65536 : Nat))
 (Tr.ite (decide (nq + (1 : Nat) ≤ cq))
 (Tr.any (List (Sh (5 : Nat))) fun x =>
 Tr.hyp
 (List.length x = M ∧
 List.take (nq + (1 : Nat)) x =
 List.take nq q ++
 [Mic.mk (X.kndN (X.nameL (Z.Ins.op (X.decI (List.getD l (eo + Int.toNat i) (0 : Int))))))
 (Z.Ins.rd (X.decI (List.getD l (eo + Int.toNat i) (0 : Int)))) (Z.Ins.rs (X.decI (List.getD l (eo + Int.toNat i) (0 : Int))))
 (Z.Ins.rt (X.decI (List.getD l (eo + Int.toNat i) (0 : Int)))) (0 : Int) (IntKind.wrap IntKind.i64 (i + (1 : Int)))])
 (Tr.ret
 (X.nor,
 [SV.v (V1.c (Sc.rs (nat_lit 0) (nat_lit 1) eo n cap A)),
 SV.v (V1.c (Sc.sl (nat_lit 0) (nat_lit 0) (nat_lit 6) (nat_lit 0) (nq + (1 : Nat)) cq)),
 SV.v (V1.c (Sc.i IntKind.i64 (IntKind.wrap IntKind.i64 (i + (1 : Int)))))],
 [Bk.mk (nat_lit 28) [Seg.arr (nat_lit 5) M x] true])))
 (Tr.any Nat fun x =>
 Tr.any (List (Sh (5 : Nat))) fun x_1 =>
 Tr.hyp
 (nq + (1 : Nat) ≤ x ∧
 List.length x_1 = x ∧
 List.take (nq + (1 : Nat)) x_1 =
 List.take nq q ++
 [Mic.mk (X.kndN (X.nameL (Z.Ins.op (X.decI (List.getD l (eo + Int.toNat i) (0 : Int))))))
 (Z.Ins.rd (X.decI (List.getD l (eo + Int.toNat i) (0 : Int)))) (Z.Ins.rs (X.decI (List.getD l (eo + Int.toNat i) (0 : Int))))
 (Z.Ins.rt (X.decI (List.getD l (eo + Int.toNat i) (0 : Int)))) (0 : Int) (IntKind.wrap IntKind.i64 (i + (1 : Int)))])
 (Tr.ret
 (X.nor,
 [SV.v (V1.c (Sc.rs (nat_lit 0) (nat_lit 1) eo n cap A)),
 SV.v (V1.c (Sc.sl (nat_lit 0) (nat_lit 0) (nat_lit 6) (nat_lit 0) (nq + (1 : Nat)) x)),
 SV.v (V1.c (Sc.i IntKind.i64 (IntKind.wrap IntKind.i64 (i + (1 : Int)))))],
 [Bk.mk (nat_lit 28) [Seg.arr (nat_lit 5) x x_1] true])))))))))))))))
 (Tr.ret
 (X.ex (nat_lit 0),
 [SV.v (V1.c (Sc.rs (nat_lit 0) (nat_lit 1) eo n cap A)), SV.v (V1.c (Sc.sl (nat_lit 0) (nat_lit 0) (nat_lit 6) (nat_lit 0) nq cq)),
 SV.v (V1.c (Sc.i IntKind.i64 i))],
 [Bk.mk (nat_lit 28) [Seg.arr (nat_lit 5) M q] true]))

theorem rnd_lp_RTr (eo : Nat) (n : Nat) (cap : Nat) (A : Option Addr) (nq : Nat) (cq : Nat) (i : Int) (M : Nat) (q : List (Sh 5)) (l : List (Sh 0)) (W : List Rw) : rnd cx_zoetroperef14_Translate 121 (⟨0, l⟩ :: W) (loopC 3 (codeOf Try.f9)) [0, 3, 4] 0 (zipE [0, 3, 4] [(.v (.c (.rs 0 1 eo n cap A))), (.v (.c (.sl 0 0 6 0 nq cq))), (.v (.c (.i .i64 i)))]) [⟨28, [.arr 5 M q], true⟩] = outr_lp_RTr eo n cap A nq cq i M q l := by kernel_rfl
theorem lpp_lp_RTr {c0 : Z.Cx} {ρ0 : List Nat} (eo : Nat) (n : Nat) (cap : Nat) (A : Option Addr) (nq : Nat) (cq : Nat) (i : Int) (M : Nat) (q : List (Sh 5)) (l : List (Sh 0)) (W : List Rw) (hR : repR (⟨0, l⟩ :: W) c0.R) (hne : ρ0.length ≤ 0) {Q : Exit → Act → World → Prop} {e : Env} {H : List Bk} (hsel : canE 0 [0, 3, 4] e H = some ([(.v (.c (.rs 0 1 eo n cap A))), (.v (.c (.sl 0 0 6 0 nq cq))), (.v (.c (.i .i64 i)))], [⟨28, [.arr 5 M q], true⟩])) (h : (.ass ((i = ((0 : Nat) : Int) ∧ nq = 0 ∧ cq = 0 ∧ M = 0 ∧ isNil q) ∧ n ≤ 65536 ∧ eo + n ≤ l.length ∧ (∀ x ∈ sub l eo n, U32 x)) (.any Nat fun cq => .any (List Mic) fun q => .hyp ((trM ((sub l eo n).take 16)).length ≤ cq ∧ q.length = cq ∧ q.take (trM ((sub l eo n).take 16)).length = trM ((sub l eo n).take 16)) (.ret (.ex 0, [(3, .v (.c (.sl 0 0 6 0 (trM ((sub l eo n).take 16)).length cq)))], [⟨28, [.arr 5 cq q], true⟩]))) : Tr (X × Env × List Bk)).all (fun y => YE c0 ρ0 Q 121 (toX y.1) y.2.1 y.2.2)) : YC Try.prog c0 ρ0 Q 121 (.loop (loopC 3 (codeOf Try.f9))) e H := by
  obtain ⟨hp, h⟩ := h
  replace h := h hp
  obtain ⟨⟨rfl, rfl, rfl, rfl, rfl⟩, hn, hN, hu⟩ := hp
  have hle : eo + n ≤ l.length := by omega
  have hsl := sub_len hle
  refine YC.canon hne hsel ?_
  have key := loop_sound (P := Try.prog) (c := c0) (ρ0 := ρ0) (N := 121) (Q := Q) cx_zoetroperef14_Translate_ok hR (LpOK.no (by kernel_rfl)) [0, 3, 4] 0 hne (σ := Nat × Nat × List Mic) (body := (loopC 3 (codeOf Try.f9))) (fun s => match s with | (k, M, _) => [.v (.c (.rs 0 1 eo n cap A)), .v (.c (.sl 0 0 6 0 k M)), .v (.c (.i .i64 ((k : Int))))]) (fun s => match s with | (_, M, q) => [⟨28, [.arr 5 M q], true⟩]) (fun s => (s.1 ≤ n ∧ s.1 ≤ 16 ∧ (∀ j, j < s.1 → okW ((sub l eo n).getD j (0 : Int)) = true) ∧ s.1 ≤ s.2.1 ∧ s.2.2.length = s.2.1 ∧ s.2.2.take s.1 = micsW 0 ((sub l eo n).take s.1))) (fun s => n - s.1) (fun y => ∃ s : Nat × Nat × List Mic, (s.1 ≤ n ∧ s.1 ≤ 16 ∧ (∀ j, j < s.1 → okW ((sub l eo n).getD j (0 : Int)) = true) ∧ s.1 ≤ s.2.1 ∧ s.2.2.length = s.2.1 ∧ s.2.2.take s.1 = micsW 0 ((sub l eo n).take s.1)) ∧ (s.1 = min 16 n ∨ okW ((sub l eo n).getD s.1 (0 : Int)) = false) ∧ y = (.ex 0, (match s with | (k, M, _) => [.v (.c (.rs 0 1 eo n cap A)), .v (.c (.sl 0 0 6 0 k M)), .v (.c (.i .i64 ((k : Int))))]), (match s with | (_, M, q) => [⟨28, [.arr 5 M q], true⟩]))) ?round ?post (0, 0, []) ⟨by omega, by omega, fun j hj => absurd hj (Nat.not_lt_zero _), Nat.le_refl _, rfl, rfl⟩
  case round =>
    intro s hI
    obtain ⟨k, M, q⟩ := s
    dsimp only at hI
    have hk := hI.1
    have k16 := hI.2.1
    have hall := hI.2.2.1
    have k3 := hI.2.2.2.1
    have k4 := hI.2.2.2.2.1
    have k5 := hI.2.2.2.2.2
    clear hI
    have hi : eo + ((k : Nat) : Int).toNat = eo + k := by omega
    dsimp only
    rw [rnd_lp_RTr]
    unfold outr_lp_RTr
    have e1 : k < 16 → IntKind.i64.wrap ((k : Int) + 1) = ((k + 1 : Nat) : Int) := fun _ => Z.wI64 (by omega)
    simp only [Tr.all, hi, okR]
    refine ⟨fun hc => ?_, fun hc => Or.inr ⟨nofun, (k, M, q), ⟨hk, k16, hall, k3, k4, k5⟩, .inl ?_, rfl⟩⟩
    · have hc : k < n ∧ k < 16 := by
        simp only [Bool.cond_false_right, Bool.and_eq_true, decide_eq_true_eq] at hc
        omega
      obtain ⟨hkn, hk16⟩ := hc
      rw [e1 hk16]
      have hg := sub_getD (0 : Int) hle hkn
      have hst := mics_step (s := sub l eo n) (k := k) (by rw [hsl]; exact hkn)
      rw [hg] at hst
      have hU := sub_mem hu hle hkn (d := (0 : Int))
      refine ⟨by omega, fun _ => ⟨by omega, fun _ => ⟨hU, fun _ => ⟨fun hb => Or.inr ⟨nofun, (k, M, q), ⟨hk, k16, hall, k3, k4, k5⟩, .inr (by rw [hg]; simpa using hb), rfl⟩, fun hb => ?_⟩⟩⟩⟩
      have hg2 : okW ((sub l eo n).getD k (0 : Int)) = true := by rw [hg]; simpa using hb
      have hK := okR_knd (by rw [hg] at hg2; exact hg2)
      have him := decI_imm (l.getD (eo + k) (0 : Int))
      have hlui : -9223372036854775808 ≤ (decI (l.getD (eo + k) (0 : Int))).imm * 65536 ∧ (decI (l.getD (eo + k) (0 : Int))).imm * 65536 ≤ 9223372036854775807 := by omega
      rw [show ((k : Int) + 1) = ((k + 1 : Nat) : Int) by omega] at hst
      revert hK hst hlui
      generalize l.getD (eo + k) (0 : Int) = w
      intro hst hK hlui
      by_cases h1 : formL (decI w).op = [83, 72]
      · simp (decide := true) only [h1, hK, Z.wU32, lui_mod _ hlui, decide_true, decide_false, cond_true, cond_false, Bool.false_eq_true, Bool.true_eq_false, false_implies, true_implies, true_and, and_true, decide_eq_true_eq, decide_eq_false_iff_not, or_true, true_or, or_false, false_or]
        refine ⟨fun hd => ?_, fun hd => ?_⟩
        · have hm := fun c => mic_no (c := c) (one1 h1) hd
          exact ⟨⟨k3, Nat.le_refl _, by omega⟩, fun _ => ⟨fun hx x hy => Or.inl ⟨(k + 1, M, x), ⟨by omega, by omega, ok_step hall hg2, hx, hy.1, hst.trans (by rw [← hm]; exact (hy.2.trans (by rw [k5])).symm) |>.symm⟩, by show n - (k + 1) < n - k; omega, rfl, rfl⟩, fun _ x x1 hy => Or.inl ⟨(k + 1, x, x1), ⟨by omega, by omega, ok_step hall hg2, hy.1, hy.2.1, hst.trans (by rw [← hm]; exact (hy.2.2.trans (by rw [k5])).symm) |>.symm⟩, by show n - (k + 1) < n - k; omega, rfl, rfl⟩⟩⟩
        · have hm := fun c => mic_yes (c := c) (one1 h1) hd
          exact ⟨⟨k3, Nat.le_refl _, by omega⟩, fun _ => ⟨fun hx x hy => Or.inl ⟨(k + 1, M, x), ⟨by omega, by omega, ok_step hall hg2, hx, hy.1, hst.trans (by rw [← hm]; exact (hy.2.trans (by rw [k5])).symm) |>.symm⟩, by show n - (k + 1) < n - k; omega, rfl, rfl⟩, fun _ x x1 hy => Or.inl ⟨(k + 1, x, x1), ⟨by omega, by omega, ok_step hall hg2, hy.1, hy.2.1, hst.trans (by rw [← hm]; exact (hy.2.2.trans (by rw [k5])).symm) |>.symm⟩, by show n - (k + 1) < n - k; omega, rfl, rfl⟩⟩⟩
      · by_cases h2 : formL (decI w).op = [83, 86]
        · simp (decide := true) only [h2, hK, Z.wU32, lui_mod _ hlui, decide_true, decide_false, cond_true, cond_false, Bool.false_eq_true, Bool.true_eq_false, false_implies, true_implies, true_and, and_true, decide_eq_true_eq, decide_eq_false_iff_not, or_true, true_or, or_false, false_or]
          refine ⟨fun hd => ?_, fun hd => ?_⟩
          · have hm := fun c => mic_no (c := c) (one2 h1 h2) hd
            exact ⟨⟨k3, Nat.le_refl _, by omega⟩, fun _ => ⟨fun hx x hy => Or.inl ⟨(k + 1, M, x), ⟨by omega, by omega, ok_step hall hg2, hx, hy.1, hst.trans (by rw [← hm]; exact (hy.2.trans (by rw [k5])).symm) |>.symm⟩, by show n - (k + 1) < n - k; omega, rfl, rfl⟩, fun _ x x1 hy => Or.inl ⟨(k + 1, x, x1), ⟨by omega, by omega, ok_step hall hg2, hy.1, hy.2.1, hst.trans (by rw [← hm]; exact (hy.2.2.trans (by rw [k5])).symm) |>.symm⟩, by show n - (k + 1) < n - k; omega, rfl, rfl⟩⟩⟩
          · have hm := fun c => mic_yes (c := c) (one2 h1 h2) hd
            exact ⟨⟨k3, Nat.le_refl _, by omega⟩, fun _ => ⟨fun hx x hy => Or.inl ⟨(k + 1, M, x), ⟨by omega, by omega, ok_step hall hg2, hx, hy.1, hst.trans (by rw [← hm]; exact (hy.2.trans (by rw [k5])).symm) |>.symm⟩, by show n - (k + 1) < n - k; omega, rfl, rfl⟩, fun _ x x1 hy => Or.inl ⟨(k + 1, x, x1), ⟨by omega, by omega, ok_step hall hg2, hy.1, hy.2.1, hst.trans (by rw [← hm]; exact (hy.2.2.trans (by rw [k5])).symm) |>.symm⟩, by show n - (k + 1) < n - k; omega, rfl, rfl⟩⟩⟩
        · by_cases h3 : formL (decI w).op = [73] ∨ formL (decI w).op = [73, 85]
          · have hn4 : ¬ formL (decI w).op = [76, 85, 73] := fun e => by rcases h3 with h3 | h3 <;> (rw [e] at h3; exact absurd h3 (by decide))
            have hb : (bif decide (formL (decI w).op = [73]) then true else decide (formL (decI w).op = [73, 85])) = true := by rcases h3 with h3 | h3 <;> rw [h3] <;> rfl
            simp (decide := true) only [h1, h2, hb, hn4, hK, Z.wU32, lui_mod _ hlui, decide_true, decide_false, cond_true, cond_false, Bool.false_eq_true, Bool.true_eq_false, false_implies, true_implies, true_and, and_true, decide_eq_true_eq, decide_eq_false_iff_not, or_true, true_or, or_false, false_or]
            refine ⟨fun hd => ?_, fun hd => ?_⟩
            · have hm := fun c => mic_no (c := c) (one3 h1 h2 h3) hd
              exact ⟨⟨k3, Nat.le_refl _, by omega⟩, fun _ => ⟨fun hx x hy => Or.inl ⟨(k + 1, M, x), ⟨by omega, by omega, ok_step hall hg2, hx, hy.1, hst.trans (by rw [← hm]; exact (hy.2.trans (by rw [k5])).symm) |>.symm⟩, by show n - (k + 1) < n - k; omega, rfl, rfl⟩, fun _ x x1 hy => Or.inl ⟨(k + 1, x, x1), ⟨by omega, by omega, ok_step hall hg2, hy.1, hy.2.1, hst.trans (by rw [← hm]; exact (hy.2.2.trans (by rw [k5])).symm) |>.symm⟩, by show n - (k + 1) < n - k; omega, rfl, rfl⟩⟩⟩
            · have hm := fun c => mic_yes (c := c) (one3 h1 h2 h3) hd
              exact ⟨⟨k3, Nat.le_refl _, by omega⟩, fun _ => ⟨fun hx x hy => Or.inl ⟨(k + 1, M, x), ⟨by omega, by omega, ok_step hall hg2, hx, hy.1, hst.trans (by rw [← hm]; exact (hy.2.trans (by rw [k5])).symm) |>.symm⟩, by show n - (k + 1) < n - k; omega, rfl, rfl⟩, fun _ x x1 hy => Or.inl ⟨(k + 1, x, x1), ⟨by omega, by omega, ok_step hall hg2, hy.1, hy.2.1, hst.trans (by rw [← hm]; exact (hy.2.2.trans (by rw [k5])).symm) |>.symm⟩, by show n - (k + 1) < n - k; omega, rfl, rfl⟩⟩⟩
          · have hn1 : ¬ formL (decI w).op = [73] := fun e => h3 (.inl e)
            have hn2 : ¬ formL (decI w).op = [73, 85] := fun e => h3 (.inr e)
            by_cases h4 : formL (decI w).op = [76, 85, 73]
            · simp (decide := true) only [h4, hK, Z.wU32, lui_mod _ hlui, decide_true, decide_false, cond_true, cond_false, Bool.false_eq_true, Bool.true_eq_false, false_implies, true_implies, true_and, and_true, decide_eq_true_eq, decide_eq_false_iff_not, or_true, true_or, or_false, false_or]
              refine ⟨fun hd => ?_, fun hd => ?_⟩
              · have hm := fun c => mic_no (c := c) (one4 h1 h2 h3 h4) hd
                exact ⟨⟨k3, Nat.le_refl _, by omega⟩, fun _ => ⟨fun hx x hy => Or.inl ⟨(k + 1, M, x), ⟨by omega, by omega, ok_step hall hg2, hx, hy.1, hst.trans (by rw [← hm]; exact (hy.2.trans (by rw [k5])).symm) |>.symm⟩, by show n - (k + 1) < n - k; omega, rfl, rfl⟩, fun _ x x1 hy => Or.inl ⟨(k + 1, x, x1), ⟨by omega, by omega, ok_step hall hg2, hy.1, hy.2.1, hst.trans (by rw [← hm]; exact (hy.2.2.trans (by rw [k5])).symm) |>.symm⟩, by show n - (k + 1) < n - k; omega, rfl, rfl⟩⟩⟩
              · have hm := fun c => mic_yes (c := c) (one4 h1 h2 h3 h4) hd
                exact ⟨⟨k3, Nat.le_refl _, by omega⟩, fun _ => ⟨fun hx x hy => Or.inl ⟨(k + 1, M, x), ⟨by omega, by omega, ok_step hall hg2, hx, hy.1, hst.trans (by rw [← hm]; exact (hy.2.trans (by rw [k5])).symm) |>.symm⟩, by show n - (k + 1) < n - k; omega, rfl, rfl⟩, fun _ x x1 hy => Or.inl ⟨(k + 1, x, x1), ⟨by omega, by omega, ok_step hall hg2, hy.1, hy.2.1, hst.trans (by rw [← hm]; exact (hy.2.2.trans (by rw [k5])).symm) |>.symm⟩, by show n - (k + 1) < n - k; omega, rfl, rfl⟩⟩⟩
            · simp (decide := true) only [h1, h2, hn1, hn2, h4, hK, Z.wU32, lui_mod _ hlui, decide_true, decide_false, cond_true, cond_false, Bool.false_eq_true, Bool.true_eq_false, false_implies, true_implies, true_and, and_true, decide_eq_true_eq, decide_eq_false_iff_not, or_true, true_or, or_false, false_or]
              refine ⟨fun hd => ?_, fun hd => ?_⟩
              · have hm := fun c => mic_no (c := c) (one5 h1 h2 h3 h4) hd
                exact ⟨⟨k3, Nat.le_refl _, by omega⟩, fun _ => ⟨fun hx x hy => Or.inl ⟨(k + 1, M, x), ⟨by omega, by omega, ok_step hall hg2, hx, hy.1, hst.trans (by rw [← hm]; exact (hy.2.trans (by rw [k5])).symm) |>.symm⟩, by show n - (k + 1) < n - k; omega, rfl, rfl⟩, fun _ x x1 hy => Or.inl ⟨(k + 1, x, x1), ⟨by omega, by omega, ok_step hall hg2, hy.1, hy.2.1, hst.trans (by rw [← hm]; exact (hy.2.2.trans (by rw [k5])).symm) |>.symm⟩, by show n - (k + 1) < n - k; omega, rfl, rfl⟩⟩⟩
              · have hm := fun c => mic_yes (c := c) (one5 h1 h2 h3 h4) hd
                exact ⟨⟨k3, Nat.le_refl _, by omega⟩, fun _ => ⟨fun hx x hy => Or.inl ⟨(k + 1, M, x), ⟨by omega, by omega, ok_step hall hg2, hx, hy.1, hst.trans (by rw [← hm]; exact (hy.2.trans (by rw [k5])).symm) |>.symm⟩, by show n - (k + 1) < n - k; omega, rfl, rfl⟩, fun _ x x1 hy => Or.inl ⟨(k + 1, x, x1), ⟨by omega, by omega, ok_step hall hg2, hy.1, hy.2.1, hst.trans (by rw [← hm]; exact (hy.2.2.trans (by rw [k5])).symm) |>.symm⟩, by show n - (k + 1) < n - k; omega, rfl, rfl⟩⟩⟩
    · simp only [Bool.cond_false_right, Bool.and_eq_false_iff, decide_eq_false_iff_not] at hc
      show k = min 16 n
      omega
  case post =>
    intro y hy hp
    obtain ⟨⟨k, M, q⟩, ⟨hk, k16, hall, k3, k4, k5⟩, hend, rfl⟩ := hp
    dsimp only at hk k16 hall k3 k4 k5 hend
    have hgt : ∀ j, j < 16 → ((sub l eo n).take 16).getD j (0 : Int) = (sub l eo n).getD j (0 : Int) := fun j hj => by rw [List.getD_eq_getElem?_getD, List.getD_eq_getElem?_getD, List.getElem?_take_of_lt hj]
    have hlt : ((sub l eo n).take 16).length = min 16 n := by rw [List.length_take, hsl]
    obtain ⟨e1, e2⟩ := trM_len (s := (sub l eo n).take 16) (k := k) (fun j hj => by rw [hgt j (by omega)]; exact hall j hj) (by rw [hlt]; omega) (by
      rw [hlt]
      by_cases h16 : k = 16
      · exact .inl (by omega)
      · rcases hend with he | he
        · exact .inl he
        · exact .inr (by rw [hgt k (by omega)]; exact he))
    rw [List.take_take, Nat.min_eq_left k16] at e2
    rw [e1, e2] at h
    exact YE.weaken (Sub.cons rfl Sub.nil) (h M q ⟨k3, k4, k5⟩)
  exact key
theorem lpc_lp_RTr (c : Z.Cx) (ρ0 : List Nat) (W : List Rw) (hR : repR W c.R) (hne : ρ0.length ≤ 0) : ∀ Q e H, (lp_RTr e H W).all (fun y => YE c ρ0 Q 121 (toX y.1) y.2.1 y.2.2) → YC Try.prog c ρ0 Q 121 (.loop (loopC 3 (codeOf Try.f9))) e H := by
  intro Q e H h
  unfold lp_RTr at h
  (try simp only at h)
  split at h
  · rename_i heq
    exact lpp_lp_RTr _ _ _ _ _ _ _ _ _ _ _ hR hne (by assumption) h
  · exact h.elim
noncomputable def out_zoetroperef14_Translate (eo : Nat) (n : Nat) (cap : Nat) (A : Option Addr) (l : List (Sh 0)) : Tr (SV × List Bk) :=
Tr.ass
 (((0 : Int) = (↑(0 : Nat) : Int) ∧ (0 : Nat) = (0 : Nat) ∧ (0 : Nat) = (0 : Nat) ∧ (0 : Nat) = (0 : Nat) ∧ X.isNil []) ∧
 n ≤ (65536 : Nat) ∧ eo + n ≤ List.length l ∧ ∀ (x : Sh (0 : Nat)), x ∈ X.sub l eo n → Z.U32 x)
 (Tr.any Nat fun x =>
 Tr.any (List Mic) fun x_1 =>
 Tr.hyp
 (List.length (X.trM (List.take (16 : Nat) (X.sub l eo n))) ≤ x ∧
 List.length x_1 = x ∧ List.take (List.length (X.trM (List.take (16 : Nat) (X.sub l eo n)))) x_1 = X.trM (List.take (16 : Nat) (X.sub l eo n)))
 (Tr.ret
 (SV.v (V1.c (Sc.sl (nat_lit 0) (nat_lit 0) (nat_lit 6) (nat_lit 0) (List.length (X.trM (List.take (16 : Nat) (X.sub l eo n)))) x)),
 [Bk.mk (nat_lit 28) [Seg.arr (nat_lit 5) x x_1] true])))

theorem run_zoetroperef14_Translate (eo : Nat) (n : Nat) (cap : Nat) (A : Option Addr) (l : List (Sh 0)) (W : List Rw) : runF cx_zoetroperef14_Translate 121 [.tmp 2] (codeOf Try.f9) [(.v (.c (.rs 0 1 eo n cap A)))] [] (⟨0, l⟩ :: W) = out_zoetroperef14_Translate eo n cap A l := by kernel_rfl
theorem pf_zoetroperef14_Translate (eo : Nat) (n : Nat) (cap : Nat) (A : Option Addr) (l : List (Sh 0)) (K : SV × List Bk → Prop) (h : (.ass (n ≤ 65536 ∧ eo + n ≤ l.length ∧ (∀ x ∈ sub l eo n, U32 x)) (.any Nat fun cq => .any (List Mic) fun q => .hyp ((trM ((sub l eo n).take 16)).length ≤ cq ∧ q.length = cq ∧ q.take (trM ((sub l eo n).take 16)).length = trM ((sub l eo n).take 16)) (.ret (.v (.c (.sl 0 0 6 0 (trM ((sub l eo n).take 16)).length cq)), [⟨28, [.arr 5 cq q], true⟩]))) : Tr (SV × List Bk)).all K) : (out_zoetroperef14_Translate eo n cap A l).all K := by
  obtain ⟨hp, h⟩ := h
  replace h := h hp
  unfold out_zoetroperef14_Translate
  simp only [Tr.all]
  exact ⟨⟨⟨by simp, trivial, trivial, trivial, rfl⟩, hp⟩, fun _ => h⟩
noncomputable def con_zoetroperef14_Translate : Con := ⟨false, fun args H W => match args, H, W with
  | [(.v (.c (.rs 0 1 eo n cap A)))], [], ⟨0, l⟩ :: W => .ass (n ≤ 65536 ∧ eo + n ≤ l.length ∧ (∀ x ∈ sub l eo n, U32 x)) (.any Nat fun cq => .any (List Mic) fun q => .hyp ((trM ((sub l eo n).take 16)).length ≤ cq ∧ q.length = cq ∧ q.take (trM ((sub l eo n).take 16)).length = trM ((sub l eo n).take 16)) (.ret (.v (.c (.sl 0 0 6 0 (trM ((sub l eo n).take 16)).length cq)), [⟨28, [.arr 5 cq q], true⟩])))
  | _, _, _ => .stuck 900⟩
theorem lpok_zoetroperef14_Translate (c : Z.Cx) (ρ0 : List Nat) (W : List Rw) (hR : repR W c.R) (hne : ρ0.length ≤ 0) : LpOK Try.prog cx_zoetroperef14_Translate c ρ0 121 W (codeOf Try.f9) := LpOK.all (ls := [((loopC 3 (codeOf Try.f9)), lp_RTr)]) (by kernel_rfl) ⟨⟨(by kernel_rfl), lpc_lp_RTr c ρ0 W hR hne⟩, trivial⟩
theorem ok_zoetroperef14_Translate : ConOK Try.prog 9 con_zoetroperef14_Translate := con_ok (code := (codeOf Try.f9)) (N := 121) (rs := [.tmp 2]) cx_zoetroperef14_Translate_ok 0 Try.func9 rfl rfl rfl lpok_zoetroperef14_Translate (by
  intro args H W K h hro
  unfold con_zoetroperef14_Translate at h
  simp only at h
  split at h
  · refine ⟨rfl, ?_⟩
    rw [run_zoetroperef14_Translate]
    exact pf_zoetroperef14_Translate _ _ _ _ _ K h
  · exact h.elim)
end Go.Y
