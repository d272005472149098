/- PRINTED by wip/tools/ybuild.py: contracts of zoetroperef04.Decode. -/
import Derived.Test.YtfckbimkdjcncaaYTyA
import Derived.Test.YtfckbimkdjcncaaG6
import Derived.Test.YtfckbimkdjcncaaYA00
import Derived.Test.YtfckbimkdjcncaaYA01
import Derived.Test.YtfckbimkdjcncaaYA02
import Derived.Test.YtfckbimkdjcncaaYA03
import Derived.Test.YtfckbimkdjcncaaYA04
import Derived.Test.YtfckbimkdjcncaaYA05
import Derived.Test.YtfckbimkdjcncaaYA06
import Derived.Test.YtfckbimkdjcncaaYA07
import Derived.Test.YtfckbimkdjcncaaYA08
import Derived.Test.YtfckbimkdjcncaaYA09
import Derived.Test.YtfckbimkdjcncaaYA10
import Derived.Test.YtfckbimkdjcncaaYA11
import Derived.Test.YtfckbimkdjcncaaYA12
import Derived.Test.YtfckbimkdjcncaaYA13
import Derived.Test.YtfckbimkdjcncaaYA14
set_option maxRecDepth 100000
set_option linter.unusedSimpArgs false
set_option linter.unusedVariables false
namespace Go.Y
open Go.Proofs Go.X
open Go.Z (U32 Regs rg kindOf lessOf shiftOf fillOf sg bitAt withBit bnor bor band bxor b01 bitsOf)
noncomputable def lp_RDec : LpT := fun e H W => match canE 0 [0, 2, 3, 4, 5, 6, 7, 8, 9, 10, 11] e H, W with
  | some ([(.v (.c (.i .u32 w))), (.v (.c (.p 0 0))), (.v (.c (.i .i64 z))), (.v (.c (.i .i64 n))), (.v (.c (.i .i64 rs))), (.v (.c (.i .i64 rt))), (.v (.c (.i .i64 rd))), (.v (.c (.i .i64 sa))), (.v (.c (.i .i64 im))), (.v (.c (.i .i64 sg))), (.v (.c (.i .i64 i)))], [⟨42, [.one (.i .i64 a), .one (.i .i64 b), .one (.i .i64 c), .one (.i .i64 d), .one (.i .i64 x), .one (.i .i64 f)], true⟩]), W => .ass ((z = 0 ∧ w = n ∧ rs = (w / 2097152 % 32) ∧ rt = (w / 65536 % 32) ∧ rd = (w / 2048 % 32) ∧ sa = (w / 64 % 32) ∧ im = (w % 65536) ∧ sg = (Z.sign16 (w % 65536)) ∧ i = ((0 : Nat) : Int)) ∧ U32 w) (.ite (decB w) (.ret (.ret, [(2, .v (.c (.p 0 0))), (3, .v (.c (.i .i64 (0))))], [⟨42, [.one (.i .i64 (decI w).op), .one (.i .i64 (decI w).rs), .one (.i .i64 (decI w).rt), .one (.i .i64 (decI w).rd), .one (.i .i64 (decI w).sa), .one (.i .i64 (decI w).imm)], true⟩])) (.ret (.ex 0, [(2, .v (.c (.p 0 0)))], [⟨42, [.one (.i .i64 a), .one (.i .i64 b), .one (.i .i64 c), .one (.i .i64 d), .one (.i .i64 x), .one (.i .i64 f)], true⟩])))
  | _, _ => .stuck 901
noncomputable def cx_zoetroperef04_Decode : Ctx := mkCtx tys eqs [(21, con_zoetroperef04_At), (37, con_zoetroperef04_Encode)] [(8, lp_RDec)]
theorem cx_zoetroperef04_Decode_ok : CtxOK Try.prog cx_zoetroperef04_Decode := mkCtx_ok _ mixed tys_ok eqs_ok ⟨⟨ok_zoetroperef04_At, Try.call21⟩, ⟨⟨ok_zoetroperef04_Encode, Try.call37⟩, trivial⟩⟩
noncomputable def outr_lp_RDec (w : Int) (z : Int) (n : Int) (rs : Int) (rt : Int) (rd : Int) (sa : Int) (im : Int) (sg : Int) (i : Int) (a : Int) (b : Int) (c : Int) (d : Int) (x : Int) (f : Int) : Tr (X × List SV × List Bk) :=
Tr.ite (decide (i < (69 : Int)))
 (Tr.ass ((67108864 : Int) ≠ (0 : Int))
 (Tr.ite (!decide (X.majO i = IntKind.wrap IntKind.i64 (Int.tdiv n (67108864 : Int))))
 (Tr.ret
 (X.nor,
 [SV.v (V1.c (Sc.i IntKind.u32 w)), SV.v (V1.c (Sc.p (nat_lit 0) (nat_lit 0))), SV.v (V1.c (Sc.i IntKind.i64 z)),
 SV.v (V1.c (Sc.i IntKind.i64 n)), SV.v (V1.c (Sc.i IntKind.i64 rs)), SV.v (V1.c (Sc.i IntKind.i64 rt)),
 SV.v (V1.c (Sc.i IntKind.i64 rd)), SV.v (V1.c (Sc.i IntKind.i64 sa)), SV.v (V1.c (Sc.i IntKind.i64 im)),
 SV.v (V1.c (Sc.i IntKind.i64 sg)), SV.v (V1.c (Sc.i IntKind.i64 (IntKind.wrap IntKind.i64 (i + (1 : Int)))))],
 [Bk.mk (nat_lit 42)
 [Seg.one (Sc.i IntKind.i64 a), Seg.one (Sc.i IntKind.i64 b), Seg.one (Sc.i IntKind.i64 c), Seg.one (Sc.i IntKind.i64 d),
 Seg.one (Sc.i IntKind.i64 x), Seg.one (Sc.i IntKind.i64 f)]
 true]))
 (Tr.ite (decide (X.formL i = [(83 : UInt8), (72 : UInt8)]))
 (Tr.ass (((0 : Int) ≤ i ∧ i < (69 : Int)) ∧ ∃ w, Z.U32 w ∧ Z.Ins.mk i (0 : Int) rt rd sa (0 : Int) = Z.takeOf (X.fO i) i w)
 (Tr.ite
 (bif decide ((0 : Int) = (0 : Int)) then decide (Z.Lay.word (Z.layOf (X.fO i) (X.minO i) (Z.Ins.mk i (0 : Int) rt rd sa (0 : Int))) (X.majO i) = w)
 else false)
 (Tr.ret
 (X.ret,
 [SV.v (V1.c (Sc.i IntKind.u32 w)), SV.v (V1.c (Sc.p (nat_lit 0) (nat_lit 0))), SV.v (V1.c (Sc.i IntKind.i64 (0 : Int))),
 SV.v (V1.c (Sc.i IntKind.i64 n)), SV.v (V1.c (Sc.i IntKind.i64 rs)), SV.v (V1.c (Sc.i IntKind.i64 rt)),
 SV.v (V1.c (Sc.i IntKind.i64 rd)), SV.v (V1.c (Sc.i IntKind.i64 sa)), SV.v (V1.c (Sc.i IntKind.i64 im)),
 SV.v (V1.c (Sc.i IntKind.i64 sg)), SV.v (V1.c (Sc.i IntKind.i64 i))],
 [Bk.mk (nat_lit 42)
 [Seg.one (Sc.i IntKind.i64 i), Seg.one (Sc.i IntKind.i64 (0 : Int)), Seg.one (Sc.i IntKind.i64 rt),
 Seg.one (Sc.i IntKind.i64 rd), Seg.one (Sc.i IntKind.i64 sa), Seg.one (Sc.i IntKind.i64 (0 : Int))]
 true]))
 (Tr.ret
 (X.nor,
 [SV.v (V1.c (Sc.i IntKind.u32 w)), SV.v (V1.c (Sc.p (nat_lit 0) (nat_lit 0))), SV.v (V1.c (Sc.i IntKind.i64 z)),
 SV.v (V1.c (Sc.i IntKind.i64 n)), SV.v (V1.c (Sc.i IntKind.i64 rs)), SV.v (V1.c (Sc.i IntKind.i64 rt)),
 SV.v (V1.c (Sc.i IntKind.i64 rd)), SV.v (V1.c (Sc.i IntKind.i64 sa)), SV.v (V1.c (Sc.i IntKind.i64 im)),
 SV.v (V1.c (Sc.i IntKind.i64 sg)), SV.v (V1.c (Sc.i IntKind.i64 (IntKind.wrap IntKind.i64 (i + (1 : Int)))))],
 [Bk.mk (nat_lit 42)
 [Seg.one (Sc.i IntKind.i64 a), Seg.one (Sc.i IntKind.i64 b), Seg.one (Sc.i IntKind.i64 c), Seg.one (Sc.i IntKind.i64 d),
 Seg.one (Sc.i IntKind.i64 x), Seg.one (Sc.i IntKind.i64 f)]
 true]))))
 (Tr.ite (bif decide (X.formL i = [(83 : UInt8), (86 : UInt8)]) then true else decide (X.formL i = [(82 : UInt8)]))
 (Tr.ass (((0 : Int) ≤ i ∧ i < (69 : Int)) ∧ ∃ w, Z.U32 w ∧ Z.Ins.mk i rs rt rd (0 : Int) (0 : Int) = Z.takeOf (X.fO i) i w)
 (Tr.ite
 (bif decide ((0 : Int) = (0 : Int)) then decide (Z.Lay.word (Z.layOf (X.fO i) (X.minO i) (Z.Ins.mk i rs rt rd (0 : Int) (0 : Int))) (X.majO i) = w)
 else false)
 (Tr.ret
 (X.ret,
 [SV.v (V1.c (Sc.i IntKind.u32 w)), SV.v (V1.c (Sc.p (nat_lit 0) (nat_lit 0))), SV.v (V1.c (Sc.i IntKind.i64 (0 : Int))),
 SV.v (V1.c (Sc.i IntKind.i64 n)), SV.v (V1.c (Sc.i IntKind.i64 rs)), SV.v (V1.c (Sc.i IntKind.i64 rt)),
 SV.v (V1.c (Sc.i IntKind.i64 rd)), SV.v (V1.c (Sc.i IntKind.i64 sa)), SV.v (V1.c (Sc.i IntKind.i64 im)),
 SV.v (V1.c (Sc.i IntKind.i64 sg)), SV.v (V1.c (Sc.i IntKind.i64 i))],
 [Bk.mk (nat_lit 42)
 [Seg.one (Sc.i IntKind.i64 i), Seg.one (Sc.i IntKind.i64 rs), Seg.one (Sc.i IntKind.i64 rt), Seg.one (Sc.i IntKind.i64 rd),
 Seg.one (Sc.i IntKind.i64 (0 : Int)), Seg.one (Sc.i IntKind.i64 (0 : Int))]
 true]))
 (Tr.ret
 (X.nor,
 [SV.v (V1.c (Sc.i IntKind.u32 w)), SV.v (V1.c (Sc.p (nat_lit 0) (nat_lit 0))), SV.v (V1.c (Sc.i IntKind.i64 z)),
 SV.v (V1.c (Sc.i IntKind.i64 n)), SV.v (V1.c (Sc.i IntKind.i64 rs)), SV.v (V1.c (Sc.i IntKind.i64 rt)),
 SV.v (V1.c (Sc.i IntKind.i64 rd)), SV.v (V1.c (Sc.i IntKind.i64 sa)), SV.v (V1.c (Sc.i IntKind.i64 im)),
 SV.v (V1.c (Sc.i IntKind.i64 sg)), SV.v (V1.c (Sc.i IntKind.i64 (IntKind.wrap IntKind.i64 (i + (1 : Int)))))],
 [Bk.mk (nat_lit 42)
 [Seg.one (Sc.i IntKind.i64 a), Seg.one (Sc.i IntKind.i64 b), Seg.one (Sc.i IntKind.i64 c), Seg.one (Sc.i IntKind.i64 d),
 Seg.one (Sc.i IntKind.i64 x), Seg.one (Sc.i IntKind.i64 f)]
 true]))))
 (Tr.ite (bif decide (X.formL i = [(74 : UInt8), (82 : UInt8)]) then true else decide (X.formL i = [(77 : UInt8), (84 : UInt8)]))
 (Tr.ass (((0 : Int) ≤ i ∧ i < (69 : Int)) ∧ ∃ w, Z.U32 w ∧ Z.Ins.mk i rs (0 : Int) (0 : Int) (0 : Int) (0 : Int) = Z.takeOf (X.fO i) i w)
 (Tr.ite
 (bif decide ((0 : Int) = (0 : Int)) then
 decide (Z.Lay.word (Z.layOf (X.fO i) (X.minO i) (Z.Ins.mk i rs (0 : Int) (0 : Int) (0 : Int) (0 : Int))) (X.majO i) = w)
 else false)
 (Tr.ret
 (X.ret,
 [SV.v (V1.c (Sc.i IntKind.u32 w)), SV.v (V1.c (Sc.p (nat_lit 0) (nat_lit 0))), SV.v (V1.c (Sc.i IntKind.i64 (0 : Int))),
 SV.v (V1.c (Sc.i IntKind.i64 n)), SV.v (V1.c (Sc.i IntKind.i64 rs)), SV.v (V1.c (Sc.i IntKind.i64 rt)),
 SV.v (V1.c (Sc.i IntKind.i64 rd)), SV.v (V1.c (Sc.i IntKind.i64 sa)), SV.v (V1.c (Sc.i IntKind.i64 im)),
 SV.v (V1.c (Sc.i IntKind.i64 sg)), SV.v (V1.c (Sc.i IntKind.i64 i))],
 [Bk.mk (nat_lit 42)
 [Seg.one (Sc.i IntKind.i64 i), Seg.one (Sc.i IntKind.i64 rs), Seg.one (Sc.i IntKind.i64 (0 : Int)),
 Seg.one (Sc.i IntKind.i64 (0 : Int)), Seg.one (Sc.i IntKind.i64 (0 : Int)), Seg.one (Sc.i IntKind.i64 (0 : Int))]
 true]))
 (Tr.ret
 (X.nor,
 [SV.v (V1.c (Sc.i IntKind.u32 w)), SV.v (V1.c (Sc.p (nat_lit 0) (nat_lit 0))), SV.v (V1.c (Sc.i IntKind.i64 z)),
 SV.v (V1.c (Sc.i IntKind.i64 n)), SV.v (V1.c (Sc.i IntKind.i64 rs)), SV.v (V1.c (Sc.i IntKind.i64 rt)),
 SV.v (V1.c (Sc.i IntKind.i64 rd)), SV.v (V1.c (Sc.i IntKind.i64 sa)), SV.v (V1.c (Sc.i IntKind.i64 im)),
 SV.v (V1.c (Sc.i IntKind.i64 sg)), SV.v (V1.c (Sc.i IntKind.i64 (IntKind.wrap IntKind.i64 (i + (1 : Int)))))],
 [Bk.mk (nat_lit 42)
 [Seg.one (Sc.i IntKind.i64 a), Seg.one (Sc.i IntKind.i64 b), Seg.one (Sc.i IntKind.i64 c), Seg.one (Sc.i IntKind.i64 d),
 Seg.one (Sc.i IntKind.i64 x), Seg.one (Sc.i IntKind.i64 f)]
 true]))))
 (Tr.ite
 (bif decide (X.formL i = [(74 : UInt8), (65 : UInt8), (76 : UInt8), (82 : UInt8)]) then true else decide (X.formL i = [(67 : UInt8), (76 : UInt8)]))
 (Tr.ass (((0 : Int) ≤ i ∧ i < (69 : Int)) ∧ ∃ w, Z.U32 w ∧ Z.Ins.mk i rs (0 : Int) rd (0 : Int) (0 : Int) = Z.takeOf (X.fO i) i w)
 (Tr.ite
 (bif decide ((0 : Int) = (0 : Int)) then
 decide (Z.Lay.word (Z.layOf (X.fO i) (X.minO i) (Z.Ins.mk i rs (0 : Int) rd (0 : Int) (0 : Int))) (X.majO i) = w)
 else false)
 (Tr.ret
 (X.ret,
 [SV.v (V1.c (Sc.i IntKind.u32 w)), SV.v (V1.c (Sc.p (nat_lit 0) (nat_lit 0))), SV.v (V1.c (Sc.i IntKind.i64 (0 : Int))),
 SV.v (V1.c (Sc.i IntKind.i64 n)), SV.v (V1.c (Sc.i IntKind.i64 rs)), SV.v (V1.c (Sc.i IntKind.i64 rt)),
 SV.v (V1.c (Sc.i IntKind.i64 rd)), SV.v (V1.c (Sc.i IntKind.i64 sa)), SV.v (V1.c (Sc.i IntKind.i64 im)),
 SV.v (V1.c (Sc.i IntKind.i64 sg)), SV.v (V1.c (Sc.i IntKind.i64 i))],
 [Bk.mk (nat_lit 42)
 [Seg.one (Sc.i IntKind.i64 i), Seg.one (Sc.i IntKind.i64 rs), Seg.one (Sc.i IntKind.i64 (0 : Int)),
 Seg.one (Sc.i IntKind.i64 rd), Seg.one (Sc.i IntKind.i64 (0 : Int)), Seg.one (Sc.i IntKind.i64 (0 : Int))]
 true]))
 (Tr.ret
 (X.nor,
 [SV.v (V1.c (Sc.i IntKind.u32 w)), SV.v (V1.c (Sc.p (nat_lit 0) (nat_lit 0))), SV.v (V1.c (Sc.i IntKind.i64 z)),
 SV.v (V1.c (Sc.i IntKind.i64 n)), SV.v (V1.c (Sc.i IntKind.i64 rs)), SV.v (V1.c (Sc.i IntKind.i64 rt)),
 SV.v (V1.c (Sc.i IntKind.i64 rd)), SV.v (V1.c (Sc.i IntKind.i64 sa)), SV.v (V1.c (Sc.i IntKind.i64 im)),
 SV.v (V1.c (Sc.i IntKind.i64 sg)), SV.v (V1.c (Sc.i IntKind.i64 (IntKind.wrap IntKind.i64 (i + (1 : Int)))))],
 [Bk.mk (nat_lit 42)
 [Seg.one (Sc.i IntKind.i64 a), Seg.one (Sc.i IntKind.i64 b), Seg.one (Sc.i IntKind.i64 c), Seg.one (Sc.i IntKind.i64 d),
 Seg.one (Sc.i IntKind.i64 x), Seg.one (Sc.i IntKind.i64 f)]
 true]))))
 (Tr.ite (decide (X.formL i = [(77 : UInt8), (70 : UInt8)]))
 (Tr.ass (((0 : Int) ≤ i ∧ i < (69 : Int)) ∧ ∃ w, Z.U32 w ∧ Z.Ins.mk i (0 : Int) (0 : Int) rd (0 : Int) (0 : Int) = Z.takeOf (X.fO i) i w)
 (Tr.ite
 (bif decide ((0 : Int) = (0 : Int)) then
 decide (Z.Lay.word (Z.layOf (X.fO i) (X.minO i) (Z.Ins.mk i (0 : Int) (0 : Int) rd (0 : Int) (0 : Int))) (X.majO i) = w)
 else false)
 (Tr.ret
 (X.ret,
 [SV.v (V1.c (Sc.i IntKind.u32 w)), SV.v (V1.c (Sc.p (nat_lit 0) (nat_lit 0))), SV.v (V1.c (Sc.i IntKind.i64 (0 : Int))),
 SV.v (V1.c (Sc.i IntKind.i64 n)), SV.v (V1.c (Sc.i IntKind.i64 rs)), SV.v (V1.c (Sc.i IntKind.i64 rt)),
 SV.v (V1.c (Sc.i IntKind.i64 rd)), SV.v (V1.c (Sc.i IntKind.i64 sa)), SV.v (V1.c (Sc.i IntKind.i64 im)),
 SV.v (V1.c (Sc.i IntKind.i64 sg)), SV.v (V1.c (Sc.i IntKind.i64 i))],
 [Bk.mk (nat_lit 42)
 [Seg.one (Sc.i IntKind.i64 i), Seg.one (Sc.i IntKind.i64 (0 : Int)), Seg.one (Sc.i IntKind.i64 (0 : Int)),
 Seg.one (Sc.i IntKind.i64 rd), Seg.one (Sc.i IntKind.i64 (0 : Int)), Seg.one (Sc.i IntKind.i64 (0 : Int))]
 true]))
 (Tr.ret
 (X.nor,
 [SV.v (V1.c (Sc.i IntKind.u32 w)), SV.v (V1.c (Sc.p (nat_lit 0) (nat_lit 0))), SV.v (V1.c (Sc.i IntKind.i64 z)),
 SV.v (V1.c (Sc.i IntKind.i64 n)), SV.v (V1.c (Sc.i IntKind.i64 rs)), SV.v (V1.c (Sc.i IntKind.i64 rt)),
 SV.v (V1.c (Sc.i IntKind.i64 rd)), SV.v (V1.c (Sc.i IntKind.i64 sa)), SV.v (V1.c (Sc.i IntKind.i64 im)),
 SV.v (V1.c (Sc.i IntKind.i64 sg)), SV.v (V1.c (Sc.i IntKind.i64 (IntKind.wrap IntKind.i64 (i + (1 : Int)))))],
 [Bk.mk (nat_lit 42)
 [Seg.one (Sc.i IntKind.i64 a), Seg.one (Sc.i IntKind.i64 b), Seg.one (Sc.i IntKind.i64 c), Seg.one (Sc.i IntKind.i64 d),
 Seg.one (Sc.i IntKind.i64 x), Seg.one (Sc.i IntKind.i64 f)]
 true]))))
 (Tr.ite (decide (X.formL i = [(77 : UInt8), (68 : UInt8)]))
 (Tr.ass (((0 : Int) ≤ i ∧ i < (69 : Int)) ∧ ∃ w, Z.U32 w ∧ Z.Ins.mk i rs rt (0 : Int) (0 : Int) (0 : Int) = Z.takeOf (X.fO i) i w)
 (Tr.ite
 (bif decide ((0 : Int) = (0 : Int)) then
 decide (Z.Lay.word (Z.layOf (X.fO i) (X.minO i) (Z.Ins.mk i rs rt (0 : Int) (0 : Int) (0 : Int))) (X.majO i) = w)
 else false)
 (Tr.ret
 (X.ret,
 [SV.v (V1.c (Sc.i IntKind.u32 w)), SV.v (V1.c (Sc.p (nat_lit 0) (nat_lit 0))), SV.v (V1.c (Sc.i IntKind.i64 (0 : Int))),
 SV.v (V1.c (Sc.i IntKind.i64 n)), SV.v (V1.c (Sc.i IntKind.i64 rs)), SV.v (V1.c (Sc.i IntKind.i64 rt)),
 SV.v (V1.c (Sc.i IntKind.i64 rd)), SV.v (V1.c (Sc.i IntKind.i64 sa)), SV.v (V1.c (Sc.i IntKind.i64 im)),
 SV.v (V1.c (Sc.i IntKind.i64 sg)), SV.v (V1.c (Sc.i IntKind.i64 i))],
 [Bk.mk (nat_lit 42)
 [Seg.one (Sc.i IntKind.i64 i), Seg.one (Sc.i IntKind.i64 rs), Seg.one (Sc.i IntKind.i64 rt),
 Seg.one (Sc.i IntKind.i64 (0 : Int)), Seg.one (Sc.i IntKind.i64 (0 : Int)), Seg.one (Sc.i IntKind.i64 (0 : Int))]
 true]))
 (Tr.ret
 (X.nor,
 [SV.v (V1.c (Sc.i IntKind.u32 w)), SV.v (V1.c (Sc.p (nat_lit 0) (nat_lit 0))), SV.v (V1.c (Sc.i IntKind.i64 z)),
 SV.v (V1.c (Sc.i IntKind.i64 n)), SV.v (V1.c (Sc.i IntKind.i64 rs)), SV.v (V1.c (Sc.i IntKind.i64 rt)),
 SV.v (V1.c (Sc.i IntKind.i64 rd)), SV.v (V1.c (Sc.i IntKind.i64 sa)), SV.v (V1.c (Sc.i IntKind.i64 im)),
 SV.v (V1.c (Sc.i IntKind.i64 sg)), SV.v (V1.c (Sc.i IntKind.i64 (IntKind.wrap IntKind.i64 (i + (1 : Int)))))],
 [Bk.mk (nat_lit 42)
 [Seg.one (Sc.i IntKind.i64 a), Seg.one (Sc.i IntKind.i64 b), Seg.one (Sc.i IntKind.i64 c),
 Seg.one (Sc.i IntKind.i64 d), Seg.one (Sc.i IntKind.i64 x), Seg.one (Sc.i IntKind.i64 f)]
 true]))))
 (Tr.ite (decide (X.formL i = [(67 : UInt8), (48 : UInt8)]))
 (Tr.ass (((0 : Int) ≤ i ∧ i < (69 : Int)) ∧ ∃ w, Z.U32 w ∧ Z.Ins.mk i (0 : Int) rt rd (0 : Int) (0 : Int) = Z.takeOf (X.fO i) i w)
 (Tr.ite
 (bif decide ((0 : Int) = (0 : Int)) then
 decide (Z.Lay.word (Z.layOf (X.fO i) (X.minO i) (Z.Ins.mk i (0 : Int) rt rd (0 : Int) (0 : Int))) (X.majO i) = w)
 else false)
 (Tr.ret
 (X.ret,
 [SV.v (V1.c (Sc.i IntKind.u32 w)), SV.v (V1.c (Sc.p (nat_lit 0) (nat_lit 0))), SV.v (V1.c (Sc.i IntKind.i64 (0 : Int))),
 SV.v (V1.c (Sc.i IntKind.i64 n)), SV.v (V1.c (Sc.i IntKind.i64 rs)), SV.v (V1.c (Sc.i IntKind.i64 rt)),
 SV.v (V1.c (Sc.i IntKind.i64 rd)), SV.v (V1.c (Sc.i IntKind.i64 sa)), SV.v (V1.c (Sc.i IntKind.i64 im)),
 SV.v (V1.c (Sc.i IntKind.i64 sg)), SV.v (V1.c (Sc.i IntKind.i64 i))],
 [Bk.mk (nat_lit 42)
 [Seg.one (Sc.i IntKind.i64 i), Seg.one (Sc.i IntKind.i64 (0 : Int)), Seg.one (Sc.i IntKind.i64 rt),
 Seg.one (Sc.i IntKind.i64 rd), Seg.one (Sc.i IntKind.i64 (0 : Int)), Seg.one (Sc.i IntKind.i64 (0 : Int))]
 true]))
 (Tr.ret
 (X.nor,
 [SV.v (V1.c (Sc.i IntKind.u32 w)), SV.v (V1.c (Sc.p (nat_lit 0) (nat_lit 0))), SV.v (V1.c (Sc.i IntKind.i64 z)),
 SV.v (V1.c (Sc.i IntKind.i64 n)), SV.v (V1.c (Sc.i IntKind.i64 rs)), SV.v (V1.c (Sc.i IntKind.i64 rt)),
 SV.v (V1.c (Sc.i IntKind.i64 rd)), SV.v (V1.c (Sc.i IntKind.i64 sa)), SV.v (V1.c (Sc.i IntKind.i64 im)),
 SV.v (V1.c (Sc.i IntKind.i64 sg)), SV.v (V1.c (Sc.i IntKind.i64 (IntKind.wrap IntKind.i64 (i + (1 : Int)))))],
 [Bk.mk (nat_lit 42)
 [Seg.one (Sc.i IntKind.i64 a), Seg.one (Sc.i IntKind.i64 b), Seg.one (Sc.i IntKind.i64 c),
 Seg.one (Sc.i IntKind.i64 d), Seg.one (Sc.i IntKind.i64 x), Seg.one (Sc.i IntKind.i64 f)]
 true]))))
 (Tr.ite (decide (X.formL i = [(74 : UInt8)]))
 (Tr.ass ((67108864 : Int) ≠ (0 : Int))
 (Tr.ass
 (((0 : Int) ≤ i ∧ i < (69 : Int)) ∧ ∃ w, Z.U32 w ∧ Z.Ins.mk i (0 : Int) (0 : Int) (0 : Int) (0 : Int) (Int.tmod n (67108864 : Int)) = Z.takeOf (X.fO i) i w)
 (Tr.ite
 (bif decide ((0 : Int) = (0 : Int)) then
 decide
 (Z.Lay.word (Z.layOf (X.fO i) (X.minO i) (Z.Ins.mk i (0 : Int) (0 : Int) (0 : Int) (0 : Int) (Int.tmod n (67108864 : Int)))) (X.majO i) = w)
 else false)
 (Tr.ret
 (X.ret,
 [SV.v (V1.c (Sc.i IntKind.u32 w)), SV.v (V1.c (Sc.p (nat_lit 0) (nat_lit 0))),
 SV.v (V1.c (Sc.i IntKind.i64 (0 : Int))), SV.v (V1.c (Sc.i IntKind.i64 n)), SV.v (V1.c (Sc.i IntKind.i64 rs)),
 SV.v (V1.c (Sc.i IntKind.i64 rt)), SV.v (V1.c (Sc.i IntKind.i64 rd)), SV.v (V1.c (Sc.i IntKind.i64 sa)),
 SV.v (V1.c (Sc.i IntKind.i64 im)), SV.v (V1.c (Sc.i IntKind.i64 sg)), SV.v (V1.c (Sc.i IntKind.i64 i))],
 [Bk.mk (nat_lit 42)
 [Seg.one (Sc.i IntKind.i64 i), Seg.one (Sc.i IntKind.i64 (0 : Int)), Seg.one (Sc.i IntKind.i64 (0 : Int)),
 Seg.one (Sc.i IntKind.i64 (0 : Int)), Seg.one (Sc.i IntKind.i64 (0 : Int)),
 Seg.one (Sc.i IntKind.i64 (Int.tmod n (67108864 : Int)))]
 true]))
 (Tr.ret
 (X.nor,
 [SV.v (V1.c (Sc.i IntKind.u32 w)), SV.v (V1.c (Sc.p (nat_lit 0) (nat_lit 0))), SV.v (V1.c (Sc.i IntKind.i64 z)),
 SV.v (V1.c (Sc.i IntKind.i64 n)), SV.v (V1.c (Sc.i IntKind.i64 rs)), SV.v (V1.c (Sc.i IntKind.i64 rt)),
 SV.v (V1.c (Sc.i IntKind.i64 rd)), SV.v (V1.c (Sc.i IntKind.i64 sa)), SV.v (V1.c (Sc.i IntKind.i64 im)),
 SV.v (V1.c (Sc.i IntKind.i64 sg)), SV.v (V1.c (Sc.i IntKind.i64 (IntKind.wrap IntKind.i64 (i + (1 : Int)))))],
 [Bk.mk (nat_lit 42)
 [Seg.one (Sc.i IntKind.i64 a), Seg.one (Sc.i IntKind.i64 b), Seg.one (Sc.i IntKind.i64 c),
 Seg.one (Sc.i IntKind.i64 d), Seg.one (Sc.i IntKind.i64 x), Seg.one (Sc.i IntKind.i64 f)]
 true])))))
 (Tr.ite (decide (X.formL i = [(66 : UInt8), (90 : UInt8)]))
 (Tr.ass (((0 : Int) ≤ i ∧ i < (69 : Int)) ∧ ∃ w, Z.U32 w ∧ Z.Ins.mk i rs (0 : Int) (0 : Int) (0 : Int) sg = Z.takeOf (X.fO i) i w)
 (Tr.ite
 (bif decide ((0 : Int) = (0 : Int)) then
 decide (Z.Lay.word (Z.layOf (X.fO i) (X.minO i) (Z.Ins.mk i rs (0 : Int) (0 : Int) (0 : Int) sg)) (X.majO i) = w)
 else false)
 (Tr.ret
 (X.ret,
 [SV.v (V1.c (Sc.i IntKind.u32 w)), SV.v (V1.c (Sc.p (nat_lit 0) (nat_lit 0))),
 SV.v (V1.c (Sc.i IntKind.i64 (0 : Int))), SV.v (V1.c (Sc.i IntKind.i64 n)), SV.v (V1.c (Sc.i IntKind.i64 rs)),
 SV.v (V1.c (Sc.i IntKind.i64 rt)), SV.v (V1.c (Sc.i IntKind.i64 rd)), SV.v (V1.c (Sc.i IntKind.i64 sa)),
 SV.v (V1.c (Sc.i IntKind.i64 im)), SV.v (V1.c (Sc.i IntKind.i64 sg)), SV.v (V1.c (Sc.i IntKind.i64 i))],
 [Bk.mk (nat_lit 42)
 [Seg.one (Sc.i IntKind.i64 i), Seg.one (Sc.i IntKind.i64 rs), Seg.one (Sc.i IntKind.i64 (0 : Int)),
 Seg.one (Sc.i IntKind.i64 (0 : Int)), Seg.one (Sc.i IntKind.i64 (0 : Int)), Seg.one (Sc.i IntKind.i64 sg)]
 true]))
 (Tr.ret
 (X.nor,
 [SV.v (V1.c (Sc.i IntKind.u32 w)), SV.v (V1.c (Sc.p (nat_lit 0) (nat_lit 0))), SV.v (V1.c (Sc.i IntKind.i64 z)),
 SV.v (V1.c (Sc.i IntKind.i64 n)), SV.v (V1.c (Sc.i IntKind.i64 rs)), SV.v (V1.c (Sc.i IntKind.i64 rt)),
 SV.v (V1.c (Sc.i IntKind.i64 rd)), SV.v (V1.c (Sc.i IntKind.i64 sa)), SV.v (V1.c (Sc.i IntKind.i64 im)),
 SV.v (V1.c (Sc.i IntKind.i64 sg)), SV.v (V1.c (Sc.i IntKind.i64 (IntKind.wrap IntKind.i64 (i + (1 : Int)))))],
 [Bk.mk (nat_lit 42)
 [Seg.one (Sc.i IntKind.i64 a), Seg.one (Sc.i IntKind.i64 b), Seg.one (Sc.i IntKind.i64 c),
 Seg.one (Sc.i IntKind.i64 d), Seg.one (Sc.i IntKind.i64 x), Seg.one (Sc.i IntKind.i64 f)]
 true]))))
 (Tr.ite (decide (X.formL i = [(76 : UInt8), (85 : UInt8), (73 : UInt8)]))
 (Tr.ass (((0 : Int) ≤ i ∧ i < (69 : Int)) ∧ ∃ w, Z.U32 w ∧ Z.Ins.mk i (0 : Int) rt (0 : Int) (0 : Int) im = Z.takeOf (X.fO i) i w)
 (Tr.ite
 (bif decide ((0 : Int) = (0 : Int)) then
 decide (Z.Lay.word (Z.layOf (X.fO i) (X.minO i) (Z.Ins.mk i (0 : Int) rt (0 : Int) (0 : Int) im)) (X.majO i) = w)
 else false)
 (Tr.ret
 (X.ret,
 [SV.v (V1.c (Sc.i IntKind.u32 w)), SV.v (V1.c (Sc.p (nat_lit 0) (nat_lit 0))),
 SV.v (V1.c (Sc.i IntKind.i64 (0 : Int))), SV.v (V1.c (Sc.i IntKind.i64 n)), SV.v (V1.c (Sc.i IntKind.i64 rs)),
 SV.v (V1.c (Sc.i IntKind.i64 rt)), SV.v (V1.c (Sc.i IntKind.i64 rd)), SV.v (V1.c (Sc.i IntKind.i64 sa)),
 SV.v (V1.c (Sc.i IntKind.i64 im)), SV.v (V1.c (Sc.i IntKind.i64 sg)), SV.v (V1.c (Sc.i IntKind.i64 i))],
 [Bk.mk (nat_lit 42)
 [Seg.one (Sc.i IntKind.i64 i), Seg.one (Sc.i IntKind.i64 (0 : Int)), Seg.one (Sc.i IntKind.i64 rt),
 Seg.one (Sc.i IntKind.i64 (0 : Int)), Seg.one (Sc.i IntKind.i64 (0 : Int)), Seg.one (Sc.i IntKind.i64 im)]
 true]))
 (Tr.ret
 (X.nor,
 [SV.v (V1.c (Sc.i IntKind.u32 w)), SV.v (V1.c (Sc.p (nat_lit 0) (nat_lit 0))), SV.v (V1.c (Sc.i IntKind.i64 z)),
 SV.v (V1.c (Sc.i IntKind.i64 n)), SV.v (V1.c (Sc.i IntKind.i64 rs)), SV.v (V1.c (Sc.i IntKind.i64 rt)),
 SV.v (V1.c (Sc.i IntKind.i64 rd)), SV.v (V1.c (Sc.i IntKind.i64 sa)), SV.v (V1.c (Sc.i IntKind.i64 im)),
 SV.v (V1.c (Sc.i IntKind.i64 sg)), SV.v (V1.c (Sc.i IntKind.i64 (IntKind.wrap IntKind.i64 (i + (1 : Int)))))],
 [Bk.mk (nat_lit 42)
 [Seg.one (Sc.i IntKind.i64 a), Seg.one (Sc.i IntKind.i64 b), Seg.one (Sc.i IntKind.i64 c),
 Seg.one (Sc.i IntKind.i64 d), Seg.one (Sc.i IntKind.i64 x), Seg.one (Sc.i IntKind.i64 f)]
 true]))))
 (Tr.ite (decide (X.formL i = [(73 : UInt8), (85 : UInt8)]))
 (Tr.ass (((0 : Int) ≤ i ∧ i < (69 : Int)) ∧ ∃ w, Z.U32 w ∧ Z.Ins.mk i rs rt (0 : Int) (0 : Int) im = Z.takeOf (X.fO i) i w)
 (Tr.ite
 (bif decide ((0 : Int) = (0 : Int)) then
 decide (Z.Lay.word (Z.layOf (X.fO i) (X.minO i) (Z.Ins.mk i rs rt (0 : Int) (0 : Int) im)) (X.majO i) = w)
 else false)
 (Tr.ret
 (X.ret,
 [SV.v (V1.c (Sc.i IntKind.u32 w)), SV.v (V1.c (Sc.p (nat_lit 0) (nat_lit 0))),
 SV.v (V1.c (Sc.i IntKind.i64 (0 : Int))), SV.v (V1.c (Sc.i IntKind.i64 n)),
 SV.v (V1.c (Sc.i IntKind.i64 rs)), SV.v (V1.c (Sc.i IntKind.i64 rt)), SV.v (V1.c (Sc.i IntKind.i64 rd)),
 SV.v (V1.c (Sc.i IntKind.i64 sa)), SV.v (V1.c (Sc.i IntKind.i64 im)), SV.v (V1.c (Sc.i IntKind.i64 sg)),
 SV.v (V1.c (Sc.i IntKind.i64 i))],
 [Bk.mk (nat_lit 42)
 [Seg.one (Sc.i IntKind.i64 i), Seg.one (Sc.i IntKind.i64 rs), Seg.one (Sc.i IntKind.i64 rt),
 Seg.one (Sc.i IntKind.i64 (0 : Int)), Seg.one (Sc.i IntKind.i64 (0 : Int)), Seg.one (Sc.i IntKind.i64 im)]
 true]))
 (Tr.ret
 (X.nor,
 [SV.v (V1.c (Sc.i IntKind.u32 w)), SV.v (V1.c (Sc.p (nat_lit 0) (nat_lit 0))), SV.v (V1.c (Sc.i IntKind.i64 z)),
 SV.v (V1.c (Sc.i IntKind.i64 n)), SV.v (V1.c (Sc.i IntKind.i64 rs)), SV.v (V1.c (Sc.i IntKind.i64 rt)),
 SV.v (V1.c (Sc.i IntKind.i64 rd)), SV.v (V1.c (Sc.i IntKind.i64 sa)), SV.v (V1.c (Sc.i IntKind.i64 im)),
 SV.v (V1.c (Sc.i IntKind.i64 sg)), SV.v (V1.c (Sc.i IntKind.i64 (IntKind.wrap IntKind.i64 (i + (1 : Int)))))],
 [Bk.mk (nat_lit 42)
 [Seg.one (Sc.i IntKind.i64 a), Seg.one (Sc.i IntKind.i64 b), Seg.one (Sc.i IntKind.i64 c),
 Seg.one (Sc.i IntKind.i64 d), Seg.one (Sc.i IntKind.i64 x), Seg.one (Sc.i IntKind.i64 f)]
 true]))))
 (Tr.ite
 (bif decide (X.formL i = [(66 : UInt8), (50 : UInt8)]) then true
 else bif decide (X.formL i = [(73 : UInt8)]) then true else decide (X.formL i = [(77 : UInt8)]))
 (Tr.ass (((0 : Int) ≤ i ∧ i < (69 : Int)) ∧ ∃ w, Z.U32 w ∧ Z.Ins.mk i rs rt (0 : Int) (0 : Int) sg = Z.takeOf (X.fO i) i w)
 (Tr.ite
 (bif decide ((0 : Int) = (0 : Int)) then
 decide (Z.Lay.word (Z.layOf (X.fO i) (X.minO i) (Z.Ins.mk i rs rt (0 : Int) (0 : Int) sg)) (X.majO i) = w)
 else false)
 (Tr.ret
 (X.ret,
 [SV.v (V1.c (Sc.i IntKind.u32 w)), SV.v (V1.c (Sc.p (nat_lit 0) (nat_lit 0))),
 SV.v (V1.c (Sc.i IntKind.i64 (0 : Int))), SV.v (V1.c (Sc.i IntKind.i64 n)),
 SV.v (V1.c (Sc.i IntKind.i64 rs)), SV.v (V1.c (Sc.i IntKind.i64 rt)), SV.v (V1.c (Sc.i IntKind.i64 rd)),
 SV.v (V1.c (Sc.i IntKind.i64 sa)), SV.v (V1.c (Sc.i IntKind.i64 im)), SV.v (V1.c (Sc.i IntKind.i64 sg)),
 SV.v (V1.c (Sc.i IntKind.i64 i))],
 [Bk.mk (nat_lit 42)
 [Seg.one (Sc.i IntKind.i64 i), Seg.one (Sc.i IntKind.i64 rs), Seg.one (Sc.i IntKind.i64 rt),
 Seg.one (Sc.i IntKind.i64 (0 : Int)), Seg.one (Sc.i IntKind.i64 (0 : Int)), Seg.one (Sc.i IntKind.i64 sg)]
 true]))
 (Tr.ret
 (X.nor,
 [SV.v (V1.c (Sc.i IntKind.u32 w)), SV.v (V1.c (Sc.p (nat_lit 0) (nat_lit 0))),
 SV.v (V1.c (Sc.i IntKind.i64 z)), SV.v (V1.c (Sc.i IntKind.i64 n)), SV.v (V1.c (Sc.i IntKind.i64 rs)),
 SV.v (V1.c (Sc.i IntKind.i64 rt)), SV.v (V1.c (Sc.i IntKind.i64 rd)), SV.v (V1.c (Sc.i IntKind.i64 sa)),
 SV.v (V1.c (Sc.i IntKind.i64 im)), SV.v (V1.c (Sc.i IntKind.i64 sg)),
 SV.v (V1.c (Sc.i IntKind.i64 (IntKind.wrap IntKind.i64 (i + (1 : Int)))))],
 [Bk.mk (nat_lit 42)
 [Seg.one (Sc.i IntKind.i64 a), Seg.one (Sc.i IntKind.i64 b), Seg.one (Sc.i IntKind.i64 c),
 Seg.one (Sc.i IntKind.i64 d), Seg.one (Sc.i IntKind.i64 x), Seg.one (Sc.i IntKind.i64 f)]
 true]))))
 (Tr.ass (((0 : Int) ≤ i ∧ i < (69 : Int)) ∧ ∃ w, Z.U32 w ∧ Z.Ins.mk i (0 : Int) (0 : Int) (0 : Int) (0 : Int) (0 : Int) = Z.takeOf (X.fO i) i w)
 (Tr.ite
 (bif decide ((0 : Int) = (0 : Int)) then
 decide (Z.Lay.word (Z.layOf (X.fO i) (X.minO i) (Z.Ins.mk i (0 : Int) (0 : Int) (0 : Int) (0 : Int) (0 : Int))) (X.majO i) = w)
 else false)
 (Tr.ret
 (X.ret,
 [SV.v (V1.c (Sc.i IntKind.u32 w)), SV.v (V1.c (Sc.p (nat_lit 0) (nat_lit 0))),
 SV.v (V1.c (Sc.i IntKind.i64 (0 : Int))), SV.v (V1.c (Sc.i IntKind.i64 n)),
 SV.v (V1.c (Sc.i IntKind.i64 rs)), SV.v (V1.c (Sc.i IntKind.i64 rt)), SV.v (V1.c (Sc.i IntKind.i64 rd)),
 SV.v (V1.c (Sc.i IntKind.i64 sa)), SV.v (V1.c (Sc.i IntKind.i64 im)), SV.v (V1.c (Sc.i IntKind.i64 sg)),
 SV.v (V1.c (Sc.i IntKind.i64 i))],
 [Bk.mk (nat_lit 42)
 [Seg.one (Sc.i IntKind.i64 i), Seg.one (Sc.i IntKind.i64 (0 : Int)), Seg.one (Sc.i IntKind.i64 (0 : Int)),
 Seg.one (Sc.i IntKind.i64 (0 : Int)), Seg.one (Sc.i IntKind.i64 (0 : Int)), Seg.one (Sc.i IntKind.i64 (0 : Int))]
 true]))
 (Tr.ret
 (X.nor,
 [SV.v (V1.c (Sc.i IntKind.u32 w)), SV.v (V1.c (Sc.p (nat_lit 0) (nat_lit 0))),
 SV.v (V1.c (Sc.i IntKind.i64 z)), SV.v (V1.c (Sc.i IntKind.i64 n)), SV.v (V1.c (Sc.i IntKind.i64 rs)),
 SV.v (V1.c (Sc.i IntKind.i64 rt)), SV.v (V1.c (Sc.i IntKind.i64 rd)), SV.v (V1.c (Sc.i IntKind.i64 sa)),
 SV.v (V1.c (Sc.i IntKind.i64 im)), SV.v (V1.c (Sc.i IntKind.i64 sg)),
 SV.v (V1.c (Sc.i IntKind.i64 (IntKind.wrap IntKind.i64 (i + (1 : Int)))))],
 [Bk.mk (nat_lit 42)
 [Seg.one (Sc.i IntKind.i64 a), Seg.one (Sc.i IntKind.i64 b), Seg.one (Sc.i IntKind.i64 c),
 Seg.one (Sc.i IntKind.i64 d), Seg.one (Sc.i IntKind.i64 x), Seg.one (Sc.i IntKind.i64 f)]
 true]))))))))))))))))))
 (Tr.ret
 (X.ex (nat_lit 0),
 [SV.v (V1.c (Sc.i IntKind.u32 w)), SV.v (V1.c (Sc.p (nat_lit 0) (nat_lit 0))), SV.v (V1.c (Sc.i IntKind.i64 z)),
 SV.v (V1.c (Sc.i IntKind.i64 n)), SV.v (V1.c (Sc.i IntKind.i64 rs)), SV.v (V1.c (Sc.i IntKind.i64 rt)),
 SV.v (V1.c (Sc.i IntKind.i64 rd)), SV.v (V1.c (Sc.i IntKind.i64 sa)), SV.v (V1.c (Sc.i IntKind.i64 im)),
 SV.v (V1.c (Sc.i IntKind.i64 sg)), SV.v (V1.c (Sc.i IntKind.i64 i))],
 [Bk.mk (nat_lit 42)
 [Seg.one (Sc.i IntKind.i64 a), Seg.one (Sc.i IntKind.i64 b), Seg.one (Sc.i IntKind.i64 c), Seg.one (Sc.i IntKind.i64 d),
 Seg.one (Sc.i IntKind.i64 x), Seg.one (Sc.i IntKind.i64 f)]
 true]))

theorem rnd_lp_RDec (w : Int) (z : Int) (n : Int) (rs : Int) (rt : Int) (rd : Int) (sa : Int) (im : Int) (sg : Int) (i : Int) (a : Int) (b : Int) (c : Int) (d : Int) (x : Int) (f : Int) (W : List Rw) : rnd cx_zoetroperef04_Decode 145 W (loopC 8 (codeOf Try.f20)) [0, 2, 3, 4, 5, 6, 7, 8, 9, 10, 11] 0 (zipE [0, 2, 3, 4, 5, 6, 7, 8, 9, 10, 11] [(.v (.c (.i .u32 w))), (.v (.c (.p 0 0))), (.v (.c (.i .i64 z))), (.v (.c (.i .i64 n))), (.v (.c (.i .i64 rs))), (.v (.c (.i .i64 rt))), (.v (.c (.i .i64 rd))), (.v (.c (.i .i64 sa))), (.v (.c (.i .i64 im))), (.v (.c (.i .i64 sg))), (.v (.c (.i .i64 i)))]) [⟨42, [.one (.i .i64 a), .one (.i .i64 b), .one (.i .i64 c), .one (.i .i64 d), .one (.i .i64 x), .one (.i .i64 f)], true⟩] = outr_lp_RDec w z n rs rt rd sa im sg i a b c d x f := by kernel_rfl
theorem lpp_lp_RDec {c0 : Z.Cx} {ρ0 : List Nat} (w : Int) (z : Int) (n : Int) (rs : Int) (rt : Int) (rd : Int) (sa : Int) (im : Int) (sg : Int) (i : Int) (a : Int) (b : Int) (c : Int) (d : Int) (x : Int) (f : Int) (W : List Rw) (hR : repR W c0.R) (hne : ρ0.length ≤ 0) {Q : Exit → Act → World → Prop} {e : Env} {H : List Bk} (hsel : canE 0 [0, 2, 3, 4, 5, 6, 7, 8, 9, 10, 11] e H = some ([(.v (.c (.i .u32 w))), (.v (.c (.p 0 0))), (.v (.c (.i .i64 z))), (.v (.c (.i .i64 n))), (.v (.c (.i .i64 rs))), (.v (.c (.i .i64 rt))), (.v (.c (.i .i64 rd))), (.v (.c (.i .i64 sa))), (.v (.c (.i .i64 im))), (.v (.c (.i .i64 sg))), (.v (.c (.i .i64 i)))], [⟨42, [.one (.i .i64 a), .one (.i .i64 b), .one (.i .i64 c), .one (.i .i64 d), .one (.i .i64 x), .one (.i .i64 f)], true⟩])) (h : (.ass ((z = 0 ∧ w = n ∧ rs = (w / 2097152 % 32) ∧ rt = (w / 65536 % 32) ∧ rd = (w / 2048 % 32) ∧ sa = (w / 64 % 32) ∧ im = (w % 65536) ∧ sg = (Z.sign16 (w % 65536)) ∧ i = ((0 : Nat) : Int)) ∧ U32 w) (.ite (decB w) (.ret (.ret, [(2, .v (.c (.p 0 0))), (3, .v (.c (.i .i64 (0))))], [⟨42, [.one (.i .i64 (decI w).op), .one (.i .i64 (decI w).rs), .one (.i .i64 (decI w).rt), .one (.i .i64 (decI w).rd), .one (.i .i64 (decI w).sa), .one (.i .i64 (decI w).imm)], true⟩])) (.ret (.ex 0, [(2, .v (.c (.p 0 0)))], [⟨42, [.one (.i .i64 a), .one (.i .i64 b), .one (.i .i64 c), .one (.i .i64 d), .one (.i .i64 x), .one (.i .i64 f)], true⟩]))) : Tr (X × Env × List Bk)).all (fun y => YE c0 ρ0 Q 145 (toX y.1) y.2.1 y.2.2)) : YC Try.prog c0 ρ0 Q 145 (.loop (loopC 8 (codeOf Try.f20))) e H := by
  obtain ⟨hp, h⟩ := h
  replace h := h hp
  obtain ⟨⟨rfl, rfl, rfl, rfl, rfl, rfl, rfl, rfl, rfl⟩, hw⟩ := hp
  refine YC.canon hne hsel ?_
  have key := loop_sound (P := Try.prog) (c := c0) (ρ0 := ρ0) (N := 145) (Q := Q) cx_zoetroperef04_Decode_ok hR (LpOK.no (by kernel_rfl)) [0, 2, 3, 4, 5, 6, 7, 8, 9, 10, 11] 0 hne (σ := Nat) (body := (loopC 8 (codeOf Try.f20))) (fun s => [.v (.c (.i .u32 (w))), .v (.c (.p 0 0)), .v (.c (.i .i64 (0))), .v (.c (.i .i64 (w))), .v (.c (.i .i64 ((w / 2097152 % 32)))), .v (.c (.i .i64 ((w / 65536 % 32)))), .v (.c (.i .i64 ((w / 2048 % 32)))), .v (.c (.i .i64 ((w / 64 % 32)))), .v (.c (.i .i64 ((w % 65536)))), .v (.c (.i .i64 ((Z.sign16 (w % 65536))))), .v (.c (.i .i64 ((s : Int))))]) (fun _ => [⟨42, [.one (.i .i64 a), .one (.i .i64 b), .one (.i .i64 c), .one (.i .i64 d), .one (.i .i64 x), .one (.i .i64 f)], true⟩]) (fun s => s ≤ 69 ∧ ∀ j, j < s → Z.hit w j = false) (fun s => 69 - s) (fun y => (decB w = true ∧ ∃ u, y = (.ret, [.v (.c (.i .u32 (w))), .v (.c (.p 0 0)), .v (.c (.i .i64 (0))), .v (.c (.i .i64 (w))), .v (.c (.i .i64 ((w / 2097152 % 32)))), .v (.c (.i .i64 ((w / 65536 % 32)))), .v (.c (.i .i64 ((w / 2048 % 32)))), .v (.c (.i .i64 ((w / 64 % 32)))), .v (.c (.i .i64 ((w % 65536)))), .v (.c (.i .i64 ((Z.sign16 (w % 65536))))), .v (.c (.i .i64 (u)))], [⟨42, [.one (.i .i64 (decI w).op), .one (.i .i64 (decI w).rs), .one (.i .i64 (decI w).rt), .one (.i .i64 (decI w).rd), .one (.i .i64 (decI w).sa), .one (.i .i64 (decI w).imm)], true⟩])) ∨ (decB w = false ∧ ∃ u, y = (.ex 0, [.v (.c (.i .u32 (w))), .v (.c (.p 0 0)), .v (.c (.i .i64 (0))), .v (.c (.i .i64 (w))), .v (.c (.i .i64 ((w / 2097152 % 32)))), .v (.c (.i .i64 ((w / 65536 % 32)))), .v (.c (.i .i64 ((w / 2048 % 32)))), .v (.c (.i .i64 ((w / 64 % 32)))), .v (.c (.i .i64 ((w % 65536)))), .v (.c (.i .i64 ((Z.sign16 (w % 65536))))), .v (.c (.i .i64 (u)))], [⟨42, [.one (.i .i64 a), .one (.i .i64 b), .one (.i .i64 c), .one (.i .i64 d), .one (.i .i64 x), .one (.i .i64 f)], true⟩]))) ?round ?post 0 ⟨by omega, fun j hj => by omega⟩
  case round =>
    intro s hI
    rw [rnd_lp_RDec]
    unfold outr_lp_RDec
    obtain ⟨hI1, hI2⟩ := hI
    have hw1 := hw.1
    have hw2 := hw.2
    have e67 : IntKind.i64.wrap (Int.tdiv w 67108864) = w / 67108864 := Z.quo_i64 (by omega) (by omega)
    have e1 : s < 69 → IntKind.i64.wrap ((s : Int) + 1) = ((s + 1 : Nat) : Int) := fun _ => Z.wI64 (by omega)
    have h16 : Z.sign16 (w % 65536) % 65536 = w % 65536 := by unfold Z.sign16; split <;> omega
    have e26 : Int.tmod w 67108864 = w % 67108864 := Z.tmod_nn (by omega) (by omega)
    simp only [Tr.all, e67, e26]
    refine ⟨fun hc => ?_, fun hc => Or.inr ⟨nofun, Or.inr ⟨?_, _, rfl⟩⟩⟩
    · have hc := of_decide_eq_true hc
      have hc : s < 69 := by omega
      have hks : s < Z.tab.length := by rw [Z.tab_len]; omega
      rw [e1 hc]
      refine ⟨by decide, fun _ => ⟨fun h1 => Or.inl ⟨trivial, s + 1, ⟨by omega, Z.miss_step hI2 (Z.hit_no1 (w := w) hks (by rw [← majO_row hks]; simpa using h1))⟩, by omega, rfl, trivial⟩, fun h1 => ?_⟩⟩
      have hM : majO (s : Int) = w / 67108864 := by simpa using h1
      obtain ⟨hf, hM', hm, hm2, hfl, hnm⟩ := op_ok (op := (s : Int)) (by omega)
      have hyes : ∀ I : Z.Ins, Z.takeOf (fO (s : Int)) s w = I → (Z.layOf (fO (s : Int)) (minO (s : Int)) I).word (majO (s : Int)) = w → decB w = true ∧ decI w = I := fun I hI h => by
        rw [← hI, fO_row hks, minO_row hks, majO_row hks] at h
        have hd : Z.decOf w = some s := Z.find_first (p := Z.hit w) (by omega) (by rw [Z.hit_of hks, ← majO_row hks, decide_eq_true hM, majO_row hks, decide_eq_true h]; rfl) hI2
        refine ⟨by rw [decB, hd]; rfl, ?_⟩
        rw [decI, hd, ← hI, fO_row hks]
        simp [Z.insOf, List.getElem?_eq_getElem hks]
      have hno : ∀ I : Z.Ins, Z.takeOf (fO (s : Int)) s w = I → ¬ (Z.layOf (fO (s : Int)) (minO (s : Int)) I).word (majO (s : Int)) = w → ∀ j, j < s + 1 → Z.hit w j = false := fun I hI h => by
        rw [← hI, fO_row hks, minO_row hks, majO_row hks] at h
        exact Z.miss_step hI2 (Z.hit_no2 (w := w) hks h)
      clear hM' hm hm2 hM h1
      have hop : 0 ≤ (s : Int) ∧ (s : Int) < 69 := by omega
      generalize fO (s : Int) = f at hf hfl hyes hno ⊢
      generalize minO (s : Int) = m at hyes hno ⊢
      generalize majO (s : Int) = M at hyes hno ⊢
      generalize formL (s : Int) = fo at hfl ⊢
      have hcs : f = 0 ∨ f = 1 ∨ f = 2 ∨ f = 3 ∨ f = 4 ∨ f = 5 ∨ f = 6 ∨ f = 7 ∨ f = 8 ∨ f = 9 ∨ f = 10 ∨ f = 11 ∨ f = 12 ∨ f = 13 ∨ f = 14 ∨ f = 15 ∨ f = 16 ∨ f = 17 ∨ f = 18 := by omega
      rcases hcs with rfl | rfl | rfl | rfl | rfl | rfl | rfl | rfl | rfl | rfl | rfl | rfl | rfl | rfl | rfl | rfl | rfl | rfl | rfl
      · obtain rfl : fo = [83, 72] := hfl
        have hT := Z.tk0 (op := (s : Int)) (w := w) (f := 0) (by omega)
        simp (decide := true) only [decide_true, decide_false, cond_true, cond_false, Bool.false_eq_true, false_implies, true_implies, true_and, and_true, decide_eq_true_eq, decide_eq_false_iff_not, Bool.true_eq_false]
        exact ⟨⟨hop, w, hw, hT.symm⟩, fun _ => ⟨fun h => Or.inr ⟨nofun, Or.inl ⟨(hyes _ hT h).1, (s : Int), by rw [(hyes _ hT h).2]⟩⟩, fun h => Or.inl ⟨s + 1, ⟨by omega, hno _ hT h⟩, by omega, rfl⟩⟩⟩
      · obtain rfl : fo = [83, 86] := hfl
        have hT := Z.tk1 (op := (s : Int)) (w := w) (f := 1) (by omega)
        simp (decide := true) only [decide_true, decide_false, cond_true, cond_false, Bool.false_eq_true, false_implies, true_implies, true_and, and_true, decide_eq_true_eq, decide_eq_false_iff_not, Bool.true_eq_false]
        exact ⟨⟨hop, w, hw, hT.symm⟩, fun _ => ⟨fun h => Or.inr ⟨nofun, Or.inl ⟨(hyes _ hT h).1, (s : Int), by rw [(hyes _ hT h).2]⟩⟩, fun h => Or.inl ⟨s + 1, ⟨by omega, hno _ hT h⟩, by omega, rfl⟩⟩⟩
      · obtain rfl : fo = [74, 82] := hfl
        have hT := Z.tk2 (op := (s : Int)) (w := w) (f := 2) (by omega)
        simp (decide := true) only [decide_true, decide_false, cond_true, cond_false, Bool.false_eq_true, false_implies, true_implies, true_and, and_true, decide_eq_true_eq, decide_eq_false_iff_not, Bool.true_eq_false]
        exact ⟨⟨hop, w, hw, hT.symm⟩, fun _ => ⟨fun h => Or.inr ⟨nofun, Or.inl ⟨(hyes _ hT h).1, (s : Int), by rw [(hyes _ hT h).2]⟩⟩, fun h => Or.inl ⟨s + 1, ⟨by omega, hno _ hT h⟩, by omega, rfl⟩⟩⟩
      · obtain rfl : fo = [74, 65, 76, 82] := hfl
        have hT := Z.tk3 (op := (s : Int)) (w := w) (f := 3) (by omega)
        simp (decide := true) only [decide_true, decide_false, cond_true, cond_false, Bool.false_eq_true, false_implies, true_implies, true_and, and_true, decide_eq_true_eq, decide_eq_false_iff_not, Bool.true_eq_false]
        exact ⟨⟨hop, w, hw, hT.symm⟩, fun _ => ⟨fun h => Or.inr ⟨nofun, Or.inl ⟨(hyes _ hT h).1, (s : Int), by rw [(hyes _ hT h).2]⟩⟩, fun h => Or.inl ⟨s + 1, ⟨by omega, hno _ hT h⟩, by omega, rfl⟩⟩⟩
      · obtain rfl : fo = [82] := hfl
        have hT := Z.tk1 (op := (s : Int)) (w := w) (f := 4) (by omega)
        simp (decide := true) only [decide_true, decide_false, cond_true, cond_false, Bool.false_eq_true, false_implies, true_implies, true_and, and_true, decide_eq_true_eq, decide_eq_false_iff_not, Bool.true_eq_false]
        exact ⟨⟨hop, w, hw, hT.symm⟩, fun _ => ⟨fun h => Or.inr ⟨nofun, Or.inl ⟨(hyes _ hT h).1, (s : Int), by rw [(hyes _ hT h).2]⟩⟩, fun h => Or.inl ⟨s + 1, ⟨by omega, hno _ hT h⟩, by omega, rfl⟩⟩⟩
      · obtain rfl : fo = [78] := hfl
        have hT := Z.tk12 (op := (s : Int)) (w := w) (f := 5) (by omega)
        simp (decide := true) only [decide_true, decide_false, cond_true, cond_false, Bool.false_eq_true, false_implies, true_implies, true_and, and_true, decide_eq_true_eq, decide_eq_false_iff_not, Bool.true_eq_false]
        exact ⟨⟨hop, w, hw, hT.symm⟩, fun _ => ⟨fun h => Or.inr ⟨nofun, Or.inl ⟨(hyes _ hT h).1, (s : Int), by rw [(hyes _ hT h).2]⟩⟩, fun h => Or.inl ⟨s + 1, ⟨by omega, hno _ hT h⟩, by omega, rfl⟩⟩⟩
      · obtain rfl : fo = [77, 70] := hfl
        have hT := Z.tk4 (op := (s : Int)) (w := w) (f := 6) (by omega)
        simp (decide := true) only [decide_true, decide_false, cond_true, cond_false, Bool.false_eq_true, false_implies, true_implies, true_and, and_true, decide_eq_true_eq, decide_eq_false_iff_not, Bool.true_eq_false]
        exact ⟨⟨hop, w, hw, hT.symm⟩, fun _ => ⟨fun h => Or.inr ⟨nofun, Or.inl ⟨(hyes _ hT h).1, (s : Int), by rw [(hyes _ hT h).2]⟩⟩, fun h => Or.inl ⟨s + 1, ⟨by omega, hno _ hT h⟩, by omega, rfl⟩⟩⟩
      · obtain rfl : fo = [77, 84] := hfl
        have hT := Z.tk2 (op := (s : Int)) (w := w) (f := 7) (by omega)
        simp (decide := true) only [decide_true, decide_false, cond_true, cond_false, Bool.false_eq_true, false_implies, true_implies, true_and, and_true, decide_eq_true_eq, decide_eq_false_iff_not, Bool.true_eq_false]
        exact ⟨⟨hop, w, hw, hT.symm⟩, fun _ => ⟨fun h => Or.inr ⟨nofun, Or.inl ⟨(hyes _ hT h).1, (s : Int), by rw [(hyes _ hT h).2]⟩⟩, fun h => Or.inl ⟨s + 1, ⟨by omega, hno _ hT h⟩, by omega, rfl⟩⟩⟩
      · obtain rfl : fo = [77, 68] := hfl
        have hT := Z.tk5 (op := (s : Int)) (w := w) (f := 8) (by omega)
        simp (decide := true) only [decide_true, decide_false, cond_true, cond_false, Bool.false_eq_true, false_implies, true_implies, true_and, and_true, decide_eq_true_eq, decide_eq_false_iff_not, Bool.true_eq_false]
        exact ⟨⟨hop, w, hw, hT.symm⟩, fun _ => ⟨fun h => Or.inr ⟨nofun, Or.inl ⟨(hyes _ hT h).1, (s : Int), by rw [(hyes _ hT h).2]⟩⟩, fun h => Or.inl ⟨s + 1, ⟨by omega, hno _ hT h⟩, by omega, rfl⟩⟩⟩
      · obtain rfl : fo = [67, 76] := hfl
        have hT := Z.tk3 (op := (s : Int)) (w := w) (f := 9) (by omega)
        simp (decide := true) only [decide_true, decide_false, cond_true, cond_false, Bool.false_eq_true, false_implies, true_implies, true_and, and_true, decide_eq_true_eq, decide_eq_false_iff_not, Bool.true_eq_false]
        exact ⟨⟨hop, w, hw, hT.symm⟩, fun _ => ⟨fun h => Or.inr ⟨nofun, Or.inl ⟨(hyes _ hT h).1, (s : Int), by rw [(hyes _ hT h).2]⟩⟩, fun h => Or.inl ⟨s + 1, ⟨by omega, hno _ hT h⟩, by omega, rfl⟩⟩⟩
      · obtain rfl : fo = [66, 90] := hfl
        have hT := Z.tk6 (op := (s : Int)) (w := w) (f := 10) (by omega)
        simp (decide := true) only [decide_true, decide_false, cond_true, cond_false, Bool.false_eq_true, false_implies, true_implies, true_and, and_true, decide_eq_true_eq, decide_eq_false_iff_not, Bool.true_eq_false]
        exact ⟨⟨hop, w, hw, hT.symm⟩, fun _ => ⟨fun h => Or.inr ⟨nofun, Or.inl ⟨(hyes _ hT h).1, (s : Int), by rw [(hyes _ hT h).2]⟩⟩, fun h => Or.inl ⟨s + 1, ⟨by omega, hno _ hT h⟩, by omega, rfl⟩⟩⟩
      · obtain rfl : fo = [74] := hfl
        have hT := Z.tk7 (op := (s : Int)) (w := w) (f := 11) (by omega)
        simp (decide := true) only [decide_true, decide_false, cond_true, cond_false, Bool.false_eq_true, false_implies, true_implies, true_and, and_true, decide_eq_true_eq, decide_eq_false_iff_not, Bool.true_eq_false]
        exact ⟨⟨hop, w, hw, hT.symm⟩, fun _ => ⟨fun h => Or.inr ⟨nofun, Or.inl ⟨(hyes _ hT h).1, (s : Int), by rw [(hyes _ hT h).2]⟩⟩, fun h => Or.inl ⟨s + 1, ⟨by omega, hno _ hT h⟩, by omega, rfl⟩⟩⟩
      · obtain rfl : fo = [66, 50] := hfl
        have hT := Z.tk8 (op := (s : Int)) (w := w) (f := 12) (by omega)
        simp (decide := true) only [decide_true, decide_false, cond_true, cond_false, Bool.false_eq_true, false_implies, true_implies, true_and, and_true, decide_eq_true_eq, decide_eq_false_iff_not, Bool.true_eq_false]
        exact ⟨⟨hop, w, hw, hT.symm⟩, fun _ => ⟨fun h => Or.inr ⟨nofun, Or.inl ⟨(hyes _ hT h).1, (s : Int), by rw [(hyes _ hT h).2]⟩⟩, fun h => Or.inl ⟨s + 1, ⟨by omega, hno _ hT h⟩, by omega, rfl⟩⟩⟩
      · obtain rfl : fo = [73] := hfl
        have hT := Z.tk8 (op := (s : Int)) (w := w) (f := 13) (by omega)
        simp (decide := true) only [decide_true, decide_false, cond_true, cond_false, Bool.false_eq_true, false_implies, true_implies, true_and, and_true, decide_eq_true_eq, decide_eq_false_iff_not, Bool.true_eq_false]
        exact ⟨⟨hop, w, hw, hT.symm⟩, fun _ => ⟨fun h => Or.inr ⟨nofun, Or.inl ⟨(hyes _ hT h).1, (s : Int), by rw [(hyes _ hT h).2]⟩⟩, fun h => Or.inl ⟨s + 1, ⟨by omega, hno _ hT h⟩, by omega, rfl⟩⟩⟩
      · obtain rfl : fo = [73, 85] := hfl
        have hT := (Z.tk9 (op := (s : Int)) (w := w) (f := 14) (by omega)).trans (by rw [h16])
        simp (decide := true) only [decide_true, decide_false, cond_true, cond_false, Bool.false_eq_true, false_implies, true_implies, true_and, and_true, decide_eq_true_eq, decide_eq_false_iff_not, Bool.true_eq_false]
        exact ⟨⟨hop, w, hw, hT.symm⟩, fun _ => ⟨fun h => Or.inr ⟨nofun, Or.inl ⟨(hyes _ hT h).1, (s : Int), by rw [(hyes _ hT h).2]⟩⟩, fun h => Or.inl ⟨s + 1, ⟨by omega, hno _ hT h⟩, by omega, rfl⟩⟩⟩
      · obtain rfl : fo = [76, 85, 73] := hfl
        have hT := (Z.tk10 (op := (s : Int)) (w := w) (f := 15) (by omega)).trans (by rw [h16])
        simp (decide := true) only [decide_true, decide_false, cond_true, cond_false, Bool.false_eq_true, false_implies, true_implies, true_and, and_true, decide_eq_true_eq, decide_eq_false_iff_not, Bool.true_eq_false]
        exact ⟨⟨hop, w, hw, hT.symm⟩, fun _ => ⟨fun h => Or.inr ⟨nofun, Or.inl ⟨(hyes _ hT h).1, (s : Int), by rw [(hyes _ hT h).2]⟩⟩, fun h => Or.inl ⟨s + 1, ⟨by omega, hno _ hT h⟩, by omega, rfl⟩⟩⟩
      · obtain rfl : fo = [67, 48] := hfl
        have hT := Z.tk11 (op := (s : Int)) (w := w) (f := 16) (by omega)
        simp (decide := true) only [decide_true, decide_false, cond_true, cond_false, Bool.false_eq_true, false_implies, true_implies, true_and, and_true, decide_eq_true_eq, decide_eq_false_iff_not, Bool.true_eq_false]
        exact ⟨⟨hop, w, hw, hT.symm⟩, fun _ => ⟨fun h => Or.inr ⟨nofun, Or.inl ⟨(hyes _ hT h).1, (s : Int), by rw [(hyes _ hT h).2]⟩⟩, fun h => Or.inl ⟨s + 1, ⟨by omega, hno _ hT h⟩, by omega, rfl⟩⟩⟩
      · obtain rfl : fo = [67, 79] := hfl
        have hT := Z.tk12 (op := (s : Int)) (w := w) (f := 17) (by omega)
        simp (decide := true) only [decide_true, decide_false, cond_true, cond_false, Bool.false_eq_true, false_implies, true_implies, true_and, and_true, decide_eq_true_eq, decide_eq_false_iff_not, Bool.true_eq_false]
        exact ⟨⟨hop, w, hw, hT.symm⟩, fun _ => ⟨fun h => Or.inr ⟨nofun, Or.inl ⟨(hyes _ hT h).1, (s : Int), by rw [(hyes _ hT h).2]⟩⟩, fun h => Or.inl ⟨s + 1, ⟨by omega, hno _ hT h⟩, by omega, rfl⟩⟩⟩
      · obtain rfl : fo = [77] := hfl
        have hT := Z.tk8 (op := (s : Int)) (w := w) (f := 18) (by omega)
        simp (decide := true) only [decide_true, decide_false, cond_true, cond_false, Bool.false_eq_true, false_implies, true_implies, true_and, and_true, decide_eq_true_eq, decide_eq_false_iff_not, Bool.true_eq_false]
        exact ⟨⟨hop, w, hw, hT.symm⟩, fun _ => ⟨fun h => Or.inr ⟨nofun, Or.inl ⟨(hyes _ hT h).1, (s : Int), by rw [(hyes _ hT h).2]⟩⟩, fun h => Or.inl ⟨s + 1, ⟨by omega, hno _ hT h⟩, by omega, rfl⟩⟩⟩
    · have hc := of_decide_eq_false hc
      obtain rfl : s = 69 := by omega
      rw [decB, Z.decOf, Z.find_none (p := Z.hit w) hI2]
      rfl
  case post =>
    intro y hy hp
    rcases hp with ⟨hf, u, rfl⟩ | ⟨hf, u, rfl⟩
    · exact YE.weaken (Sub.cons rfl (Sub.cons rfl Sub.nil)) (h.1 hf)
    · exact YE.weaken (Sub.cons rfl Sub.nil) (h.2 hf)
  exact key
theorem lpc_lp_RDec (c : Z.Cx) (ρ0 : List Nat) (W : List Rw) (hR : repR W c.R) (hne : ρ0.length ≤ 0) : ∀ Q e H, (lp_RDec e H W).all (fun y => YE c ρ0 Q 145 (toX y.1) y.2.1 y.2.2) → YC Try.prog c ρ0 Q 145 (.loop (loopC 8 (codeOf Try.f20))) e H := by
  intro Q e H h
  unfold lp_RDec at h
  (try simp only at h)
  split at h
  · rename_i heq
    exact lpp_lp_RDec _ _ _ _ _ _ _ _ _ _ _ _ _ _ _ _ _ hR hne (by assumption) h
  · exact h.elim
noncomputable def out_zoetroperef04_Decode (w : Int) : Tr (SV × List Bk) :=
Tr.ass ((2097152 : Int) ≠ (0 : Int))
 (Tr.ass ((32 : Int) ≠ (0 : Int))
 (Tr.ass ((65536 : Int) ≠ (0 : Int))
 (Tr.ass ((32 : Int) ≠ (0 : Int))
 (Tr.ass ((2048 : Int) ≠ (0 : Int))
 (Tr.ass ((32 : Int) ≠ (0 : Int))
 (Tr.ass ((64 : Int) ≠ (0 : Int))
 (Tr.ass ((32 : Int) ≠ (0 : Int))
 (Tr.ass ((65536 : Int) ≠ (0 : Int))
 (Tr.ite (decide ((32768 : Int) ≤ Int.tmod (IntKind.wrap IntKind.i64 w) (65536 : Int)))
 (Tr.ass
 (((0 : Int) = (0 : Int) ∧
 w = IntKind.wrap IntKind.i64 w ∧
 Int.tmod (IntKind.wrap IntKind.i64 (Int.tdiv (IntKind.wrap IntKind.i64 w) (2097152 : Int))) (32 : Int) = w / (2097152 : Int) % (32 : Int) ∧
 Int.tmod (IntKind.wrap IntKind.i64 (Int.tdiv (IntKind.wrap IntKind.i64 w) (65536 : Int))) (32 : Int) = w / (65536 : Int) % (32 : Int) ∧
 Int.tmod (IntKind.wrap IntKind.i64 (Int.tdiv (IntKind.wrap IntKind.i64 w) (2048 : Int))) (32 : Int) = w / (2048 : Int) % (32 : Int) ∧
 Int.tmod (IntKind.wrap IntKind.i64 (Int.tdiv (IntKind.wrap IntKind.i64 w) (64 : Int))) (32 : Int) = w / (64 : Int) % (32 : Int) ∧
 Int.tmod (IntKind.wrap IntKind.i64 w) (65536 : Int) = w % (65536 : Int) ∧
 IntKind.wrap IntKind.i64 (Int.tmod (IntKind.wrap IntKind.i64 w) (65536 : Int) - (65536 : Int)) = Z.sign16 (w % (65536 : Int)) ∧
 (0 : Int) = (↑(0 : Nat) : Int)) ∧
 Z.U32 w)
 (Tr.ite (X.decB w)
 (Tr.ret
 (SV.tup
 [V1.agg
 [Seg.one (Sc.i IntKind.i64 (Z.Ins.op (X.decI w))), Seg.one (Sc.i IntKind.i64 (Z.Ins.rs (X.decI w))),
 Seg.one (Sc.i IntKind.i64 (Z.Ins.rt (X.decI w))), Seg.one (Sc.i IntKind.i64 (Z.Ins.rd (X.decI w))),
 Seg.one (Sc.i IntKind.i64 (Z.Ins.sa (X.decI w))), Seg.one (Sc.i IntKind.i64 (Z.Ins.imm (X.decI w)))],
 V1.c (Sc.i IntKind.i64 (0 : Int))],
 []))
 (Tr.ret
 (SV.tup
 [V1.agg
 [Seg.one (Sc.i IntKind.i64 (0 : Int)), Seg.one (Sc.i IntKind.i64 (0 : Int)), Seg.one (Sc.i IntKind.i64 (0 : Int)),
 Seg.one (Sc.i IntKind.i64 (0 : Int)), Seg.one (Sc.i IntKind.i64 (0 : Int)), Seg.one (Sc.i IntKind.i64 (0 : Int))],
 V1.c (Sc.i IntKind.i64 (40 : Int))],
 []))))
 (Tr.ass
 (((0 : Int) = (0 : Int) ∧
 w = IntKind.wrap IntKind.i64 w ∧
 Int.tmod (IntKind.wrap IntKind.i64 (Int.tdiv (IntKind.wrap IntKind.i64 w) (2097152 : Int))) (32 : Int) = w / (2097152 : Int) % (32 : Int) ∧
 Int.tmod (IntKind.wrap IntKind.i64 (Int.tdiv (IntKind.wrap IntKind.i64 w) (65536 : Int))) (32 : Int) = w / (65536 : Int) % (32 : Int) ∧
 Int.tmod (IntKind.wrap IntKind.i64 (Int.tdiv (IntKind.wrap IntKind.i64 w) (2048 : Int))) (32 : Int) = w / (2048 : Int) % (32 : Int) ∧
 Int.tmod (IntKind.wrap IntKind.i64 (Int.tdiv (IntKind.wrap IntKind.i64 w) (64 : Int))) (32 : Int) = w / (64 : Int) % (32 : Int) ∧
 Int.tmod (IntKind.wrap IntKind.i64 w) (65536 : Int) = w % (65536 : Int) ∧
 Int.tmod (IntKind.wrap IntKind.i64 w) (65536 : Int) = Z.sign16 (w % (65536 : Int)) ∧ (0 : Int) = (↑(0 : Nat) : Int)) ∧
 Z.U32 w)
 (Tr.ite (X.decB w)
 (Tr.ret
 (SV.tup
 [V1.agg
 [Seg.one (Sc.i IntKind.i64 (Z.Ins.op (X.decI w))), Seg.one (Sc.i IntKind.i64 (Z.Ins.rs (X.decI w))),
 Seg.one (Sc.i IntKind.i64 (Z.Ins.rt (X.decI w))), Seg.one (Sc.i IntKind.i64 (Z.Ins.rd (X.decI w))),
 Seg.one (Sc.i IntKind.i64 (Z.Ins.sa (X.decI w))), Seg.one (Sc.i IntKind.i64 (Z.Ins.imm (X.decI w)))],
 V1.c (Sc.i IntKind.i64 (0 : Int))],
 []))
 (Tr.ret
 (SV.tup
 [V1.agg
 [Seg.one (Sc.i IntKind.i64 (0 : Int)), Seg.one (Sc.i IntKind.i64 (0 : Int)), Seg.one (Sc.i IntKind.i64 (0 : Int)),
 Seg.one (Sc.i IntKind.i64 (0 : Int)), Seg.one (Sc.i IntKind.i64 (0 : Int)), Seg.one (Sc.i IntKind.i64 (0 : Int))],
 V1.c (Sc.i IntKind.i64 (40 : Int))],
 [])))))))))))))

theorem run_zoetroperef04_Decode (w : Int) (W : List Rw) : runF cx_zoetroperef04_Decode 145 [.cell 2 42, .tmp 3] (codeOf Try.f20) [(.v (.c (.i .u32 w)))] [] W = out_zoetroperef04_Decode w := by kernel_rfl
theorem pf_zoetroperef04_Decode (w : Int) (K : SV × List Bk → Prop) (h : (.ass (U32 w) (.ret (.tup [.agg [.one (.i .i64 (decI w).op), .one (.i .i64 (decI w).rs), .one (.i .i64 (decI w).rt), .one (.i .i64 (decI w).rd), .one (.i .i64 (decI w).sa), .one (.i .i64 (decI w).imm)], .c (.i .i64 (decE w))], [])) : Tr (SV × List Bk)).all K) : (out_zoetroperef04_Decode w).all K := by
  obtain ⟨hp, h⟩ := h
  replace h := h hp
  replace h : K _ := h
  have hw1 := hp.1
  have hw2 := hp.2
  have q : ∀ k : Int, 0 < k → k ≤ 4294967296 → IntKind.i64.wrap (Int.tdiv w k) = w / k := fun k h1 h2 => Z.quo_i64 (by omega) (by omega)
  have r : ∀ x k : Int, 0 ≤ x → 0 < k → Int.tmod x k = x % k := fun x k h1 h2 => Z.tmod_nn h1 h2
  have d1 := Int.ediv_nonneg hw1 (show (0 : Int) ≤ 2097152 by decide)
  have d2 := Int.ediv_nonneg hw1 (show (0 : Int) ≤ 65536 by decide)
  have d3 := Int.ediv_nonneg hw1 (show (0 : Int) ≤ 2048 by decide)
  have d4 := Int.ediv_nonneg hw1 (show (0 : Int) ≤ 64 by decide)
  unfold out_zoetroperef04_Decode
  simp only [Tr.all]
  rw [Z.wI64 (z := w) (by omega), q 2097152 (by decide) (by decide), q 65536 (by decide) (by decide), q 2048 (by decide) (by decide), q 64 (by decide) (by decide), r _ 32 d1 (by decide), r _ 32 d2 (by decide), r _ 32 d3 (by decide), r _ 32 d4 (by decide), r w 65536 hw1 (by decide)]
  have w6 : IntKind.i64.wrap (w % 65536 - 65536) = w % 65536 - 65536 := Z.wI64 (by omega)
  refine ⟨by decide, fun _ => ⟨by decide, fun _ => ⟨by decide, fun _ => ⟨by decide, fun _ => ⟨by decide, fun _ => ⟨by decide, fun _ => ⟨by decide, fun _ => ⟨by decide, fun _ => ⟨by decide, fun _ => ⟨fun hs => ⟨⟨by have := of_decide_eq_true hs; rw [w6]; unfold Z.sign16; rw [if_neg (by omega)]; simp, hp⟩, fun _ => ⟨fun h1 => ?_, fun h1 => ?_⟩⟩, fun hs => ⟨⟨by have := of_decide_eq_false hs; unfold Z.sign16; rw [if_pos (by omega)]; simp, hp⟩, fun _ => ⟨fun h1 => ?_, fun h1 => ?_⟩⟩⟩⟩⟩⟩⟩⟩⟩⟩⟩⟩
  all_goals
    refine leafE h ?_
    unfold decB at h1
    first
    | (obtain ⟨k, hk⟩ := Option.isSome_iff_exists.1 h1; simp [decE, hk]; done)
    | (have hk : Z.decOf w = none := by simpa using h1
       simp [decE, decI, hk])
noncomputable def con_zoetroperef04_Decode : Con := ⟨true, fun args H W => match args, H, W with
  | [(.v (.c (.i .u32 w)))], [], _ => .ass (U32 w) (.ret (.tup [.agg [.one (.i .i64 (decI w).op), .one (.i .i64 (decI w).rs), .one (.i .i64 (decI w).rt), .one (.i .i64 (decI w).rd), .one (.i .i64 (decI w).sa), .one (.i .i64 (decI w).imm)], .c (.i .i64 (decE w))], []))
  | _, _, _ => .stuck 900⟩
theorem lpok_zoetroperef04_Decode (c : Z.Cx) (ρ0 : List Nat) (W : List Rw) (hR : repR W c.R) (hne : ρ0.length ≤ 0) : LpOK Try.prog cx_zoetroperef04_Decode c ρ0 145 W (codeOf Try.f20) := LpOK.all (ls := [((loopC 8 (codeOf Try.f20)), lp_RDec)]) (by kernel_rfl) ⟨⟨(by kernel_rfl), lpc_lp_RDec c ρ0 W hR hne⟩, trivial⟩
theorem ok_zoetroperef04_Decode : ConOK Try.prog 20 con_zoetroperef04_Decode := con_ok (code := (codeOf Try.f20)) (N := 145) (rs := [.cell 2 42, .tmp 3]) cx_zoetroperef04_Decode_ok 0 Try.func20 rfl rfl rfl lpok_zoetroperef04_Decode (by
  intro args H W K h hro
  unfold con_zoetroperef04_Decode at h
  simp only at h
  split at h
  · refine ⟨rfl, ?_⟩
    rw [run_zoetroperef04_Decode]
    exact pf_zoetroperef04_Decode _ K h
  · exact h.elim)
end Go.Y
