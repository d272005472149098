/- PRINTED by wip/tools/ybuild.py: contracts of zoetroperef04.Encode. -/
import Derived.Test.YtfckbimkdjcncaaYTyA
import Derived.Test.YtfckbimkdjcncaaG6
import Derived.Test.YtfckbimkdjcncaaYA00
import Derived.Test.YtfckbimkdjcncaaYA01
import Derived.Test.YtfckbimkdjcncaaYA02
import Derived.Test.YtfckbimkdjcncaaYA03
import Derived.Test.YtfckbimkdjcncaaYA04
import Derived.Test.YtfckbimkdjcncaaYA05
import Derived.Test.YtfckbimkdjcncaaYA06
import Derived.Test.YtfckbimkdjcncaaYA07
import Derived.Test.YtfckbimkdjcncaaYA08
import Derived.Test.YtfckbimkdjcncaaYA09
import Derived.Test.YtfckbimkdjcncaaYA10
import Derived.Test.YtfckbimkdjcncaaYA11
import Derived.Test.YtfckbimkdjcncaaYA12
import Derived.Test.YtfckbimkdjcncaaYA13
set_option maxRecDepth 100000
set_option linter.unusedSimpArgs false
set_option linter.unusedVariables false
namespace Go.Y
open Go.Proofs Go.X
open Go.Z (U32 Regs rg kindOf lessOf shiftOf fillOf sg bitAt withBit bnor bor band bxor b01 bitsOf)
theorem leafT {K : SV × List Bk → Prop} {x y e : Int} (h : K (.tup [.c (.i .u32 x), .c (.i .i64 e)], [])) (hxy : x = y) : K (.tup [.c (.i .u32 y), .c (.i .i64 e)], []) := hxy ▸ h
noncomputable def cx_zoetroperef04_Encode : Ctx := mkCtx tys eqs [(21, con_zoetroperef04_At), (52, con_zoetroperef04_is), (53, con_zoetroperef04_bare), (54, con_zoetroperef04_rest), (55, con_zoetroperef04_low), (56, con_zoetroperef04_word)] []
theorem cx_zoetroperef04_Encode_ok : CtxOK Try.prog cx_zoetroperef04_Encode := mkCtx_ok _ mixed tys_ok eqs_ok ⟨⟨ok_zoetroperef04_At, Try.call21⟩, ⟨⟨ok_zoetroperef04_is, Try.call52⟩, ⟨⟨ok_zoetroperef04_bare, Try.call53⟩, ⟨⟨ok_zoetroperef04_rest, Try.call54⟩, ⟨⟨ok_zoetroperef04_low, Try.call55⟩, ⟨⟨ok_zoetroperef04_word, Try.call56⟩, trivial⟩⟩⟩⟩⟩⟩
noncomputable def out_zoetroperef04_Encode (op : Int) (rs : Int) (rt : Int) (rd : Int) (sa : Int) (im : Int) : Tr (SV × List Bk) :=
Tr.ite
 (bif
 bif
 bif bif decide (X.nameL op = []) then true else !decide ((0 : Int) ≤ rs ∧ rs ≤ (31 : Int)) then true
 else !decide ((0 : Int) ≤ rt ∧ rt ≤ (31 : Int)) then
 true
 else !decide ((0 : Int) ≤ rd ∧ rd ≤ (31 : Int)) then
 true
 else !decide ((0 : Int) ≤ sa ∧ sa ≤ (31 : Int)))
 (Tr.ret (SV.tup [V1.c (Sc.i IntKind.u32 (0 : Int)), V1.c (Sc.i IntKind.i64 (40 : Int))], []))
 (Tr.ite
 (bif decide (X.formL op = [(83 : UInt8), (72 : UInt8)]) then true
 else
 bif decide (X.formL op = [(83 : UInt8), (86 : UInt8)]) then true
 else
 bif decide (X.formL op = [(82 : UInt8)]) then true
 else
 bif decide (X.formL op = [(74 : UInt8), (82 : UInt8)]) then true
 else
 bif decide (X.formL op = [(77 : UInt8), (84 : UInt8)]) then true
 else
 bif decide (X.formL op = [(74 : UInt8), (65 : UInt8), (76 : UInt8), (82 : UInt8)]) then true
 else
 bif decide (X.formL op = [(67 : UInt8), (76 : UInt8)]) then true
 else
 bif decide (X.formL op = [(77 : UInt8), (70 : UInt8)]) then true
 else
 bif decide (X.formL op = [(77 : UInt8), (68 : UInt8)]) then true
 else
 bif decide (X.formL op = [(78 : UInt8)]) then true
 else bif decide (X.formL op = [(67 : UInt8), (79 : UInt8)]) then true else decide (X.formL op = [(67 : UInt8), (48 : UInt8)]))
 (Tr.ass
 (((0 : Int) ≤ X.majO op ∧ X.majO op < (64 : Int)) ∧
 ((0 : Int) ≤ X.minO op ∧ X.minO op < (64 : Int)) ∧
 (X.formL op = [(67 : UInt8), (48 : UInt8)] → X.minO op < (32 : Int)) ∧
 ((0 : Int) ≤ rs ∧ rs < (32 : Int)) ∧ ((0 : Int) ≤ rt ∧ rt < (32 : Int)) ∧ ((0 : Int) ≤ rd ∧ rd < (32 : Int)) ∧ (0 : Int) ≤ sa ∧ sa < (32 : Int))
 (Tr.ite
 (bif
 bif
 !(decide (Z.Ins.op (X.restV (X.formL op) (Z.Ins.mk op rs rt rd sa im)) = (0 : Int)) &&
 (decide (Z.Ins.rs (X.restV (X.formL op) (Z.Ins.mk op rs rt rd sa im)) = (0 : Int)) &&
 (decide (Z.Ins.rt (X.restV (X.formL op) (Z.Ins.mk op rs rt rd sa im)) = (0 : Int)) &&
 (decide (Z.Ins.rd (X.restV (X.formL op) (Z.Ins.mk op rs rt rd sa im)) = (0 : Int)) &&
 (decide (Z.Ins.sa (X.restV (X.formL op) (Z.Ins.mk op rs rt rd sa im)) = (0 : Int)) &&
 decide (Z.Ins.imm (X.restV (X.formL op) (Z.Ins.mk op rs rt rd sa im)) = (0 : Int))))))) then
 true
 else decide (im < (-32768 : Int)) then
 true
 else decide ((32767 : Int) < im))
 (Tr.ret (SV.tup [V1.c (Sc.i IntKind.u32 (0 : Int)), V1.c (Sc.i IntKind.i64 (40 : Int))], []))
 (Tr.ret (SV.tup [V1.c (Sc.i IntKind.u32 (X.bareW (X.formL op) (X.majO op) (X.minO op) rs rt rd sa)), V1.c (Sc.i IntKind.i64 (0 : Int))], []))))
 (Tr.ite (decide (X.formL op = [(74 : UInt8)]))
 (Tr.ass ((0 : Int) < (67108864 : Int) ∧ (67108864 : Int) ≤ (4294967296 : Int))
 (Tr.ite
 (bif
 bif
 !(decide ((0 : Int) = (0 : Int)) &&
 (decide (rs = (0 : Int)) &&
 (decide (rt = (0 : Int)) && (decide (rd = (0 : Int)) && (decide (sa = (0 : Int)) && decide ((0 : Int) = (0 : Int))))))) then
 true
 else decide (im < (0 : Int)) then
 true
 else decide ((67108863 : Int) < im))
 (Tr.ret (SV.tup [V1.c (Sc.i IntKind.u32 (0 : Int)), V1.c (Sc.i IntKind.i64 (40 : Int))], []))
 (Tr.ret
 (SV.tup
 [V1.c
 (Sc.i IntKind.u32
 (IntKind.wrap IntKind.u32 (IntKind.wrap IntKind.i64 (IntKind.wrap IntKind.i64 (X.majO op * (67108864 : Int)) + im % (67108864 : Int))))),
 V1.c (Sc.i IntKind.i64 (0 : Int))],
 []))))
 (Tr.ite (decide (X.formL op = [(66 : UInt8), (90 : UInt8)]))
 (Tr.ass
 (((0 : Int) ≤ X.majO op ∧ X.majO op < (64 : Int)) ∧
 ((0 : Int) ≤ rs ∧ rs < (32 : Int)) ∧
 ((0 : Int) ≤ X.minO op ∧ X.minO op < (32 : Int)) ∧
 ((0 : Int) ≤ (0 : Int) ∧ (0 : Int) < (32 : Int)) ∧ ((0 : Int) ≤ (0 : Int) ∧ (0 : Int) < (32 : Int)) ∧ (0 : Int) ≤ (0 : Int) ∧ (0 : Int) < (64 : Int))
 (Tr.ass ((0 : Int) < (65536 : Int) ∧ (65536 : Int) ≤ (4294967296 : Int))
 (Tr.ite
 (bif
 bif
 !(decide ((0 : Int) = (0 : Int)) &&
 (decide ((0 : Int) = (0 : Int)) &&
 (decide (rt = (0 : Int)) && (decide (rd = (0 : Int)) && (decide (sa = (0 : Int)) && decide ((0 : Int) = (0 : Int))))))) then
 true
 else decide (im < (-32768 : Int)) then
 true
 else decide ((32767 : Int) < im))
 (Tr.ret (SV.tup [V1.c (Sc.i IntKind.u32 (0 : Int)), V1.c (Sc.i IntKind.i64 (40 : Int))], []))
 (Tr.ret
 (SV.tup
 [V1.c
 (Sc.i IntKind.u32
 (IntKind.wrap IntKind.u32
 (X.majO op * (67108864 : Int) + rs * (2097152 : Int) + X.minO op * (65536 : Int) + (0 : Int) * (2048 : Int) + (0 : Int) * (64 : Int) + (0 : Int) +
 IntKind.wrap IntKind.u32 (im % (65536 : Int))))),
 V1.c (Sc.i IntKind.i64 (0 : Int))],
 [])))))
 (Tr.ite (decide (X.formL op = [(76 : UInt8), (85 : UInt8), (73 : UInt8)]))
 (Tr.ass
 (((0 : Int) ≤ X.majO op ∧ X.majO op < (64 : Int)) ∧
 ((0 : Int) ≤ (0 : Int) ∧ (0 : Int) < (32 : Int)) ∧
 ((0 : Int) ≤ rt ∧ rt < (32 : Int)) ∧
 ((0 : Int) ≤ (0 : Int) ∧ (0 : Int) < (32 : Int)) ∧ ((0 : Int) ≤ (0 : Int) ∧ (0 : Int) < (32 : Int)) ∧ (0 : Int) ≤ (0 : Int) ∧ (0 : Int) < (64 : Int))
 (Tr.ass ((0 : Int) < (65536 : Int) ∧ (65536 : Int) ≤ (4294967296 : Int))
 (Tr.ite
 (bif
 bif
 !(decide ((0 : Int) = (0 : Int)) &&
 (decide (rs = (0 : Int)) &&
 (decide ((0 : Int) = (0 : Int)) &&
 (decide (rd = (0 : Int)) && (decide (sa = (0 : Int)) && decide ((0 : Int) = (0 : Int))))))) then
 true
 else decide (im < (0 : Int)) then
 true
 else decide ((65535 : Int) < im))
 (Tr.ret (SV.tup [V1.c (Sc.i IntKind.u32 (0 : Int)), V1.c (Sc.i IntKind.i64 (40 : Int))], []))
 (Tr.ret
 (SV.tup
 [V1.c
 (Sc.i IntKind.u32
 (IntKind.wrap IntKind.u32
 (X.majO op * (67108864 : Int) + (0 : Int) * (2097152 : Int) + rt * (65536 : Int) + (0 : Int) * (2048 : Int) + (0 : Int) * (64 : Int) + (0 : Int) +
 IntKind.wrap IntKind.u32 (im % (65536 : Int))))),
 V1.c (Sc.i IntKind.i64 (0 : Int))],
 [])))))
 (Tr.ass
 (((0 : Int) ≤ X.majO op ∧ X.majO op < (64 : Int)) ∧
 ((0 : Int) ≤ rs ∧ rs < (32 : Int)) ∧
 ((0 : Int) ≤ rt ∧ rt < (32 : Int)) ∧
 ((0 : Int) ≤ (0 : Int) ∧ (0 : Int) < (32 : Int)) ∧ ((0 : Int) ≤ (0 : Int) ∧ (0 : Int) < (32 : Int)) ∧ (0 : Int) ≤ (0 : Int) ∧ (0 : Int) < (64 : Int))
 (Tr.ass ((0 : Int) < (65536 : Int) ∧ (65536 : Int) ≤ (4294967296 : Int))
 (Tr.ite (decide (X.formL op = [(73 : UInt8), (85 : UInt8)]))
 (Tr.ite
 (bif
 bif
 !(decide ((0 : Int) = (0 : Int)) &&
 (decide ((0 : Int) = (0 : Int)) &&
 (decide ((0 : Int) = (0 : Int)) &&
 (decide (rd = (0 : Int)) && (decide (sa = (0 : Int)) && decide ((0 : Int) = (0 : Int))))))) then
 true
 else decide (im < (0 : Int)) then
 true
 else decide ((65535 : Int) < im))
 (Tr.ret (SV.tup [V1.c (Sc.i IntKind.u32 (0 : Int)), V1.c (Sc.i IntKind.i64 (40 : Int))], []))
 (Tr.ret
 (SV.tup
 [V1.c
 (Sc.i IntKind.u32
 (IntKind.wrap IntKind.u32
 (X.majO op * (67108864 : Int) + rs * (2097152 : Int) + rt * (65536 : Int) + (0 : Int) * (2048 : Int) + (0 : Int) * (64 : Int) + (0 : Int) +
 IntKind.wrap IntKind.u32 (im % (65536 : Int))))),
 V1.c (Sc.i IntKind.i64 (0 : Int))],
 [])))
 (Tr.ite
 (bif
 bif
 !(decide ((0 : Int) = (0 : Int)) &&
 (decide ((0 : Int) = (0 : Int)) &&
 (decide ((0 : Int) = (0 : Int)) &&
 (decide (rd = (0 : Int)) && (decide (sa = (0 : Int)) && decide ((0 : Int) = (0 : Int))))))) then
 true
 else decide (im < (-32768 : Int)) then
 true
 else decide ((32767 : Int) < im))
 (Tr.ret (SV.tup [V1.c (Sc.i IntKind.u32 (0 : Int)), V1.c (Sc.i IntKind.i64 (40 : Int))], []))
 (Tr.ret
 (SV.tup
 [V1.c
 (Sc.i IntKind.u32
 (IntKind.wrap IntKind.u32
 (X.majO op * (67108864 : Int) + rs * (2097152 : Int) + rt * (65536 : Int) + (0 : Int) * (2048 : Int) + (0 : Int) * (64 : Int) + (0 : Int) +
 IntKind.wrap IntKind.u32 (im % (65536 : Int))))),
 V1.c (Sc.i IntKind.i64 (0 : Int))],
 []))))))))))

theorem run_zoetroperef04_Encode (op : Int) (rs : Int) (rt : Int) (rd : Int) (sa : Int) (im : Int) (W : List Rw) : runF cx_zoetroperef04_Encode 138 [.tmp 2, .tmp 3] (codeOf Try.f37) [(.v (.agg [.one (.i .i64 op), .one (.i .i64 rs), .one (.i .i64 rt), .one (.i .i64 rd), .one (.i .i64 sa), .one (.i .i64 im)]))] [] W = out_zoetroperef04_Encode op rs rt rd sa im := by kernel_rfl
set_option maxHeartbeats 1000000 in
theorem pf_zoetroperef04_Encode (op : Int) (rs : Int) (rt : Int) (rd : Int) (sa : Int) (im : Int) (K : SV × List Bk → Prop) (h : (.ass ((0 ≤ op ∧ op < 69) ∧ ∃ w, U32 w ∧ (⟨op, rs, rt, rd, sa, im⟩ : Z.Ins) = Z.takeOf (fO op) op w) (.ret (.tup [.c (.i .u32 ((Z.layOf (fO op) (minO op) ⟨op, rs, rt, rd, sa, im⟩).word (majO op))), .c (.i .i64 0)], [])) : Tr (SV × List Bk)).all K) : (out_zoetroperef04_Encode op rs rt rd sa im).all K := by
  obtain ⟨⟨hop, w, hw, hi⟩, h⟩ := h
  replace h := h ⟨hop, w, hw, hi⟩
  replace h : K _ := h
  obtain ⟨hf, hM, hm, hm2, hfl, hnm⟩ := op_ok hop
  have hw1 := hw.1
  have hw2 := hw.2
  have hsg : -32768 ≤ Z.sign16 (w % 65536) ∧ Z.sign16 (w % 65536) < 32768 := by unfold Z.sign16; split <;> omega
  unfold out_zoetroperef04_Encode
  generalize fO op = f at hf hm2 hfl hi h
  generalize minO op = m at hm hm2 h ⊢
  generalize majO op = M at hM h ⊢
  generalize formL op = fo at hfl ⊢
  have hcs : f = 0 ∨ f = 1 ∨ f = 2 ∨ f = 3 ∨ f = 4 ∨ f = 5 ∨ f = 6 ∨ f = 7 ∨ f = 8 ∨ f = 9 ∨ f = 10 ∨ f = 11 ∨ f = 12 ∨ f = 13 ∨ f = 14 ∨ f = 15 ∨ f = 16 ∨ f = 17 ∨ f = 18 := by omega
  rcases hcs with rfl | rfl | rfl | rfl | rfl | rfl | rfl | rfl | rfl | rfl | rfl | rfl | rfl | rfl | rfl | rfl | rfl | rfl | rfl
  · obtain rfl : fo = [83, 72] := hfl
    first | rw [Z.tk0 (by omega)] at hi | rw [Z.tk1 (by omega)] at hi | rw [Z.tk2 (by omega)] at hi | rw [Z.tk3 (by omega)] at hi | rw [Z.tk4 (by omega)] at hi | rw [Z.tk5 (by omega)] at hi | rw [Z.tk6 (by omega)] at hi | rw [Z.tk7 (by omega)] at hi | rw [Z.tk8 (by omega)] at hi | rw [Z.tk9 (by omega)] at hi | rw [Z.tk10 (by omega)] at hi | rw [Z.tk11 (by omega)] at hi | rw [Z.tk12 (by omega)] at hi
    simp only [Z.Ins.mk.injEq] at hi
    obtain ⟨-, h1, h2, h3, h4, h5⟩ := hi
    simp (decide := true) only [Tr.all, hnm, restV, decide_true, decide_false, cond_true, cond_false, Bool.cond_true_left, Bool.cond_false_left, if_true, if_false, or_true, true_or, or_false, false_or, Bool.or_eq_true, Bool.or_eq_false_iff, Bool.not_eq_true', Bool.not_eq_false', Bool.and_eq_true, Bool.and_eq_false_iff, decide_eq_true_eq, decide_eq_false_iff_not, true_implies, false_implies, and_true, true_and, implies_true]
    repeat' (first | with_reducible apply And.intro | with_reducible intro)
    all_goals first
      | omega
      | (exfalso; omega)
      | (refine leafT h ?_; simp (decide := true) only [bareW, Z.layOf, Z.Lay.word, if_true, if_false, or_true, true_or, or_false, false_or]; omega)
      | (refine leafT h ?_; simp (decide := true) only [Z.layOf, Z.Lay.word, if_true, if_false, or_true, true_or, or_false, false_or]; rw [Z.wU32i (z := im % 65536) (by omega), Z.wU32i (by omega)]; omega)
      | (refine leafT h ?_; simp (decide := true) only [Z.layOf, Z.Lay.word, if_true, if_false, or_true, true_or, or_false, false_or]; rw [Z.wI64 (z := M * 67108864) (by omega), Z.wI64 (z := M * 67108864 + im % 67108864) (by omega), Z.wU32i (by omega)]; omega)
  · obtain rfl : fo = [83, 86] := hfl
    first | rw [Z.tk0 (by omega)] at hi | rw [Z.tk1 (by omega)] at hi | rw [Z.tk2 (by omega)] at hi | rw [Z.tk3 (by omega)] at hi | rw [Z.tk4 (by omega)] at hi | rw [Z.tk5 (by omega)] at hi | rw [Z.tk6 (by omega)] at hi | rw [Z.tk7 (by omega)] at hi | rw [Z.tk8 (by omega)] at hi | rw [Z.tk9 (by omega)] at hi | rw [Z.tk10 (by omega)] at hi | rw [Z.tk11 (by omega)] at hi | rw [Z.tk12 (by omega)] at hi
    simp only [Z.Ins.mk.injEq] at hi
    obtain ⟨-, h1, h2, h3, h4, h5⟩ := hi
    simp (decide := true) only [Tr.all, hnm, restV, decide_true, decide_false, cond_true, cond_false, Bool.cond_true_left, Bool.cond_false_left, if_true, if_false, or_true, true_or, or_false, false_or, Bool.or_eq_true, Bool.or_eq_false_iff, Bool.not_eq_true', Bool.not_eq_false', Bool.and_eq_true, Bool.and_eq_false_iff, decide_eq_true_eq, decide_eq_false_iff_not, true_implies, false_implies, and_true, true_and, implies_true]
    repeat' (first | with_reducible apply And.intro | with_reducible intro)
    all_goals first
      | omega
      | (exfalso; omega)
      | (refine leafT h ?_; simp (decide := true) only [bareW, Z.layOf, Z.Lay.word, if_true, if_false, or_true, true_or, or_false, false_or]; omega)
      | (refine leafT h ?_; simp (decide := true) only [Z.layOf, Z.Lay.word, if_true, if_false, or_true, true_or, or_false, false_or]; rw [Z.wU32i (z := im % 65536) (by omega), Z.wU32i (by omega)]; omega)
      | (refine leafT h ?_; simp (decide := true) only [Z.layOf, Z.Lay.word, if_true, if_false, or_true, true_or, or_false, false_or]; rw [Z.wI64 (z := M * 67108864) (by omega), Z.wI64 (z := M * 67108864 + im % 67108864) (by omega), Z.wU32i (by omega)]; omega)
  · obtain rfl : fo = [74, 82] := hfl
    first | rw [Z.tk0 (by omega)] at hi | rw [Z.tk1 (by omega)] at hi | rw [Z.tk2 (by omega)] at hi | rw [Z.tk3 (by omega)] at hi | rw [Z.tk4 (by omega)] at hi | rw [Z.tk5 (by omega)] at hi | rw [Z.tk6 (by omega)] at hi | rw [Z.tk7 (by omega)] at hi | rw [Z.tk8 (by omega)] at hi | rw [Z.tk9 (by omega)] at hi | rw [Z.tk10 (by omega)] at hi | rw [Z.tk11 (by omega)] at hi | rw [Z.tk12 (by omega)] at hi
    simp only [Z.Ins.mk.injEq] at hi
    obtain ⟨-, h1, h2, h3, h4, h5⟩ := hi
    simp (decide := true) only [Tr.all, hnm, restV, decide_true, decide_false, cond_true, cond_false, Bool.cond_true_left, Bool.cond_false_left, if_true, if_false, or_true, true_or, or_false, false_or, Bool.or_eq_true, Bool.or_eq_false_iff, Bool.not_eq_true', Bool.not_eq_false', Bool.and_eq_true, Bool.and_eq_false_iff, decide_eq_true_eq, decide_eq_false_iff_not, true_implies, false_implies, and_true, true_and, implies_true]
    repeat' (first | with_reducible apply And.intro | with_reducible intro)
    all_goals first
      | omega
      | (exfalso; omega)
      | (refine leafT h ?_; simp (decide := true) only [bareW, Z.layOf, Z.Lay.word, if_true, if_false, or_true, true_or, or_false, false_or]; omega)
      | (refine leafT h ?_; simp (decide := true) only [Z.layOf, Z.Lay.word, if_true, if_false, or_true, true_or, or_false, false_or]; rw [Z.wU32i (z := im % 65536) (by omega), Z.wU32i (by omega)]; omega)
      | (refine leafT h ?_; simp (decide := true) only [Z.layOf, Z.Lay.word, if_true, if_false, or_true, true_or, or_false, false_or]; rw [Z.wI64 (z := M * 67108864) (by omega), Z.wI64 (z := M * 67108864 + im % 67108864) (by omega), Z.wU32i (by omega)]; omega)
  · obtain rfl : fo = [74, 65, 76, 82] := hfl
    first | rw [Z.tk0 (by omega)] at hi | rw [Z.tk1 (by omega)] at hi | rw [Z.tk2 (by omega)] at hi | rw [Z.tk3 (by omega)] at hi | rw [Z.tk4 (by omega)] at hi | rw [Z.tk5 (by omega)] at hi | rw [Z.tk6 (by omega)] at hi | rw [Z.tk7 (by omega)] at hi | rw [Z.tk8 (by omega)] at hi | rw [Z.tk9 (by omega)] at hi | rw [Z.tk10 (by omega)] at hi | rw [Z.tk11 (by omega)] at hi | rw [Z.tk12 (by omega)] at hi
    simp only [Z.Ins.mk.injEq] at hi
    obtain ⟨-, h1, h2, h3, h4, h5⟩ := hi
    simp (decide := true) only [Tr.all, hnm, restV, decide_true, decide_false, cond_true, cond_false, Bool.cond_true_left, Bool.cond_false_left, if_true, if_false, or_true, true_or, or_false, false_or, Bool.or_eq_true, Bool.or_eq_false_iff, Bool.not_eq_true', Bool.not_eq_false', Bool.and_eq_true, Bool.and_eq_false_iff, decide_eq_true_eq, decide_eq_false_iff_not, true_implies, false_implies, and_true, true_and, implies_true]
    repeat' (first | with_reducible apply And.intro | with_reducible intro)
    all_goals first
      | omega
      | (exfalso; omega)
      | (refine leafT h ?_; simp (decide := true) only [bareW, Z.layOf, Z.Lay.word, if_true, if_false, or_true, true_or, or_false, false_or]; omega)
      | (refine leafT h ?_; simp (decide := true) only [Z.layOf, Z.Lay.word, if_true, if_false, or_true, true_or, or_false, false_or]; rw [Z.wU32i (z := im % 65536) (by omega), Z.wU32i (by omega)]; omega)
      | (refine leafT h ?_; simp (decide := true) only [Z.layOf, Z.Lay.word, if_true, if_false, or_true, true_or, or_false, false_or]; rw [Z.wI64 (z := M * 67108864) (by omega), Z.wI64 (z := M * 67108864 + im % 67108864) (by omega), Z.wU32i (by omega)]; omega)
  · obtain rfl : fo = [82] := hfl
    first | rw [Z.tk0 (by omega)] at hi | rw [Z.tk1 (by omega)] at hi | rw [Z.tk2 (by omega)] at hi | rw [Z.tk3 (by omega)] at hi | rw [Z.tk4 (by omega)] at hi | rw [Z.tk5 (by omega)] at hi | rw [Z.tk6 (by omega)] at hi | rw [Z.tk7 (by omega)] at hi | rw [Z.tk8 (by omega)] at hi | rw [Z.tk9 (by omega)] at hi | rw [Z.tk10 (by omega)] at hi | rw [Z.tk11 (by omega)] at hi | rw [Z.tk12 (by omega)] at hi
    simp only [Z.Ins.mk.injEq] at hi
    obtain ⟨-, h1, h2, h3, h4, h5⟩ := hi
    simp (decide := true) only [Tr.all, hnm, restV, decide_true, decide_false, cond_true, cond_false, Bool.cond_true_left, Bool.cond_false_left, if_true, if_false, or_true, true_or, or_false, false_or, Bool.or_eq_true, Bool.or_eq_false_iff, Bool.not_eq_true', Bool.not_eq_false', Bool.and_eq_true, Bool.and_eq_false_iff, decide_eq_true_eq, decide_eq_false_iff_not, true_implies, false_implies, and_true, true_and, implies_true]
    repeat' (first | with_reducible apply And.intro | with_reducible intro)
    all_goals first
      | omega
      | (exfalso; omega)
      | (refine leafT h ?_; simp (decide := true) only [bareW, Z.layOf, Z.Lay.word, if_true, if_false, or_true, true_or, or_false, false_or]; omega)
      | (refine leafT h ?_; simp (decide := true) only [Z.layOf, Z.Lay.word, if_true, if_false, or_true, true_or, or_false, false_or]; rw [Z.wU32i (z := im % 65536) (by omega), Z.wU32i (by omega)]; omega)
      | (refine leafT h ?_; simp (decide := true) only [Z.layOf, Z.Lay.word, if_true, if_false, or_true, true_or, or_false, false_or]; rw [Z.wI64 (z := M * 67108864) (by omega), Z.wI64 (z := M * 67108864 + im % 67108864) (by omega), Z.wU32i (by omega)]; omega)
  · obtain rfl : fo = [78] := hfl
    first | rw [Z.tk0 (by omega)] at hi | rw [Z.tk1 (by omega)] at hi | rw [Z.tk2 (by omega)] at hi | rw [Z.tk3 (by omega)] at hi | rw [Z.tk4 (by omega)] at hi | rw [Z.tk5 (by omega)] at hi | rw [Z.tk6 (by omega)] at hi | rw [Z.tk7 (by omega)] at hi | rw [Z.tk8 (by omega)] at hi | rw [Z.tk9 (by omega)] at hi | rw [Z.tk10 (by omega)] at hi | rw [Z.tk11 (by omega)] at hi | rw [Z.tk12 (by omega)] at hi
    simp only [Z.Ins.mk.injEq] at hi
    obtain ⟨-, h1, h2, h3, h4, h5⟩ := hi
    simp (decide := true) only [Tr.all, hnm, restV, decide_true, decide_false, cond_true, cond_false, Bool.cond_true_left, Bool.cond_false_left, if_true, if_false, or_true, true_or, or_false, false_or, Bool.or_eq_true, Bool.or_eq_false_iff, Bool.not_eq_true', Bool.not_eq_false', Bool.and_eq_true, Bool.and_eq_false_iff, decide_eq_true_eq, decide_eq_false_iff_not, true_implies, false_implies, and_true, true_and, implies_true]
    repeat' (first | with_reducible apply And.intro | with_reducible intro)
    all_goals first
      | omega
      | (exfalso; omega)
      | (refine leafT h ?_; simp (decide := true) only [bareW, Z.layOf, Z.Lay.word, if_true, if_false, or_true, true_or, or_false, false_or]; omega)
      | (refine leafT h ?_; simp (decide := true) only [Z.layOf, Z.Lay.word, if_true, if_false, or_true, true_or, or_false, false_or]; rw [Z.wU32i (z := im % 65536) (by omega), Z.wU32i (by omega)]; omega)
      | (refine leafT h ?_; simp (decide := true) only [Z.layOf, Z.Lay.word, if_true, if_false, or_true, true_or, or_false, false_or]; rw [Z.wI64 (z := M * 67108864) (by omega), Z.wI64 (z := M * 67108864 + im % 67108864) (by omega), Z.wU32i (by omega)]; omega)
  · obtain rfl : fo = [77, 70] := hfl
    first | rw [Z.tk0 (by omega)] at hi | rw [Z.tk1 (by omega)] at hi | rw [Z.tk2 (by omega)] at hi | rw [Z.tk3 (by omega)] at hi | rw [Z.tk4 (by omega)] at hi | rw [Z.tk5 (by omega)] at hi | rw [Z.tk6 (by omega)] at hi | rw [Z.tk7 (by omega)] at hi | rw [Z.tk8 (by omega)] at hi | rw [Z.tk9 (by omega)] at hi | rw [Z.tk10 (by omega)] at hi | rw [Z.tk11 (by omega)] at hi | rw [Z.tk12 (by omega)] at hi
    simp only [Z.Ins.mk.injEq] at hi
    obtain ⟨-, h1, h2, h3, h4, h5⟩ := hi
    simp (decide := true) only [Tr.all, hnm, restV, decide_true, decide_false, cond_true, cond_false, Bool.cond_true_left, Bool.cond_false_left, if_true, if_false, or_true, true_or, or_false, false_or, Bool.or_eq_true, Bool.or_eq_false_iff, Bool.not_eq_true', Bool.not_eq_false', Bool.and_eq_true, Bool.and_eq_false_iff, decide_eq_true_eq, decide_eq_false_iff_not, true_implies, false_implies, and_true, true_and, implies_true]
    repeat' (first | with_reducible apply And.intro | with_reducible intro)
    all_goals first
      | omega
      | (exfalso; omega)
      | (refine leafT h ?_; simp (decide := true) only [bareW, Z.layOf, Z.Lay.word, if_true, if_false, or_true, true_or, or_false, false_or]; omega)
      | (refine leafT h ?_; simp (decide := true) only [Z.layOf, Z.Lay.word, if_true, if_false, or_true, true_or, or_false, false_or]; rw [Z.wU32i (z := im % 65536) (by omega), Z.wU32i (by omega)]; omega)
      | (refine leafT h ?_; simp (decide := true) only [Z.layOf, Z.Lay.word, if_true, if_false, or_true, true_or, or_false, false_or]; rw [Z.wI64 (z := M * 67108864) (by omega), Z.wI64 (z := M * 67108864 + im % 67108864) (by omega), Z.wU32i (by omega)]; omega)
  · obtain rfl : fo = [77, 84] := hfl
    first | rw [Z.tk0 (by omega)] at hi | rw [Z.tk1 (by omega)] at hi | rw [Z.tk2 (by omega)] at hi | rw [Z.tk3 (by omega)] at hi | rw [Z.tk4 (by omega)] at hi | rw [Z.tk5 (by omega)] at hi | rw [Z.tk6 (by omega)] at hi | rw [Z.tk7 (by omega)] at hi | rw [Z.tk8 (by omega)] at hi | rw [Z.tk9 (by omega)] at hi | rw [Z.tk10 (by omega)] at hi | rw [Z.tk11 (by omega)] at hi | rw [Z.tk12 (by omega)] at hi
    simp only [Z.Ins.mk.injEq] at hi
    obtain ⟨-, h1, h2, h3, h4, h5⟩ := hi
    simp (decide := true) only [Tr.all, hnm, restV, decide_true, decide_false, cond_true, cond_false, Bool.cond_true_left, Bool.cond_false_left, if_true, if_false, or_true, true_or, or_false, false_or, Bool.or_eq_true, Bool.or_eq_false_iff, Bool.not_eq_true', Bool.not_eq_false', Bool.and_eq_true, Bool.and_eq_false_iff, decide_eq_true_eq, decide_eq_false_iff_not, true_implies, false_implies, and_true, true_and, implies_true]
    repeat' (first | with_reducible apply And.intro | with_reducible intro)
    all_goals first
      | omega
      | (exfalso; omega)
      | (refine leafT h ?_; simp (decide := true) only [bareW, Z.layOf, Z.Lay.word, if_true, if_false, or_true, true_or, or_false, false_or]; omega)
      | (refine leafT h ?_; simp (decide := true) only [Z.layOf, Z.Lay.word, if_true, if_false, or_true, true_or, or_false, false_or]; rw [Z.wU32i (z := im % 65536) (by omega), Z.wU32i (by omega)]; omega)
      | (refine leafT h ?_; simp (decide := true) only [Z.layOf, Z.Lay.word, if_true, if_false, or_true, true_or, or_false, false_or]; rw [Z.wI64 (z := M * 67108864) (by omega), Z.wI64 (z := M * 67108864 + im % 67108864) (by omega), Z.wU32i (by omega)]; omega)
  · obtain rfl : fo = [77, 68] := hfl
    first | rw [Z.tk0 (by omega)] at hi | rw [Z.tk1 (by omega)] at hi | rw [Z.tk2 (by omega)] at hi | rw [Z.tk3 (by omega)] at hi | rw [Z.tk4 (by omega)] at hi | rw [Z.tk5 (by omega)] at hi | rw [Z.tk6 (by omega)] at hi | rw [Z.tk7 (by omega)] at hi | rw [Z.tk8 (by omega)] at hi | rw [Z.tk9 (by omega)] at hi | rw [Z.tk10 (by omega)] at hi | rw [Z.tk11 (by omega)] at hi | rw [Z.tk12 (by omega)] at hi
    simp only [Z.Ins.mk.injEq] at hi
    obtain ⟨-, h1, h2, h3, h4, h5⟩ := hi
    simp (decide := true) only [Tr.all, hnm, restV, decide_true, decide_false, cond_true, cond_false, Bool.cond_true_left, Bool.cond_false_left, if_true, if_false, or_true, true_or, or_false, false_or, Bool.or_eq_true, Bool.or_eq_false_iff, Bool.not_eq_true', Bool.not_eq_false', Bool.and_eq_true, Bool.and_eq_false_iff, decide_eq_true_eq, decide_eq_false_iff_not, true_implies, false_implies, and_true, true_and, implies_true]
    repeat' (first | with_reducible apply And.intro | with_reducible intro)
    all_goals first
      | omega
      | (exfalso; omega)
      | (refine leafT h ?_; simp (decide := true) only [bareW, Z.layOf, Z.Lay.word, if_true, if_false, or_true, true_or, or_false, false_or]; omega)
      | (refine leafT h ?_; simp (decide := true) only [Z.layOf, Z.Lay.word, if_true, if_false, or_true, true_or, or_false, false_or]; rw [Z.wU32i (z := im % 65536) (by omega), Z.wU32i (by omega)]; omega)
      | (refine leafT h ?_; simp (decide := true) only [Z.layOf, Z.Lay.word, if_true, if_false, or_true, true_or, or_false, false_or]; rw [Z.wI64 (z := M * 67108864) (by omega), Z.wI64 (z := M * 67108864 + im % 67108864) (by omega), Z.wU32i (by omega)]; omega)
  · obtain rfl : fo = [67, 76] := hfl
    first | rw [Z.tk0 (by omega)] at hi | rw [Z.tk1 (by omega)] at hi | rw [Z.tk2 (by omega)] at hi | rw [Z.tk3 (by omega)] at hi | rw [Z.tk4 (by omega)] at hi | rw [Z.tk5 (by omega)] at hi | rw [Z.tk6 (by omega)] at hi | rw [Z.tk7 (by omega)] at hi | rw [Z.tk8 (by omega)] at hi | rw [Z.tk9 (by omega)] at hi | rw [Z.tk10 (by omega)] at hi | rw [Z.tk11 (by omega)] at hi | rw [Z.tk12 (by omega)] at hi
    simp only [Z.Ins.mk.injEq] at hi
    obtain ⟨-, h1, h2, h3, h4, h5⟩ := hi
    simp (decide := true) only [Tr.all, hnm, restV, decide_true, decide_false, cond_true, cond_false, Bool.cond_true_left, Bool.cond_false_left, if_true, if_false, or_true, true_or, or_false, false_or, Bool.or_eq_true, Bool.or_eq_false_iff, Bool.not_eq_true', Bool.not_eq_false', Bool.and_eq_true, Bool.and_eq_false_iff, decide_eq_true_eq, decide_eq_false_iff_not, true_implies, false_implies, and_true, true_and, implies_true]
    repeat' (first | with_reducible apply And.intro | with_reducible intro)
    all_goals first
      | omega
      | (exfalso; omega)
      | (refine leafT h ?_; simp (decide := true) only [bareW, Z.layOf, Z.Lay.word, if_true, if_false, or_true, true_or, or_false, false_or]; omega)
      | (refine leafT h ?_; simp (decide := true) only [Z.layOf, Z.Lay.word, if_true, if_false, or_true, true_or, or_false, false_or]; rw [Z.wU32i (z := im % 65536) (by omega), Z.wU32i (by omega)]; omega)
      | (refine leafT h ?_; simp (decide := true) only [Z.layOf, Z.Lay.word, if_true, if_false, or_true, true_or, or_false, false_or]; rw [Z.wI64 (z := M * 67108864) (by omega), Z.wI64 (z := M * 67108864 + im % 67108864) (by omega), Z.wU32i (by omega)]; omega)
  · obtain rfl : fo = [66, 90] := hfl
    first | rw [Z.tk0 (by omega)] at hi | rw [Z.tk1 (by omega)] at hi | rw [Z.tk2 (by omega)] at hi | rw [Z.tk3 (by omega)] at hi | rw [Z.tk4 (by omega)] at hi | rw [Z.tk5 (by omega)] at hi | rw [Z.tk6 (by omega)] at hi | rw [Z.tk7 (by omega)] at hi | rw [Z.tk8 (by omega)] at hi | rw [Z.tk9 (by omega)] at hi | rw [Z.tk10 (by omega)] at hi | rw [Z.tk11 (by omega)] at hi | rw [Z.tk12 (by omega)] at hi
    simp only [Z.Ins.mk.injEq] at hi
    obtain ⟨-, h1, h2, h3, h4, h5⟩ := hi
    simp (decide := true) only [Tr.all, hnm, restV, decide_true, decide_false, cond_true, cond_false, Bool.cond_true_left, Bool.cond_false_left, if_true, if_false, or_true, true_or, or_false, false_or, Bool.or_eq_true, Bool.or_eq_false_iff, Bool.not_eq_true', Bool.not_eq_false', Bool.and_eq_true, Bool.and_eq_false_iff, decide_eq_true_eq, decide_eq_false_iff_not, true_implies, false_implies, and_true, true_and, implies_true]
    repeat' (first | with_reducible apply And.intro | with_reducible intro)
    all_goals first
      | omega
      | (exfalso; omega)
      | (refine leafT h ?_; simp (decide := true) only [bareW, Z.layOf, Z.Lay.word, if_true, if_false, or_true, true_or, or_false, false_or]; omega)
      | (refine leafT h ?_; simp (decide := true) only [Z.layOf, Z.Lay.word, if_true, if_false, or_true, true_or, or_false, false_or]; rw [Z.wU32i (z := im % 65536) (by omega), Z.wU32i (by omega)]; omega)
      | (refine leafT h ?_; simp (decide := true) only [Z.layOf, Z.Lay.word, if_true, if_false, or_true, true_or, or_false, false_or]; rw [Z.wI64 (z := M * 67108864) (by omega), Z.wI64 (z := M * 67108864 + im % 67108864) (by omega), Z.wU32i (by omega)]; omega)
  · obtain rfl : fo = [74] := hfl
    first | rw [Z.tk0 (by omega)] at hi | rw [Z.tk1 (by omega)] at hi | rw [Z.tk2 (by omega)] at hi | rw [Z.tk3 (by omega)] at hi | rw [Z.tk4 (by omega)] at hi | rw [Z.tk5 (by omega)] at hi | rw [Z.tk6 (by omega)] at hi | rw [Z.tk7 (by omega)] at hi | rw [Z.tk8 (by omega)] at hi | rw [Z.tk9 (by omega)] at hi | rw [Z.tk10 (by omega)] at hi | rw [Z.tk11 (by omega)] at hi | rw [Z.tk12 (by omega)] at hi
    simp only [Z.Ins.mk.injEq] at hi
    obtain ⟨-, h1, h2, h3, h4, h5⟩ := hi
    simp (decide := true) only [Tr.all, hnm, restV, decide_true, decide_false, cond_true, cond_false, Bool.cond_true_left, Bool.cond_false_left, if_true, if_false, or_true, true_or, or_false, false_or, Bool.or_eq_true, Bool.or_eq_false_iff, Bool.not_eq_true', Bool.not_eq_false', Bool.and_eq_true, Bool.and_eq_false_iff, decide_eq_true_eq, decide_eq_false_iff_not, true_implies, false_implies, and_true, true_and, implies_true]
    repeat' (first | with_reducible apply And.intro | with_reducible intro)
    all_goals first
      | omega
      | (exfalso; omega)
      | (refine leafT h ?_; simp (decide := true) only [bareW, Z.layOf, Z.Lay.word, if_true, if_false, or_true, true_or, or_false, false_or]; omega)
      | (refine leafT h ?_; simp (decide := true) only [Z.layOf, Z.Lay.word, if_true, if_false, or_true, true_or, or_false, false_or]; rw [Z.wU32i (z := im % 65536) (by omega), Z.wU32i (by omega)]; omega)
      | (refine leafT h ?_; simp (decide := true) only [Z.layOf, Z.Lay.word, if_true, if_false, or_true, true_or, or_false, false_or]; rw [Z.wI64 (z := M * 67108864) (by omega), Z.wI64 (z := M * 67108864 + im % 67108864) (by omega), Z.wU32i (by omega)]; omega)
  · obtain rfl : fo = [66, 50] := hfl
    first | rw [Z.tk0 (by omega)] at hi | rw [Z.tk1 (by omega)] at hi | rw [Z.tk2 (by omega)] at hi | rw [Z.tk3 (by omega)] at hi | rw [Z.tk4 (by omega)] at hi | rw [Z.tk5 (by omega)] at hi | rw [Z.tk6 (by omega)] at hi | rw [Z.tk7 (by omega)] at hi | rw [Z.tk8 (by omega)] at hi | rw [Z.tk9 (by omega)] at hi | rw [Z.tk10 (by omega)] at hi | rw [Z.tk11 (by omega)] at hi | rw [Z.tk12 (by omega)] at hi
    simp only [Z.Ins.mk.injEq] at hi
    obtain ⟨-, h1, h2, h3, h4, h5⟩ := hi
    simp (decide := true) only [Tr.all, hnm, restV, decide_true, decide_false, cond_true, cond_false, Bool.cond_true_left, Bool.cond_false_left, if_true, if_false, or_true, true_or, or_false, false_or, Bool.or_eq_true, Bool.or_eq_false_iff, Bool.not_eq_true', Bool.not_eq_false', Bool.and_eq_true, Bool.and_eq_false_iff, decide_eq_true_eq, decide_eq_false_iff_not, true_implies, false_implies, and_true, true_and, implies_true]
    repeat' (first | with_reducible apply And.intro | with_reducible intro)
    all_goals first
      | omega
      | (exfalso; omega)
      | (refine leafT h ?_; simp (decide := true) only [bareW, Z.layOf, Z.Lay.word, if_true, if_false, or_true, true_or, or_false, false_or]; omega)
      | (refine leafT h ?_; simp (decide := true) only [Z.layOf, Z.Lay.word, if_true, if_false, or_true, true_or, or_false, false_or]; rw [Z.wU32i (z := im % 65536) (by omega), Z.wU32i (by omega)]; omega)
      | (refine leafT h ?_; simp (decide := true) only [Z.layOf, Z.Lay.word, if_true, if_false, or_true, true_or, or_false, false_or]; rw [Z.wI64 (z := M * 67108864) (by omega), Z.wI64 (z := M * 67108864 + im % 67108864) (by omega), Z.wU32i (by omega)]; omega)
  · obtain rfl : fo = [73] := hfl
    first | rw [Z.tk0 (by omega)] at hi | rw [Z.tk1 (by omega)] at hi | rw [Z.tk2 (by omega)] at hi | rw [Z.tk3 (by omega)] at hi | rw [Z.tk4 (by omega)] at hi | rw [Z.tk5 (by omega)] at hi | rw [Z.tk6 (by omega)] at hi | rw [Z.tk7 (by omega)] at hi | rw [Z.tk8 (by omega)] at hi | rw [Z.tk9 (by omega)] at hi | rw [Z.tk10 (by omega)] at hi | rw [Z.tk11 (by omega)] at hi | rw [Z.tk12 (by omega)] at hi
    simp only [Z.Ins.mk.injEq] at hi
    obtain ⟨-, h1, h2, h3, h4, h5⟩ := hi
    simp (decide := true) only [Tr.all, hnm, restV, decide_true, decide_false, cond_true, cond_false, Bool.cond_true_left, Bool.cond_false_left, if_true, if_false, or_true, true_or, or_false, false_or, Bool.or_eq_true, Bool.or_eq_false_iff, Bool.not_eq_true', Bool.not_eq_false', Bool.and_eq_true, Bool.and_eq_false_iff, decide_eq_true_eq, decide_eq_false_iff_not, true_implies, false_implies, and_true, true_and, implies_true]
    repeat' (first | with_reducible apply And.intro | with_reducible intro)
    all_goals first
      | omega
      | (exfalso; omega)
      | (refine leafT h ?_; simp (decide := true) only [bareW, Z.layOf, Z.Lay.word, if_true, if_false, or_true, true_or, or_false, false_or]; omega)
      | (refine leafT h ?_; simp (decide := true) only [Z.layOf, Z.Lay.word, if_true, if_false, or_true, true_or, or_false, false_or]; rw [Z.wU32i (z := im % 65536) (by omega), Z.wU32i (by omega)]; omega)
      | (refine leafT h ?_; simp (decide := true) only [Z.layOf, Z.Lay.word, if_true, if_false, or_true, true_or, or_false, false_or]; rw [Z.wI64 (z := M * 67108864) (by omega), Z.wI64 (z := M * 67108864 + im % 67108864) (by omega), Z.wU32i (by omega)]; omega)
  · obtain rfl : fo = [73, 85] := hfl
    first | rw [Z.tk0 (by omega)] at hi | rw [Z.tk1 (by omega)] at hi | rw [Z.tk2 (by omega)] at hi | rw [Z.tk3 (by omega)] at hi | rw [Z.tk4 (by omega)] at hi | rw [Z.tk5 (by omega)] at hi | rw [Z.tk6 (by omega)] at hi | rw [Z.tk7 (by omega)] at hi | rw [Z.tk8 (by omega)] at hi | rw [Z.tk9 (by omega)] at hi | rw [Z.tk10 (by omega)] at hi | rw [Z.tk11 (by omega)] at hi | rw [Z.tk12 (by omega)] at hi
    simp only [Z.Ins.mk.injEq] at hi
    obtain ⟨-, h1, h2, h3, h4, h5⟩ := hi
    simp (decide := true) only [Tr.all, hnm, restV, decide_true, decide_false, cond_true, cond_false, Bool.cond_true_left, Bool.cond_false_left, if_true, if_false, or_true, true_or, or_false, false_or, Bool.or_eq_true, Bool.or_eq_false_iff, Bool.not_eq_true', Bool.not_eq_false', Bool.and_eq_true, Bool.and_eq_false_iff, decide_eq_true_eq, decide_eq_false_iff_not, true_implies, false_implies, and_true, true_and, implies_true]
    repeat' (first | with_reducible apply And.intro | with_reducible intro)
    all_goals first
      | omega
      | (exfalso; omega)
      | (refine leafT h ?_; simp (decide := true) only [bareW, Z.layOf, Z.Lay.word, if_true, if_false, or_true, true_or, or_false, false_or]; omega)
      | (refine leafT h ?_; simp (decide := true) only [Z.layOf, Z.Lay.word, if_true, if_false, or_true, true_or, or_false, false_or]; rw [Z.wU32i (z := im % 65536) (by omega), Z.wU32i (by omega)]; omega)
      | (refine leafT h ?_; simp (decide := true) only [Z.layOf, Z.Lay.word, if_true, if_false, or_true, true_or, or_false, false_or]; rw [Z.wI64 (z := M * 67108864) (by omega), Z.wI64 (z := M * 67108864 + im % 67108864) (by omega), Z.wU32i (by omega)]; omega)
  · obtain rfl : fo = [76, 85, 73] := hfl
    first | rw [Z.tk0 (by omega)] at hi | rw [Z.tk1 (by omega)] at hi | rw [Z.tk2 (by omega)] at hi | rw [Z.tk3 (by omega)] at hi | rw [Z.tk4 (by omega)] at hi | rw [Z.tk5 (by omega)] at hi | rw [Z.tk6 (by omega)] at hi | rw [Z.tk7 (by omega)] at hi | rw [Z.tk8 (by omega)] at hi | rw [Z.tk9 (by omega)] at hi | rw [Z.tk10 (by omega)] at hi | rw [Z.tk11 (by omega)] at hi | rw [Z.tk12 (by omega)] at hi
    simp only [Z.Ins.mk.injEq] at hi
    obtain ⟨-, h1, h2, h3, h4, h5⟩ := hi
    simp (decide := true) only [Tr.all, hnm, restV, decide_true, decide_false, cond_true, cond_false, Bool.cond_true_left, Bool.cond_false_left, if_true, if_false, or_true, true_or, or_false, false_or, Bool.or_eq_true, Bool.or_eq_false_iff, Bool.not_eq_true', Bool.not_eq_false', Bool.and_eq_true, Bool.and_eq_false_iff, decide_eq_true_eq, decide_eq_false_iff_not, true_implies, false_implies, and_true, true_and, implies_true]
    repeat' (first | with_reducible apply And.intro | with_reducible intro)
    all_goals first
      | omega
      | (exfalso; omega)
      | (refine leafT h ?_; simp (decide := true) only [bareW, Z.layOf, Z.Lay.word, if_true, if_false, or_true, true_or, or_false, false_or]; omega)
      | (refine leafT h ?_; simp (decide := true) only [Z.layOf, Z.Lay.word, if_true, if_false, or_true, true_or, or_false, false_or]; rw [Z.wU32i (z := im % 65536) (by omega), Z.wU32i (by omega)]; omega)
      | (refine leafT h ?_; simp (decide := true) only [Z.layOf, Z.Lay.word, if_true, if_false, or_true, true_or, or_false, false_or]; rw [Z.wI64 (z := M * 67108864) (by omega), Z.wI64 (z := M * 67108864 + im % 67108864) (by omega), Z.wU32i (by omega)]; omega)
  · obtain rfl : fo = [67, 48] := hfl
    first | rw [Z.tk0 (by omega)] at hi | rw [Z.tk1 (by omega)] at hi | rw [Z.tk2 (by omega)] at hi | rw [Z.tk3 (by omega)] at hi | rw [Z.tk4 (by omega)] at hi | rw [Z.tk5 (by omega)] at hi | rw [Z.tk6 (by omega)] at hi | rw [Z.tk7 (by omega)] at hi | rw [Z.tk8 (by omega)] at hi | rw [Z.tk9 (by omega)] at hi | rw [Z.tk10 (by omega)] at hi | rw [Z.tk11 (by omega)] at hi | rw [Z.tk12 (by omega)] at hi
    simp only [Z.Ins.mk.injEq] at hi
    obtain ⟨-, h1, h2, h3, h4, h5⟩ := hi
    simp (decide := true) only [Tr.all, hnm, restV, decide_true, decide_false, cond_true, cond_false, Bool.cond_true_left, Bool.cond_false_left, if_true, if_false, or_true, true_or, or_false, false_or, Bool.or_eq_true, Bool.or_eq_false_iff, Bool.not_eq_true', Bool.not_eq_false', Bool.and_eq_true, Bool.and_eq_false_iff, decide_eq_true_eq, decide_eq_false_iff_not, true_implies, false_implies, and_true, true_and, implies_true]
    repeat' (first | with_reducible apply And.intro | with_reducible intro)
    all_goals first
      | omega
      | (exfalso; omega)
      | (refine leafT h ?_; simp (decide := true) only [bareW, Z.layOf, Z.Lay.word, if_true, if_false, or_true, true_or, or_false, false_or]; omega)
      | (refine leafT h ?_; simp (decide := true) only [Z.layOf, Z.Lay.word, if_true, if_false, or_true, true_or, or_false, false_or]; rw [Z.wU32i (z := im % 65536) (by omega), Z.wU32i (by omega)]; omega)
      | (refine leafT h ?_; simp (decide := true) only [Z.layOf, Z.Lay.word, if_true, if_false, or_true, true_or, or_false, false_or]; rw [Z.wI64 (z := M * 67108864) (by omega), Z.wI64 (z := M * 67108864 + im % 67108864) (by omega), Z.wU32i (by omega)]; omega)
  · obtain rfl : fo = [67, 79] := hfl
    first | rw [Z.tk0 (by omega)] at hi | rw [Z.tk1 (by omega)] at hi | rw [Z.tk2 (by omega)] at hi | rw [Z.tk3 (by omega)] at hi | rw [Z.tk4 (by omega)] at hi | rw [Z.tk5 (by omega)] at hi | rw [Z.tk6 (by omega)] at hi | rw [Z.tk7 (by omega)] at hi | rw [Z.tk8 (by omega)] at hi | rw [Z.tk9 (by omega)] at hi | rw [Z.tk10 (by omega)] at hi | rw [Z.tk11 (by omega)] at hi | rw [Z.tk12 (by omega)] at hi
    simp only [Z.Ins.mk.injEq] at hi
    obtain ⟨-, h1, h2, h3, h4, h5⟩ := hi
    simp (decide := true) only [Tr.all, hnm, restV, decide_true, decide_false, cond_true, cond_false, Bool.cond_true_left, Bool.cond_false_left, if_true, if_false, or_true, true_or, or_false, false_or, Bool.or_eq_true, Bool.or_eq_false_iff, Bool.not_eq_true', Bool.not_eq_false', Bool.and_eq_true, Bool.and_eq_false_iff, decide_eq_true_eq, decide_eq_false_iff_not, true_implies, false_implies, and_true, true_and, implies_true]
    repeat' (first | with_reducible apply And.intro | with_reducible intro)
    all_goals first
      | omega
      | (exfalso; omega)
      | (refine leafT h ?_; simp (decide := true) only [bareW, Z.layOf, Z.Lay.word, if_true, if_false, or_true, true_or, or_false, false_or]; omega)
      | (refine leafT h ?_; simp (decide := true) only [Z.layOf, Z.Lay.word, if_true, if_false, or_true, true_or, or_false, false_or]; rw [Z.wU32i (z := im % 65536) (by omega), Z.wU32i (by omega)]; omega)
      | (refine leafT h ?_; simp (decide := true) only [Z.layOf, Z.Lay.word, if_true, if_false, or_true, true_or, or_false, false_or]; rw [Z.wI64 (z := M * 67108864) (by omega), Z.wI64 (z := M * 67108864 + im % 67108864) (by omega), Z.wU32i (by omega)]; omega)
  · obtain rfl : fo = [77] := hfl
    first | rw [Z.tk0 (by omega)] at hi | rw [Z.tk1 (by omega)] at hi | rw [Z.tk2 (by omega)] at hi | rw [Z.tk3 (by omega)] at hi | rw [Z.tk4 (by omega)] at hi | rw [Z.tk5 (by omega)] at hi | rw [Z.tk6 (by omega)] at hi | rw [Z.tk7 (by omega)] at hi | rw [Z.tk8 (by omega)] at hi | rw [Z.tk9 (by omega)] at hi | rw [Z.tk10 (by omega)] at hi | rw [Z.tk11 (by omega)] at hi | rw [Z.tk12 (by omega)] at hi
    simp only [Z.Ins.mk.injEq] at hi
    obtain ⟨-, h1, h2, h3, h4, h5⟩ := hi
    simp (decide := true) only [Tr.all, hnm, restV, decide_true, decide_false, cond_true, cond_false, Bool.cond_true_left, Bool.cond_false_left, if_true, if_false, or_true, true_or, or_false, false_or, Bool.or_eq_true, Bool.or_eq_false_iff, Bool.not_eq_true', Bool.not_eq_false', Bool.and_eq_true, Bool.and_eq_false_iff, decide_eq_true_eq, decide_eq_false_iff_not, true_implies, false_implies, and_true, true_and, implies_true]
    repeat' (first | with_reducible apply And.intro | with_reducible intro)
    all_goals first
      | omega
      | (exfalso; omega)
      | (refine leafT h ?_; simp (decide := true) only [bareW, Z.layOf, Z.Lay.word, if_true, if_false, or_true, true_or, or_false, false_or]; omega)
      | (refine leafT h ?_; simp (decide := true) only [Z.layOf, Z.Lay.word, if_true, if_false, or_true, true_or, or_false, false_or]; rw [Z.wU32i (z := im % 65536) (by omega), Z.wU32i (by omega)]; omega)
      | (refine leafT h ?_; simp (decide := true) only [Z.layOf, Z.Lay.word, if_true, if_false, or_true, true_or, or_false, false_or]; rw [Z.wI64 (z := M * 67108864) (by omega), Z.wI64 (z := M * 67108864 + im % 67108864) (by omega), Z.wU32i (by omega)]; omega)
  
noncomputable def con_zoetroperef04_Encode : Con := ⟨true, fun args H W => match args, H, W with
  | [(.v (.agg [.one (.i .i64 op), .one (.i .i64 rs), .one (.i .i64 rt), .one (.i .i64 rd), .one (.i .i64 sa), .one (.i .i64 im)]))], [], _ => .ass ((0 ≤ op ∧ op < 69) ∧ ∃ w, U32 w ∧ (⟨op, rs, rt, rd, sa, im⟩ : Z.Ins) = Z.takeOf (fO op) op w) (.ret (.tup [.c (.i .u32 ((Z.layOf (fO op) (minO op) ⟨op, rs, rt, rd, sa, im⟩).word (majO op))), .c (.i .i64 0)], []))
  | _, _, _ => .stuck 900⟩
theorem ok_zoetroperef04_Encode : ConOK Try.prog 37 con_zoetroperef04_Encode := con_ok (code := (codeOf Try.f37)) (N := 138) (rs := [.tmp 2, .tmp 3]) cx_zoetroperef04_Encode_ok 0 Try.func37 rfl rfl rfl (fun _ _ _ _ _ => LpOK.no (by kernel_rfl)) (by
  intro args H W K h hro
  unfold con_zoetroperef04_Encode at h
  simp only at h
  split at h
  · refine ⟨rfl, ?_⟩
    rw [run_zoetroperef04_Encode]
    exact pf_zoetroperef04_Encode _ _ _ _ _ _ K h
  · exact h.elim)
end Go.Y
