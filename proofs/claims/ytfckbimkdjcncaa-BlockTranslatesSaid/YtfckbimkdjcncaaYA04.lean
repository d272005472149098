/- PRINTED by wip/tools/ybuild.py: contracts of ir.does, zoetroperef14.Value. -/
import Derived.Test.YtfckbimkdjcncaaYTyA
import Derived.Test.YtfckbimkdjcncaaG6
import Derived.Test.YtfckbimkdjcncaaYA00
import Derived.Test.YtfckbimkdjcncaaYA01
import Derived.Test.YtfckbimkdjcncaaYA02
import Derived.Test.YtfckbimkdjcncaaYA03
set_option maxRecDepth 100000
set_option linter.unusedSimpArgs false
set_option linter.unusedVariables false
namespace Go.Y
open Go.Proofs Go.X
open Go.Z (U32 Regs rg kindOf lessOf shiftOf fillOf sg bitAt withBit bnor bor band bxor b01 bitsOf)
noncomputable def cx_ir_does : Ctx := mkCtx tys eqs [(46, con_ir_value), (18, con_ir_Value)] []
theorem cx_ir_does_ok : CtxOK Try.prog cx_ir_does := mkCtx_ok _ mixed tys_ok eqs_ok ⟨⟨ok_ir_value, Try.call46⟩, ⟨⟨ok_ir_Value, Try.call18⟩, trivial⟩⟩
noncomputable def out_ir_does (k : Int) (d : Int) (a : Int) (b : Int) (i : Int) (c : Int) (r : List (Sh 0)) : Tr (SV × List Bk) :=
Tr.ite (bif !decide (k = (0 : Int)) then !decide (bits BinOp.and IntKind.i64 d (31 : Int) = (0 : Int)) else false)
 (Tr.ass (Z.U32 (X.valueOf i a r) ∧ Z.U32 (X.valueOf i b r) ∧ Z.U32 i)
 (Tr.ass ((0 : Int) ≤ bits BinOp.and IntKind.i64 d (31 : Int) ∧ bits BinOp.and IntKind.i64 d (31 : Int) < (↑(32 : Nat) : Int))
 (Tr.ass (Int.toNat (bits BinOp.and IntKind.i64 d (31 : Int)) < (32 : Nat))
 (Tr.ret
 (SV.tup [],
 [Bk.mk (nat_lit 32)
 [Seg.arr (nat_lit 0) (nat_lit 32) (List.set r (Int.toNat (bits BinOp.and IntKind.i64 d (31 : Int))) (Z.valOf k (X.valueOf i a r) (X.valueOf i b r) i))]
 true])))))
 (Tr.ret (SV.tup [], [Bk.mk (nat_lit 32) [Seg.arr (nat_lit 0) (nat_lit 32) r] true]))

theorem run_ir_does (k : Int) (d : Int) (a : Int) (b : Int) (i : Int) (c : Int) (r : List (Sh 0)) (W : List Rw) : runF cx_ir_does 34 [] (codeOf Try.f29) [(.v (.agg [.one (.i .i64 k), .one (.i .i64 d), .one (.i .i64 a), .one (.i .i64 b), .one (.i .u32 i), .one (.i .i64 c)])), (.v (.c (.p 0 0)))] [⟨32, [.arr 0 32 r], true⟩] W = out_ir_does k d a b i c r := by kernel_rfl
theorem pf_ir_does (k : Int) (d : Int) (a : Int) (b : Int) (i : Int) (c : Int) (r : List (Sh 0)) (K : SV × List Bk → Prop) (h : (.ass (U32 i ∧ Regs r) (.ret (.tup [], [⟨32, [.arr 0 32 (doesOf ⟨k, d, a, b, i, c⟩ r)], true⟩])) : Tr (SV × List Bk)).all K) : (out_ir_does k d a b i c r).all K := by
  obtain ⟨hp, h⟩ := h
  replace h := h hp
  replace h : K _ := h
  unfold out_ir_does
  simp only [Tr.all]
  have hb31 : bits .and .i64 d 31 = d % 32 := Z.bM_i64 5 (by decide) (by decide) (by decide)
  rw [hb31]
  have h0 : 0 ≤ d % 32 ∧ d % 32 < 32 := by omega
  refine ⟨fun h1 => ⟨⟨valueOf_u32 hp.1 hp.2, valueOf_u32 hp.1 hp.2, hp.1⟩, fun _ => ⟨h0, fun _ => ⟨by omega, fun _ => ?_⟩⟩⟩, fun h1 => ?_⟩
  · have h2 : k ≠ 0 ∧ d % 32 ≠ 0 := by
      simp only [Bool.cond_false_right, Bool.and_eq_true, Bool.not_eq_true', decide_eq_false_iff_not] at h1
      exact h1
    rw [doesOf, if_pos h2] at h
    exact h
  · have h2 : ¬ (k ≠ 0 ∧ d % 32 ≠ 0) := by
      intro h3
      simp [h3] at h1
    rw [doesOf, if_neg h2] at h
    exact h
noncomputable def con_ir_does : Con := ⟨false, fun args H W => match args, H, W with
  | [(.v (.agg [.one (.i .i64 k), .one (.i .i64 d), .one (.i .i64 a), .one (.i .i64 b), .one (.i .u32 i), .one (.i .i64 c)])), (.v (.c (.p 0 0)))], [⟨32, [.arr 0 32 r], true⟩], _ => .ass (U32 i ∧ Regs r) (.ret (.tup [], [⟨32, [.arr 0 32 (doesOf ⟨k, d, a, b, i, c⟩ r)], true⟩]))
  | _, _, _ => .stuck 900⟩
theorem ok_ir_does : ConOK Try.prog 29 con_ir_does := con_ok (code := (codeOf Try.f29)) (N := 34) (rs := []) cx_ir_does_ok 1 Try.func29 rfl rfl rfl (fun _ _ _ _ _ => LpOK.no (by kernel_rfl)) (by
  intro args H W K h hro
  unfold con_ir_does at h
  simp only at h
  split at h
  · refine ⟨rfl, ?_⟩
    rw [run_ir_does]
    exact pf_ir_does _ _ _ _ _ _ _ K h
  · exact h.elim)
noncomputable def cx_zoetroperef14_Value : Ctx := mkCtx tys eqs [(23, con_zoetroperef01_Word), (34, con_zoetroperef01_Mean), (33, con_zoetroperef09_Bit), (35, con_zoetroperef01_Shift), (36, con_zoetroperef14_bits)] []
theorem cx_zoetroperef14_Value_ok : CtxOK Try.prog cx_zoetroperef14_Value := mkCtx_ok _ mixed tys_ok eqs_ok ⟨⟨ok_zoetroperef01_Word, Try.call23⟩, ⟨⟨ok_zoetroperef01_Mean, Try.call34⟩, ⟨⟨ok_zoetroperef09_Bit, Try.call33⟩, ⟨⟨ok_zoetroperef01_Shift, Try.call35⟩, ⟨⟨ok_zoetroperef14_bits, Try.call36⟩, trivial⟩⟩⟩⟩⟩
noncomputable def out_zoetroperef14_Value (k : Int) (a : Int) (b : Int) (i : Int) : Tr (SV × List Bk) :=
Tr.ite (decide (k = (1 : Int))) (Tr.ret (SV.v (V1.c (Sc.i IntKind.u32 i)), []))
 (Tr.ite (decide (k = (2 : Int))) (Tr.ret (SV.v (V1.c (Sc.i IntKind.u32 a)), []))
 (Tr.ite (decide (k = (3 : Int)))
 (Tr.ret (SV.v (V1.c (Sc.i IntKind.u32 (IntKind.wrap IntKind.i64 (IntKind.wrap IntKind.i64 a + IntKind.wrap IntKind.i64 b) % (4294967296 : Int)))), []))
 (Tr.ite (decide (k = (4 : Int)))
 (Tr.ret (SV.v (V1.c (Sc.i IntKind.u32 (IntKind.wrap IntKind.i64 (IntKind.wrap IntKind.i64 a - IntKind.wrap IntKind.i64 b) % (4294967296 : Int)))), []))
 (Tr.ite (decide (k = (9 : Int)))
 (Tr.ass (Z.U32 a) (Tr.ass (Z.U32 b) (Tr.ret (SV.v (V1.c (Sc.i IntKind.u32 (Z.b01 (decide (Z.sg a < Z.sg b))))), []))))
 (Tr.ite (decide (k = (10 : Int))) (Tr.ret (SV.v (V1.c (Sc.i IntKind.u32 (Z.b01 (decide (a < b))))), []))
 (Tr.ite (decide (k = (11 : Int)))
 (Tr.ass ((32 : Int) ≠ (0 : Int))
 (Tr.ass (Z.U32 a) (Tr.ret (SV.v (V1.c (Sc.i IntKind.u32 (Z.shiftOf (0 : Int) a (Int.tmod (IntKind.wrap IntKind.i64 b) (32 : Int))))), []))))
 (Tr.ite (decide (k = (12 : Int)))
 (Tr.ass ((32 : Int) ≠ (0 : Int))
 (Tr.ass (Z.U32 a) (Tr.ret (SV.v (V1.c (Sc.i IntKind.u32 (Z.shiftOf (1 : Int) a (Int.tmod (IntKind.wrap IntKind.i64 b) (32 : Int))))), []))))
 (Tr.ite (decide (k = (13 : Int)))
 (Tr.ass ((32 : Int) ≠ (0 : Int))
 (Tr.ass (Z.U32 a) (Tr.ret (SV.v (V1.c (Sc.i IntKind.u32 (Z.shiftOf (2 : Int) a (Int.tmod (IntKind.wrap IntKind.i64 b) (32 : Int))))), []))))
 (Tr.ass (Z.U32 a ∧ Z.U32 b) (Tr.ret (SV.v (V1.c (Sc.i IntKind.u32 (Z.bitsOf k a b))), [])))))))))))

theorem run_zoetroperef14_Value (k : Int) (a : Int) (b : Int) (i : Int) (W : List Rw) : runF cx_zoetroperef14_Value 71 [.tmp 8] (codeOf Try.f19) [(.v (.c (.i .i64 k))), (.v (.c (.i .u32 a))), (.v (.c (.i .u32 b))), (.v (.c (.i .u32 i)))] [] W = out_zoetroperef14_Value k a b i := by kernel_rfl
theorem pf_zoetroperef14_Value (k : Int) (a : Int) (b : Int) (i : Int) (K : SV × List Bk → Prop) (h : (.ass ((U32 a ∧ U32 b ∧ U32 i) ∧ 1 ≤ k ∧ k ≤ 13) (.ret (.v (.c (.i .u32 (Z.valOf k a b i))), [])) : Tr (SV × List Bk)).all K) : (out_zoetroperef14_Value k a b i).all K := by
  obtain ⟨hp, h⟩ := h
  replace h := h hp
  replace h : K _ := h
  obtain ⟨⟨ha, hb, hi⟩, hk1, hk2⟩ := hp
  have ha1 := ha.1; have ha2 := ha.2; have hb1 := hb.1; have hb2 := hb.2
  unfold out_zoetroperef14_Value
  simp only [Tr.all]
  rw [Z.wI64 (z := a) (by omega), Z.wI64 (z := b) (by omega), Z.wI64 (z := a + b) (by omega), Z.wI64 (z := a - b) (by omega), Z.tmod_nn hb1 (show (0 : Int) < 32 by omega)]
  repeat' (first | with_reducible apply And.intro | with_reducible intro)
  all_goals first | exact ha1 | exact ha2 | exact hb1 | exact hb2 | (refine leafI h ?_; simp only [decide_eq_true_eq, decide_eq_false_iff_not] at *; simp_all [Z.valOf, lessOf, bitsOf]; done) | (refine leafI h ?_; simp only [decide_eq_true_eq, decide_eq_false_iff_not] at *; simp only [Z.valOf, bitsOf]; (repeat' split) <;> first | rfl | omega) | omega
noncomputable def con_zoetroperef14_Value : Con := ⟨true, fun args H W => match args, H, W with
  | [(.v (.c (.i .i64 k))), (.v (.c (.i .u32 a))), (.v (.c (.i .u32 b))), (.v (.c (.i .u32 i)))], [], _ => .ass ((U32 a ∧ U32 b ∧ U32 i) ∧ 1 ≤ k ∧ k ≤ 13) (.ret (.v (.c (.i .u32 (Z.valOf k a b i))), []))
  | _, _, _ => .stuck 900⟩
theorem ok_zoetroperef14_Value : ConOK Try.prog 19 con_zoetroperef14_Value := con_ok (code := (codeOf Try.f19)) (N := 71) (rs := [.tmp 8]) cx_zoetroperef14_Value_ok 0 Try.func19 rfl rfl rfl (fun _ _ _ _ _ => LpOK.no (by kernel_rfl)) (by
  intro args H W K h hro
  unfold con_zoetroperef14_Value at h
  simp only at h
  split at h
  · refine ⟨rfl, ?_⟩
    rw [run_zoetroperef14_Value]
    exact pf_zoetroperef14_Value _ _ _ _ K h
  · exact h.elim)
end Go.Y
