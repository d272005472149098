/- PRINTED by wip/tools/ybuild.py: contracts of ir.bit, ir.kind, words.Less, words.fill. -/
import Derived.Test.YtfckbimkdjcncaaYTyA
import Derived.Test.YtfckbimkdjcncaaG6
set_option maxRecDepth 100000
set_option linter.unusedSimpArgs false
set_option linter.unusedVariables false
namespace Go.Y
open Go.Proofs Go.X
open Go.Z (U32 Regs rg kindOf lessOf shiftOf fillOf sg bitAt withBit bnor bor band bxor b01 bitsOf)
noncomputable def cx_ir_bit : Ctx := mkCtx tys eqs [] []
theorem cx_ir_bit_ok : CtxOK Try.prog cx_ir_bit := mkCtx_ok _ mixed tys_ok eqs_ok trivial
noncomputable def out_ir_bit (x : Bool) : Tr (SV × List Bk) :=
Tr.ite x (Tr.ret (SV.v (V1.c (Sc.i IntKind.u32 (1 : Int))), [])) (Tr.ret (SV.v (V1.c (Sc.i IntKind.u32 (0 : Int))), []))

theorem run_ir_bit (x : Bool) (W : List Rw) : runF cx_ir_bit 4 [.tmp 2] (codeOf Try.f30) [(.v (.c (.b x)))] [] W = out_ir_bit x := by kernel_rfl
theorem pf_ir_bit (x : Bool) (K : SV × List Bk → Prop) (h : (.ret (.v (.c (.i .u32 (b01 x))), []) : Tr (SV × List Bk)).all K) : (out_ir_bit x).all K := by
  unfold out_ir_bit
  simp only [Tr.all]
  replace h : K _ := h
  repeat' (first | apply And.intro | intro)
  all_goals first | (refine leafI h ?_; simp_all [b01]) | (omega)
noncomputable def con_ir_bit : Con := ⟨true, fun args H W => match args, H, W with
  | [(.v (.c (.b x)))], [], _ => .ret (.v (.c (.i .u32 (b01 x))), [])
  | _, _, _ => .stuck 900⟩
theorem ok_ir_bit : ConOK Try.prog 30 con_ir_bit := con_ok (code := (codeOf Try.f30)) (N := 4) (rs := [.tmp 2]) cx_ir_bit_ok 0 Try.func30 rfl rfl rfl (fun _ _ _ _ _ => LpOK.no (by kernel_rfl)) (by
  intro args H W K h hro
  unfold con_ir_bit at h
  simp only at h
  split at h
  · refine ⟨rfl, ?_⟩
    rw [run_ir_bit]
    exact pf_ir_bit _ K h
  · exact h.elim)
noncomputable def cx_ir_kind : Ctx := mkCtx tys eqs [] []
theorem cx_ir_kind_ok : CtxOK Try.prog cx_ir_kind := mkCtx_ok _ mixed tys_ok eqs_ok trivial
noncomputable def out_ir_kind (op : Int) : Tr (SV × List Bk) :=
Tr.ite (bif decide (op = (0 : Int)) then true else decide (op = (3 : Int))) (Tr.ret (SV.v (V1.c (Sc.i IntKind.i64 (11 : Int))), []))
 (Tr.ite (bif decide (op = (1 : Int)) then true else decide (op = (4 : Int))) (Tr.ret (SV.v (V1.c (Sc.i IntKind.i64 (12 : Int))), []))
 (Tr.ite (bif decide (op = (2 : Int)) then true else decide (op = (5 : Int))) (Tr.ret (SV.v (V1.c (Sc.i IntKind.i64 (13 : Int))), []))
 (Tr.ite (bif decide (op = (21 : Int)) then true else decide (op = (46 : Int))) (Tr.ret (SV.v (V1.c (Sc.i IntKind.i64 (3 : Int))), []))
 (Tr.ite (decide (op = (23 : Int))) (Tr.ret (SV.v (V1.c (Sc.i IntKind.i64 (4 : Int))), []))
 (Tr.ite (bif decide (op = (24 : Int)) then true else decide (op = (49 : Int))) (Tr.ret (SV.v (V1.c (Sc.i IntKind.i64 (5 : Int))), []))
 (Tr.ite (bif decide (op = (25 : Int)) then true else decide (op = (50 : Int))) (Tr.ret (SV.v (V1.c (Sc.i IntKind.i64 (6 : Int))), []))
 (Tr.ite (bif decide (op = (26 : Int)) then true else decide (op = (51 : Int)))
 (Tr.ret (SV.v (V1.c (Sc.i IntKind.i64 (7 : Int))), []))
 (Tr.ite (decide (op = (27 : Int))) (Tr.ret (SV.v (V1.c (Sc.i IntKind.i64 (8 : Int))), []))
 (Tr.ite (bif decide (op = (28 : Int)) then true else decide (op = (47 : Int)))
 (Tr.ret (SV.v (V1.c (Sc.i IntKind.i64 (9 : Int))), []))
 (Tr.ite (bif decide (op = (29 : Int)) then true else decide (op = (48 : Int)))
 (Tr.ret (SV.v (V1.c (Sc.i IntKind.i64 (10 : Int))), []))
 (Tr.ite (decide (op = (52 : Int))) (Tr.ret (SV.v (V1.c (Sc.i IntKind.i64 (1 : Int))), []))
 (Tr.ret (SV.v (V1.c (Sc.i IntKind.i64 (0 : Int))), [])))))))))))))

theorem run_ir_kind (op : Int) (W : List Rw) : runF cx_ir_kind 37 [.tmp 2] (codeOf Try.f25) [(.v (.c (.i .i64 op)))] [] W = out_ir_kind op := by kernel_rfl
theorem pf_ir_kind (op : Int) (K : SV × List Bk → Prop) (h : (.ret (.v (.c (.i .i64 (kindOf op))), []) : Tr (SV × List Bk)).all K) : (out_ir_kind op).all K := by
  unfold out_ir_kind
  simp only [Tr.all]
  replace h : K _ := h
  repeat' (first | apply And.intro | intro)
  all_goals first | (refine leafI h ?_; simp only [Bool.cond_false_right, Bool.cond_true_left, Bool.cond_false_left, Bool.cond_true_right, Bool.and_eq_true, Bool.or_eq_true, Bool.not_eq_true', Bool.and_eq_false_iff, Bool.or_eq_false_iff, Bool.not_eq_false', decide_eq_true_eq, decide_eq_false_iff_not, bne_iff_ne, beq_iff_eq, beq_eq_false_iff_ne, ne_eq, Bool.not_true, Bool.not_false, Bool.true_eq_false, Bool.false_eq_true] at *; simp_all [kindOf]) | (omega)
noncomputable def con_ir_kind : Con := ⟨true, fun args H W => match args, H, W with
  | [(.v (.c (.i .i64 op)))], [], _ => .ret (.v (.c (.i .i64 (kindOf op))), [])
  | _, _, _ => .stuck 900⟩
theorem ok_ir_kind : ConOK Try.prog 25 con_ir_kind := con_ok (code := (codeOf Try.f25)) (N := 37) (rs := [.tmp 2]) cx_ir_kind_ok 0 Try.func25 rfl rfl rfl (fun _ _ _ _ _ => LpOK.no (by kernel_rfl)) (by
  intro args H W K h hro
  unfold con_ir_kind at h
  simp only at h
  split at h
  · refine ⟨rfl, ?_⟩
    rw [run_ir_kind]
    exact pf_ir_kind _ K h
  · exact h.elim)
noncomputable def cx_words_Less : Ctx := mkCtx tys eqs [] []
theorem cx_words_Less_ok : CtxOK Try.prog cx_words_Less := mkCtx_ok _ mixed tys_ok eqs_ok trivial
noncomputable def out_words_Less (a : Int) (c : Int) (s : Bool) : Tr (SV × List Bk) :=
Tr.ite s (Tr.ret (SV.v (V1.c (Sc.b (decide (IntKind.wrap IntKind.i32 a < IntKind.wrap IntKind.i32 c)))), []))
 (Tr.ret (SV.v (V1.c (Sc.b (decide (a < c)))), []))

theorem run_words_Less (a : Int) (c : Int) (s : Bool) (W : List Rw) : runF cx_words_Less 16 [.tmp 6] (codeOf Try.f31) [(.v (.c (.i .u32 a))), (.v (.c (.i .u32 c))), (.v (.c (.b s)))] [] W = out_words_Less a c s := by kernel_rfl
theorem pf_words_Less (a : Int) (c : Int) (s : Bool) (K : SV × List Bk → Prop) (h : (.ass (U32 a ∧ U32 c) (.ret (.v (.c (.b (lessOf a c s))), [])) : Tr (SV × List Bk)).all K) : (out_words_Less a c s).all K := by
  obtain ⟨hp, h⟩ := h
  replace h := h hp
  unfold out_words_Less
  simp only [Tr.all]
  replace h : K _ := h
  repeat' (first | apply And.intro | intro)
  all_goals first | (refine leafB h ?_; simp_all [lessOf, Z.wI32u]) | (omega)
noncomputable def con_words_Less : Con := ⟨true, fun args H W => match args, H, W with
  | [(.v (.c (.i .u32 a))), (.v (.c (.i .u32 c))), (.v (.c (.b s)))], [], _ => .ass (U32 a ∧ U32 c) (.ret (.v (.c (.b (lessOf a c s))), []))
  | _, _, _ => .stuck 900⟩
theorem ok_words_Less : ConOK Try.prog 31 con_words_Less := con_ok (code := (codeOf Try.f31)) (N := 16) (rs := [.tmp 6]) cx_words_Less_ok 0 Try.func31 rfl rfl rfl (fun _ _ _ _ _ => LpOK.no (by kernel_rfl)) (by
  intro args H W K h hro
  unfold con_words_Less at h
  simp only at h
  split at h
  · refine ⟨rfl, ?_⟩
    rw [run_words_Less]
    exact pf_words_Less _ _ _ K h
  · exact h.elim)
noncomputable def cx_words_fill : Ctx := mkCtx tys eqs [] []
theorem cx_words_fill_ok : CtxOK Try.prog cx_words_fill := mkCtx_ok _ mixed tys_ok eqs_ok trivial
noncomputable def out_words_fill (k : Int) : Tr (SV × List Bk) :=
Tr.ite (decide (k = (2 : Int))) (Tr.ret (SV.v (V1.c (Sc.i IntKind.i64 (1 : Int))), []))
 (Tr.ret (SV.v (V1.c (Sc.i IntKind.i64 (0 : Int))), []))

theorem run_words_fill (k : Int) (W : List Rw) : runF cx_words_fill 5 [.tmp 2] (codeOf Try.f47) [(.v (.c (.i .i64 k)))] [] W = out_words_fill k := by kernel_rfl
theorem pf_words_fill (k : Int) (K : SV × List Bk → Prop) (h : (.ret (.v (.c (.i .i64 (fillOf k))), []) : Tr (SV × List Bk)).all K) : (out_words_fill k).all K := by
  unfold out_words_fill
  simp only [Tr.all]
  replace h : K _ := h
  repeat' (first | apply And.intro | intro)
  all_goals first | (refine leafI h ?_; simp_all [fillOf]) | (omega)
noncomputable def con_words_fill : Con := ⟨true, fun args H W => match args, H, W with
  | [(.v (.c (.i .i64 k)))], [], _ => .ret (.v (.c (.i .i64 (fillOf k))), [])
  | _, _, _ => .stuck 900⟩
theorem ok_words_fill : ConOK Try.prog 47 con_words_fill := con_ok (code := (codeOf Try.f47)) (N := 5) (rs := [.tmp 2]) cx_words_fill_ok 0 Try.func47 rfl rfl rfl (fun _ _ _ _ _ => LpOK.no (by kernel_rfl)) (by
  intro args H W K h hro
  unfold con_words_fill at h
  simp only at h
  split at h
  · refine ⟨rfl, ?_⟩
    rw [run_words_fill]
    exact pf_words_fill _ K h
  · exact h.elim)
end Go.Y
