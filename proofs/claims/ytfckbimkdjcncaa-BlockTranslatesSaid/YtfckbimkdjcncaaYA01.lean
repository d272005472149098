/- PRINTED by wip/tools/ybuild.py: contracts of words.Shift, zoetroperef01.Mean, zoetroperef01.mod, zoetroperef01.Word, zoetroperef04.low, zoetroperef01.down. -/
import Derived.Test.YtfckbimkdjcncaaYTyA
import Derived.Test.YtfckbimkdjcncaaG6
import Derived.Test.YtfckbimkdjcncaaYA00
set_option maxRecDepth 100000
set_option linter.unusedSimpArgs false
set_option linter.unusedVariables false
namespace Go.Y
open Go.Proofs Go.X
open Go.Z (U32 Regs rg kindOf lessOf shiftOf fillOf sg bitAt withBit bnor bor band bxor b01 bitsOf)
noncomputable def cx_words_Shift : Ctx := mkCtx tys eqs [(47, con_words_fill)] []
theorem cx_words_Shift_ok : CtxOK Try.prog cx_words_Shift := mkCtx_ok _ mixed tys_ok eqs_ok ⟨⟨ok_words_fill, Try.call47⟩, trivial⟩
noncomputable def out_words_Shift (k : Int) (a : Int) (n : Int) : Tr (SV × List Bk) :=
Tr.ite (decide (k = (0 : Int)))
 (Tr.ass ((0 : Int) ≤ bits BinOp.and IntKind.i64 n (31 : Int))
 (Tr.ret
 (SV.v
 (V1.c
 (Sc.i IntKind.u32 (IntKind.wrap IntKind.u32 (a * (2 : Int) ^ Min.min (Int.toNat (bits BinOp.and IntKind.i64 n (31 : Int))) (IntKind.bits IntKind.u32))))),
 [])))
 (Tr.ite (bif decide (k < (0 : Int)) then true else decide ((3 : Int) ≤ k)) (Tr.ret (SV.v (V1.c (Sc.i IntKind.u32 a)), []))
 (Tr.ite (decide (Z.fillOf k = (1 : Int)))
 (Tr.ass ((0 : Int) ≤ bits BinOp.and IntKind.i64 n (31 : Int))
 (Tr.ret
 (SV.v
 (V1.c
 (Sc.i IntKind.u32
 (IntKind.wrap IntKind.u32
 (Int.fdiv (IntKind.wrap IntKind.i32 a) ((2 : Int) ^ Min.min (Int.toNat (bits BinOp.and IntKind.i64 n (31 : Int))) (IntKind.bits IntKind.i32)))))),
 [])))
 (Tr.ass ((0 : Int) ≤ bits BinOp.and IntKind.i64 n (31 : Int))
 (Tr.ret
 (SV.v (V1.c (Sc.i IntKind.u32 (Int.fdiv a ((2 : Int) ^ Min.min (Int.toNat (bits BinOp.and IntKind.i64 n (31 : Int))) (IntKind.bits IntKind.u32))))), [])))))

theorem run_words_Shift (k : Int) (a : Int) (n : Int) (W : List Rw) : runF cx_words_Shift 35 [.tmp 6] (codeOf Try.f32) [(.v (.c (.i .i64 k))), (.v (.c (.i .u32 a))), (.v (.c (.i .i64 n)))] [] W = out_words_Shift k a n := by kernel_rfl
theorem pf_words_Shift (k : Int) (a : Int) (n : Int) (K : SV × List Bk → Prop) (h : (.ass (U32 a) (.ret (.v (.c (.i .u32 (shiftOf k a n))), [])) : Tr (SV × List Bk)).all K) : (out_words_Shift k a n).all K := by
  obtain ⟨hp, h⟩ := h
  replace h := h hp
  unfold out_words_Shift
  simp only [Tr.all]
  replace h : K _ := h
  have hb31 : bits .and .i64 n 31 = n % 32 := Z.bM_i64 5 (by decide) (by decide) (by decide)
  have h0 : 0 ≤ n % 32 := by omega
  have h32 : n % 32 ≤ 32 := by omega
  rw [hb31]
  refine ⟨fun h1 => ⟨h0, fun _ => leafI h ?_⟩, fun h1 => ⟨fun h2 => leafI h ?_, fun h2 => ⟨fun h3 => ⟨h0, fun _ => leafI h ?_⟩, fun h3 => ⟨h0, fun _ => leafI h ?_⟩⟩⟩⟩
  · have : k = 0 := by simpa using h1
    rw [Z.shlV_u32 h32, this]; rfl
  · simp only [Bool.cond_false_right, Bool.cond_true_left, Bool.cond_false_left, Bool.cond_true_right, Bool.and_eq_true, Bool.or_eq_true, Bool.not_eq_true', Bool.and_eq_false_iff, Bool.or_eq_false_iff, Bool.not_eq_false', decide_eq_true_eq, decide_eq_false_iff_not, bne_iff_ne, beq_iff_eq, beq_eq_false_iff_ne, ne_eq, Bool.not_true, Bool.not_false, Bool.true_eq_false, Bool.false_eq_true] at *
    unfold shiftOf; rw [if_neg (by omega), if_neg (by omega), if_neg (by omega)]
  · simp only [Bool.cond_false_right, Bool.cond_true_left, Bool.cond_false_left, Bool.cond_true_right, Bool.and_eq_true, Bool.or_eq_true, Bool.not_eq_true', Bool.and_eq_false_iff, Bool.or_eq_false_iff, Bool.not_eq_false', decide_eq_true_eq, decide_eq_false_iff_not, bne_iff_ne, beq_iff_eq, beq_eq_false_iff_ne, ne_eq, Bool.not_true, Bool.not_false, Bool.true_eq_false, Bool.false_eq_true] at *
    unfold fillOf at h3
    have hk : k = 2 := by split at h3 <;> omega
    rw [Z.shrV (show n % 32 ≤ IntKind.i32.bits from h32), Z.wI32u hp, Z.wU32, hk]; rfl
  · simp only [Bool.cond_false_right, Bool.cond_true_left, Bool.cond_false_left, Bool.cond_true_right, Bool.and_eq_true, Bool.or_eq_true, Bool.not_eq_true', Bool.and_eq_false_iff, Bool.or_eq_false_iff, Bool.not_eq_false', decide_eq_true_eq, decide_eq_false_iff_not, bne_iff_ne, beq_iff_eq, beq_eq_false_iff_ne, ne_eq, Bool.not_true, Bool.not_false, Bool.true_eq_false, Bool.false_eq_true] at *
    unfold fillOf at h3
    have hk : k = 1 := by split at h3 <;> omega
    rw [Z.shrV (show n % 32 ≤ IntKind.u32.bits from h32), hk]; rfl
noncomputable def con_words_Shift : Con := ⟨true, fun args H W => match args, H, W with
  | [(.v (.c (.i .i64 k))), (.v (.c (.i .u32 a))), (.v (.c (.i .i64 n)))], [], _ => .ass (U32 a) (.ret (.v (.c (.i .u32 (shiftOf k a n))), []))
  | _, _, _ => .stuck 900⟩
theorem ok_words_Shift : ConOK Try.prog 32 con_words_Shift := con_ok (code := (codeOf Try.f32)) (N := 35) (rs := [.tmp 6]) cx_words_Shift_ok 0 Try.func32 rfl rfl rfl (fun _ _ _ _ _ => LpOK.no (by kernel_rfl)) (by
  intro args H W K h hro
  unfold con_words_Shift at h
  simp only at h
  split at h
  · refine ⟨rfl, ?_⟩
    rw [run_words_Shift]
    exact pf_words_Shift _ _ _ K h
  · exact h.elim)
noncomputable def cx_zoetroperef01_Mean : Ctx := mkCtx tys eqs [] []
theorem cx_zoetroperef01_Mean_ok : CtxOK Try.prog cx_zoetroperef01_Mean := mkCtx_ok _ mixed tys_ok eqs_ok trivial
noncomputable def out_zoetroperef01_Mean (a : Int) : Tr (SV × List Bk) :=
Tr.ite (decide ((2147483648 : Int) ≤ IntKind.wrap IntKind.i64 a))
 (Tr.ret (SV.v (V1.c (Sc.i IntKind.i64 (IntKind.wrap IntKind.i64 (IntKind.wrap IntKind.i64 a - (4294967296 : Int))))), []))
 (Tr.ret (SV.v (V1.c (Sc.i IntKind.i64 (IntKind.wrap IntKind.i64 a))), []))

theorem run_zoetroperef01_Mean (a : Int) (W : List Rw) : runF cx_zoetroperef01_Mean 11 [.tmp 2] (codeOf Try.f34) [(.v (.c (.i .u32 a)))] [] W = out_zoetroperef01_Mean a := by kernel_rfl
theorem pf_zoetroperef01_Mean (a : Int) (K : SV × List Bk → Prop) (h : (.ass (U32 a) (.ret (.v (.c (.i .i64 (sg a))), [])) : Tr (SV × List Bk)).all K) : (out_zoetroperef01_Mean a).all K := by
  obtain ⟨hp, h⟩ := h
  replace h := h hp
  have hp1 := hp.1
  have hp2 := hp.2
  have hw : IntKind.i64.wrap a = a := Z.wI64 (by omega)
  have hw2 : IntKind.i64.wrap (a - 4294967296) = a - 4294967296 := Z.wI64 (by omega)
  unfold out_zoetroperef01_Mean
  simp only [Tr.all]
  replace h : K _ := h
  repeat' (first | apply And.intro | intro)
  all_goals first | (refine leafI h ?_; rw [hw] at *; simp only [Bool.cond_false_right, Bool.cond_true_left, Bool.cond_false_left, Bool.cond_true_right, Bool.and_eq_true, Bool.or_eq_true, Bool.not_eq_true', Bool.and_eq_false_iff, Bool.or_eq_false_iff, Bool.not_eq_false', decide_eq_true_eq, decide_eq_false_iff_not, bne_iff_ne, beq_iff_eq, beq_eq_false_iff_ne, ne_eq, Bool.not_true, Bool.not_false, Bool.true_eq_false, Bool.false_eq_true] at *; unfold sg; first | (rw [if_pos (by omega)]; done) | (rw [if_neg (by omega), hw2]; done) | (rw [if_neg (by omega)]; done)) | (omega)
noncomputable def con_zoetroperef01_Mean : Con := ⟨true, fun args H W => match args, H, W with
  | [(.v (.c (.i .u32 a)))], [], _ => .ass (U32 a) (.ret (.v (.c (.i .i64 (sg a))), []))
  | _, _, _ => .stuck 900⟩
theorem ok_zoetroperef01_Mean : ConOK Try.prog 34 con_zoetroperef01_Mean := con_ok (code := (codeOf Try.f34)) (N := 11) (rs := [.tmp 2]) cx_zoetroperef01_Mean_ok 0 Try.func34 rfl rfl rfl (fun _ _ _ _ _ => LpOK.no (by kernel_rfl)) (by
  intro args H W K h hro
  unfold con_zoetroperef01_Mean at h
  simp only at h
  split at h
  · refine ⟨rfl, ?_⟩
    rw [run_zoetroperef01_Mean]
    exact pf_zoetroperef01_Mean _ K h
  · exact h.elim)
noncomputable def cx_zoetroperef01_mod : Ctx := mkCtx tys eqs [] []
theorem cx_zoetroperef01_mod_ok : CtxOK Try.prog cx_zoetroperef01_mod := mkCtx_ok _ mixed tys_ok eqs_ok trivial
noncomputable def out_zoetroperef01_mod (n : Int) : Tr (SV × List Bk) :=
Tr.ass ((32 : Int) ≠ (0 : Int))
 (Tr.ite (decide (Int.tmod n (32 : Int) < (0 : Int)))
 (Tr.ret (SV.v (V1.c (Sc.i IntKind.i64 (IntKind.wrap IntKind.i64 (Int.tmod n (32 : Int) + (32 : Int))))), []))
 (Tr.ret (SV.v (V1.c (Sc.i IntKind.i64 (Int.tmod n (32 : Int)))), [])))

theorem run_zoetroperef01_mod (n : Int) (W : List Rw) : runF cx_zoetroperef01_mod 11 [.tmp 2] (codeOf Try.f48) [(.v (.c (.i .i64 n)))] [] W = out_zoetroperef01_mod n := by kernel_rfl
theorem pf_zoetroperef01_mod (n : Int) (K : SV × List Bk → Prop) (h : (.ret (.v (.c (.i .i64 (n % 32))), []) : Tr (SV × List Bk)).all K) : (out_zoetroperef01_mod n).all K := by
  have hm := Z.tmod_pos (n := n) (p := 32) (by omega)
  unfold out_zoetroperef01_mod
  simp only [Tr.all]
  replace h : K _ := h
  repeat' (first | apply And.intro | intro)
  all_goals first | (refine leafI h ?_; simp only [Bool.cond_false_right, Bool.cond_true_left, Bool.cond_false_left, Bool.cond_true_right, Bool.and_eq_true, Bool.or_eq_true, Bool.not_eq_true', Bool.and_eq_false_iff, Bool.or_eq_false_iff, Bool.not_eq_false', decide_eq_true_eq, decide_eq_false_iff_not, bne_iff_ne, beq_iff_eq, beq_eq_false_iff_ne, ne_eq, Bool.not_true, Bool.not_false, Bool.true_eq_false, Bool.false_eq_true] at *; first | omega | (rw [Z.wI64 (by omega)]; omega)) | (omega)
noncomputable def con_zoetroperef01_mod : Con := ⟨true, fun args H W => match args, H, W with
  | [(.v (.c (.i .i64 n)))], [], _ => .ret (.v (.c (.i .i64 (n % 32))), [])
  | _, _, _ => .stuck 900⟩
theorem ok_zoetroperef01_mod : ConOK Try.prog 48 con_zoetroperef01_mod := con_ok (code := (codeOf Try.f48)) (N := 11) (rs := [.tmp 2]) cx_zoetroperef01_mod_ok 0 Try.func48 rfl rfl rfl (fun _ _ _ _ _ => LpOK.no (by kernel_rfl)) (by
  intro args H W K h hro
  unfold con_zoetroperef01_mod at h
  simp only at h
  split at h
  · refine ⟨rfl, ?_⟩
    rw [run_zoetroperef01_mod]
    exact pf_zoetroperef01_mod _ K h
  · exact h.elim)
noncomputable def cx_zoetroperef01_Word : Ctx := mkCtx tys eqs [] []
theorem cx_zoetroperef01_Word_ok : CtxOK Try.prog cx_zoetroperef01_Word := mkCtx_ok _ mixed tys_ok eqs_ok trivial
noncomputable def out_zoetroperef01_Word (n : Int) : Tr (SV × List Bk) :=
Tr.ass ((4294967296 : Int) ≠ (0 : Int))
 (Tr.ite (decide (Int.tmod n (4294967296 : Int) < (0 : Int)))
 (Tr.ret (SV.v (V1.c (Sc.i IntKind.u32 (IntKind.wrap IntKind.u32 (IntKind.wrap IntKind.i64 (Int.tmod n (4294967296 : Int) + (4294967296 : Int)))))), []))
 (Tr.ret (SV.v (V1.c (Sc.i IntKind.u32 (IntKind.wrap IntKind.u32 (Int.tmod n (4294967296 : Int))))), [])))

theorem run_zoetroperef01_Word (n : Int) (W : List Rw) : runF cx_zoetroperef01_Word 12 [.tmp 2] (codeOf Try.f23) [(.v (.c (.i .i64 n)))] [] W = out_zoetroperef01_Word n := by kernel_rfl
theorem pf_zoetroperef01_Word (n : Int) (K : SV × List Bk → Prop) (h : (.ret (.v (.c (.i .u32 (n % 4294967296))), []) : Tr (SV × List Bk)).all K) : (out_zoetroperef01_Word n).all K := by
  have hm := Z.tmod_pos (n := n) (p := 4294967296) (by omega)
  unfold out_zoetroperef01_Word
  simp only [Tr.all]
  replace h : K _ := h
  repeat' (first | apply And.intro | intro)
  all_goals first | (refine leafI h ?_; simp only [Bool.cond_false_right, Bool.cond_true_left, Bool.cond_false_left, Bool.cond_true_right, Bool.and_eq_true, Bool.or_eq_true, Bool.not_eq_true', Bool.and_eq_false_iff, Bool.or_eq_false_iff, Bool.not_eq_false', decide_eq_true_eq, decide_eq_false_iff_not, bne_iff_ne, beq_iff_eq, beq_eq_false_iff_ne, ne_eq, Bool.not_true, Bool.not_false, Bool.true_eq_false, Bool.false_eq_true] at *; first | (rw [Z.wU32]; omega) | (rw [Z.wU32, Z.wI64 (by omega)]; omega)) | (omega)
noncomputable def con_zoetroperef01_Word : Con := ⟨true, fun args H W => match args, H, W with
  | [(.v (.c (.i .i64 n)))], [], _ => .ret (.v (.c (.i .u32 (n % 4294967296))), [])
  | _, _, _ => .stuck 900⟩
theorem ok_zoetroperef01_Word : ConOK Try.prog 23 con_zoetroperef01_Word := con_ok (code := (codeOf Try.f23)) (N := 12) (rs := [.tmp 2]) cx_zoetroperef01_Word_ok 0 Try.func23 rfl rfl rfl (fun _ _ _ _ _ => LpOK.no (by kernel_rfl)) (by
  intro args H W K h hro
  unfold con_zoetroperef01_Word at h
  simp only at h
  split at h
  · refine ⟨rfl, ?_⟩
    rw [run_zoetroperef01_Word]
    exact pf_zoetroperef01_Word _ K h
  · exact h.elim)
noncomputable def cx_zoetroperef04_low : Ctx := mkCtx tys eqs [] []
theorem cx_zoetroperef04_low_ok : CtxOK Try.prog cx_zoetroperef04_low := mkCtx_ok _ mixed tys_ok eqs_ok trivial
noncomputable def out_zoetroperef04_low (n : Int) (p : Int) : Tr (SV × List Bk) :=
Tr.ass (p ≠ (0 : Int))
 (Tr.ite (decide (Int.tmod n p < (0 : Int))) (Tr.ret (SV.v (V1.c (Sc.i IntKind.i64 (IntKind.wrap IntKind.i64 (Int.tmod n p + p)))), []))
 (Tr.ret (SV.v (V1.c (Sc.i IntKind.i64 (Int.tmod n p))), [])))

theorem run_zoetroperef04_low (n : Int) (p : Int) (W : List Rw) : runF cx_zoetroperef04_low 15 [.tmp 4] (codeOf Try.f55) [(.v (.c (.i .i64 n))), (.v (.c (.i .i64 p)))] [] W = out_zoetroperef04_low n p := by kernel_rfl
theorem pf_zoetroperef04_low (n : Int) (p : Int) (K : SV × List Bk → Prop) (h : (.ass (0 < p ∧ p ≤ 4294967296) (.ret (.v (.c (.i .i64 (n % p))), [])) : Tr (SV × List Bk)).all K) : (out_zoetroperef04_low n p).all K := by
  obtain ⟨hp, h⟩ := h
  replace h := h hp
  have hm := Z.tmod_pos (n := n) (p := p) hp.1
  have hm1 := Int.emod_nonneg n (show p ≠ 0 by omega)
  have hm2 := Int.emod_lt_of_pos n hp.1
  unfold out_zoetroperef04_low
  simp only [Tr.all]
  replace h : K _ := h
  repeat' (first | apply And.intro | intro)
  all_goals first | (refine leafI h ?_; simp only [Bool.cond_false_right, Bool.cond_true_left, Bool.cond_false_left, Bool.cond_true_right, Bool.and_eq_true, Bool.or_eq_true, Bool.not_eq_true', Bool.and_eq_false_iff, Bool.or_eq_false_iff, Bool.not_eq_false', decide_eq_true_eq, decide_eq_false_iff_not, bne_iff_ne, beq_iff_eq, beq_eq_false_iff_ne, ne_eq, Bool.not_true, Bool.not_false, Bool.true_eq_false, Bool.false_eq_true] at *; first | omega | (rw [Z.wI64 (by omega)]; omega)) | (omega)
noncomputable def con_zoetroperef04_low : Con := ⟨true, fun args H W => match args, H, W with
  | [(.v (.c (.i .i64 n))), (.v (.c (.i .i64 p)))], [], _ => .ass (0 < p ∧ p ≤ 4294967296) (.ret (.v (.c (.i .i64 (n % p))), []))
  | _, _, _ => .stuck 900⟩
theorem ok_zoetroperef04_low : ConOK Try.prog 55 con_zoetroperef04_low := con_ok (code := (codeOf Try.f55)) (N := 15) (rs := [.tmp 4]) cx_zoetroperef04_low_ok 0 Try.func55 rfl rfl rfl (fun _ _ _ _ _ => LpOK.no (by kernel_rfl)) (by
  intro args H W K h hro
  unfold con_zoetroperef04_low at h
  simp only at h
  split at h
  · refine ⟨rfl, ?_⟩
    rw [run_zoetroperef04_low]
    exact pf_zoetroperef04_low _ _ K h
  · exact h.elim)
noncomputable def cx_zoetroperef01_down : Ctx := mkCtx tys eqs [] []
theorem cx_zoetroperef01_down_ok : CtxOK Try.prog cx_zoetroperef01_down := mkCtx_ok _ mixed tys_ok eqs_ok trivial
noncomputable def out_zoetroperef01_down (n : Int) (p : Int) : Tr (SV × List Bk) :=
Tr.ass (p ≠ (0 : Int))
 (Tr.ass (p ≠ (0 : Int))
 (Tr.ite (decide (Int.tmod n p < (0 : Int)))
 (Tr.ret (SV.v (V1.c (Sc.i IntKind.i64 (IntKind.wrap IntKind.i64 (IntKind.wrap IntKind.i64 (Int.tdiv n p) - (1 : Int))))), []))
 (Tr.ret (SV.v (V1.c (Sc.i IntKind.i64 (IntKind.wrap IntKind.i64 (Int.tdiv n p)))), []))))

theorem run_zoetroperef01_down (n : Int) (p : Int) (W : List Rw) : runF cx_zoetroperef01_down 16 [.tmp 4] (codeOf Try.f49) [(.v (.c (.i .i64 n))), (.v (.c (.i .i64 p)))] [] W = out_zoetroperef01_down n p := by kernel_rfl
theorem pf_zoetroperef01_down (n : Int) (p : Int) (K : SV × List Bk → Prop) (h : (.ass ((-4294967296 ≤ n ∧ n ≤ 4294967296) ∧ 0 < p ∧ p ≤ 4294967296) (.ret (.v (.c (.i .i64 (n / p))), [])) : Tr (SV × List Bk)).all K) : (out_zoetroperef01_down n p).all K := by
  obtain ⟨hp, h⟩ := h
  replace h := h hp
  have hm := Z.tdiv_div (n := n) hp.2.1
  have hq := Z.tdiv_range hp.1 hp.2.1
  have hw : IntKind.i64.wrap (n.tdiv p) = n.tdiv p := Z.wI64 (by omega)
  unfold out_zoetroperef01_down
  simp only [Tr.all]
  replace h : K _ := h
  repeat' (first | apply And.intro | intro)
  all_goals first | (refine leafI h ?_; rw [hw] at *; simp only [Bool.cond_false_right, Bool.cond_true_left, Bool.cond_false_left, Bool.cond_true_right, Bool.and_eq_true, Bool.or_eq_true, Bool.not_eq_true', Bool.and_eq_false_iff, Bool.or_eq_false_iff, Bool.not_eq_false', decide_eq_true_eq, decide_eq_false_iff_not, bne_iff_ne, beq_iff_eq, beq_eq_false_iff_ne, ne_eq, Bool.not_true, Bool.not_false, Bool.true_eq_false, Bool.false_eq_true] at *; first | (rw [if_pos (by assumption)] at hm; rw [Z.wI64 (by omega)]; omega) | (rw [if_neg (by assumption)] at hm; omega)) | (omega)
noncomputable def con_zoetroperef01_down : Con := ⟨true, fun args H W => match args, H, W with
  | [(.v (.c (.i .i64 n))), (.v (.c (.i .i64 p)))], [], _ => .ass ((-4294967296 ≤ n ∧ n ≤ 4294967296) ∧ 0 < p ∧ p ≤ 4294967296) (.ret (.v (.c (.i .i64 (n / p))), []))
  | _, _, _ => .stuck 900⟩
theorem ok_zoetroperef01_down : ConOK Try.prog 49 con_zoetroperef01_down := con_ok (code := (codeOf Try.f49)) (N := 16) (rs := [.tmp 4]) cx_zoetroperef01_down_ok 0 Try.func49 rfl rfl rfl (fun _ _ _ _ _ => LpOK.no (by kernel_rfl)) (by
  intro args H W K h hro
  unfold con_zoetroperef01_down at h
  simp only at h
  split at h
  · refine ⟨rfl, ?_⟩
    rw [run_zoetroperef01_down]
    exact pf_zoetroperef01_down _ _ K h
  · exact h.elim)
end Go.Y
