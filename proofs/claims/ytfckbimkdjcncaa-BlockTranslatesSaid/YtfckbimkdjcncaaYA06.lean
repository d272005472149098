/- PRINTED by wip/tools/ybuild.py: contracts of decode.Form, decode.take, decode.lay, (zoetrope/decode.fields).word. -/
import Derived.Test.YtfckbimkdjcncaaYTyA
import Derived.Test.YtfckbimkdjcncaaG6
import Derived.Test.YtfckbimkdjcncaaYA00
import Derived.Test.YtfckbimkdjcncaaYA01
import Derived.Test.YtfckbimkdjcncaaYA02
import Derived.Test.YtfckbimkdjcncaaYA03
import Derived.Test.YtfckbimkdjcncaaYA04
import Derived.Test.YtfckbimkdjcncaaYA05
set_option maxRecDepth 100000
set_option linter.unusedSimpArgs false
set_option linter.unusedVariables false
namespace Go.Y
open Go.Proofs Go.X
open Go.Z (U32 Regs rg kindOf lessOf shiftOf fillOf sg bitAt withBit bnor bor band bxor b01 bitsOf)
noncomputable def cx_decode_Form : Ctx := mkCtx tys eqs [(57, con_decode_forms), (41, con_decode_rows)] []
theorem cx_decode_Form_ok : CtxOK Try.prog cx_decode_Form := mkCtx_ok _ mixed tys_ok eqs_ok ⟨⟨ok_decode_forms, Try.call57⟩, ⟨⟨ok_decode_rows, Try.call41⟩, trivial⟩⟩
noncomputable def out_decode_Form (op : Int) : Tr (SV × List Bk) :=
Tr.ite (bif decide (op < (0 : Int)) then true else decide ((69 : Int) ≤ op)) (Tr.ret (SV.v (V1.c (Sc.s [])), []))
 (Tr.ass ((0 : Int) ≤ op ∧ op < (↑(69 : Nat) : Int))
 (Tr.ass ((0 : Int) ≤ (List.getD X.tabT (Int.toNat op) (Sh.df (8 : Nat))).2 ∧ (List.getD X.tabT (Int.toNat op) (Sh.df (8 : Nat))).2 < (↑(19 : Nat) : Int))
 (Tr.ass ((0 : Nat) + Int.toNat (List.getD X.tabT (Int.toNat op) (Sh.df (8 : Nat))).2 < (19 : Nat))
 (Tr.ret (SV.v (V1.c (Sc.s (List.getD X.formsT ((0 : Nat) + Int.toNat (List.getD X.tabT (Int.toNat op) (Sh.df (8 : Nat))).2) []))), [])))))

theorem run_decode_Form (op : Int) (W : List Rw) : runF cx_decode_Form 16 [.tmp 2] (codeOf Try.f45) [(.v (.c (.i .i64 op)))] [] W = out_decode_Form op := by kernel_rfl
theorem pf_decode_Form (op : Int) (K : SV × List Bk → Prop) (h : (.ret (.v (.c (.s (formL op))), []) : Tr (SV × List Bk)).all K) : (out_decode_Form op).all K := by
  replace h : K _ := h
  unfold out_decode_Form
  simp only [Tr.all]
  refine ⟨fun h1 => leafE h ?_, fun h1 => ?_⟩
  · have h2 : op < 0 ∨ 69 ≤ op := by
      cases hd : decide (op < 0) with
      | true => exact .inl (of_decide_eq_true hd)
      | false => rw [hd] at h1; exact .inr (of_decide_eq_true h1)
    rw [formL, Z.formOf_no h2]
  · have h2 : 0 ≤ op ∧ op < 69 := by
      cases hd : decide (op < 0) with
      | true => rw [hd] at h1; cases h1
      | false =>
        rw [hd] at h1
        have h3 := of_decide_eq_false h1
        have h4 := of_decide_eq_false hd
        omega
    have hk : op.toNat < Z.tab.length := by rw [Z.tab_len]; omega
    obtain ⟨hr, _⟩ := Z.row_ok hk
    rw [tabT_get hk]
    refine ⟨h2, fun _ => ⟨hr, fun _ => ⟨by dsimp only; omega, fun _ => leafE h ?_⟩⟩⟩
    dsimp only
    rw [Nat.zero_add, formsT_get hr, formL, ← Z.formOf_row hk, Int.toNat_of_nonneg h2.1]
noncomputable def con_decode_Form : Con := ⟨true, fun args H W => match args, H, W with
  | [(.v (.c (.i .i64 op)))], [], _ => .ret (.v (.c (.s (formL op))), [])
  | _, _, _ => .stuck 900⟩
theorem ok_decode_Form : ConOK Try.prog 45 con_decode_Form := con_ok (code := (codeOf Try.f45)) (N := 16) (rs := [.tmp 2]) cx_decode_Form_ok 0 Try.func45 rfl rfl rfl (fun _ _ _ _ _ => LpOK.no (by kernel_rfl)) (by
  intro args H W K h hro
  unfold con_decode_Form at h
  simp only at h
  split at h
  · refine ⟨rfl, ?_⟩
    rw [run_decode_Form]
    exact pf_decode_Form _ K h
  · exact h.elim)
noncomputable def cx_decode_take : Ctx := mkCtx tys eqs [] []
theorem cx_decode_take_ok : CtxOK Try.prog cx_decode_take := mkCtx_ok _ mixed tys_ok eqs_ok trivial
noncomputable def out_decode_take (op : Int) (nm : List UInt8) (f : Int) (mj : Int) (mn : Int) (w : Int) : Tr (SV × List Bk) :=
Tr.ass ((0 : Int) ≤ (21 : Int))
 (Tr.ass ((0 : Int) ≤ (16 : Int))
 (Tr.ass ((0 : Int) ≤ (11 : Int))
 (Tr.ass ((0 : Int) ≤ (6 : Int))
 (Tr.ite (decide (f = (0 : Int)))
 (Tr.ret
 (SV.v
 (V1.agg
 [Seg.one (Sc.i IntKind.i64 op), Seg.one (Sc.i IntKind.i64 (0 : Int)),
 Seg.one
 (Sc.i IntKind.i64
 (IntKind.wrap IntKind.i64 (bits BinOp.and IntKind.u32 (Int.fdiv w ((2 : Int) ^ Min.min (Int.toNat (16 : Int)) (IntKind.bits IntKind.u32))) (31 : Int)))),
 Seg.one
 (Sc.i IntKind.i64
 (IntKind.wrap IntKind.i64 (bits BinOp.and IntKind.u32 (Int.fdiv w ((2 : Int) ^ Min.min (Int.toNat (11 : Int)) (IntKind.bits IntKind.u32))) (31 : Int)))),
 Seg.one
 (Sc.i IntKind.i64
 (IntKind.wrap IntKind.i64 (bits BinOp.and IntKind.u32 (Int.fdiv w ((2 : Int) ^ Min.min (Int.toNat (6 : Int)) (IntKind.bits IntKind.u32))) (31 : Int)))),
 Seg.one (Sc.i IntKind.i64 (0 : Int))]),
 []))
 (Tr.ite (bif decide (f = (1 : Int)) then true else decide (f = (4 : Int)))
 (Tr.ret
 (SV.v
 (V1.agg
 [Seg.one (Sc.i IntKind.i64 op),
 Seg.one
 (Sc.i IntKind.i64
 (IntKind.wrap IntKind.i64 (bits BinOp.and IntKind.u32 (Int.fdiv w ((2 : Int) ^ Min.min (Int.toNat (21 : Int)) (IntKind.bits IntKind.u32))) (31 : Int)))),
 Seg.one
 (Sc.i IntKind.i64
 (IntKind.wrap IntKind.i64 (bits BinOp.and IntKind.u32 (Int.fdiv w ((2 : Int) ^ Min.min (Int.toNat (16 : Int)) (IntKind.bits IntKind.u32))) (31 : Int)))),
 Seg.one
 (Sc.i IntKind.i64
 (IntKind.wrap IntKind.i64 (bits BinOp.and IntKind.u32 (Int.fdiv w ((2 : Int) ^ Min.min (Int.toNat (11 : Int)) (IntKind.bits IntKind.u32))) (31 : Int)))),
 Seg.one (Sc.i IntKind.i64 (0 : Int)), Seg.one (Sc.i IntKind.i64 (0 : Int))]),
 []))
 (Tr.ite (bif decide (f = (2 : Int)) then true else decide (f = (7 : Int)))
 (Tr.ret
 (SV.v
 (V1.agg
 [Seg.one (Sc.i IntKind.i64 op),
 Seg.one
 (Sc.i IntKind.i64
 (IntKind.wrap IntKind.i64
 (bits BinOp.and IntKind.u32 (Int.fdiv w ((2 : Int) ^ Min.min (Int.toNat (21 : Int)) (IntKind.bits IntKind.u32))) (31 : Int)))),
 Seg.one (Sc.i IntKind.i64 (0 : Int)), Seg.one (Sc.i IntKind.i64 (0 : Int)), Seg.one (Sc.i IntKind.i64 (0 : Int)),
 Seg.one (Sc.i IntKind.i64 (0 : Int))]),
 []))
 (Tr.ite (bif decide (f = (3 : Int)) then true else decide (f = (9 : Int)))
 (Tr.ret
 (SV.v
 (V1.agg
 [Seg.one (Sc.i IntKind.i64 op),
 Seg.one
 (Sc.i IntKind.i64
 (IntKind.wrap IntKind.i64
 (bits BinOp.and IntKind.u32 (Int.fdiv w ((2 : Int) ^ Min.min (Int.toNat (21 : Int)) (IntKind.bits IntKind.u32))) (31 : Int)))),
 Seg.one (Sc.i IntKind.i64 (0 : Int)),
 Seg.one
 (Sc.i IntKind.i64
 (IntKind.wrap IntKind.i64
 (bits BinOp.and IntKind.u32 (Int.fdiv w ((2 : Int) ^ Min.min (Int.toNat (11 : Int)) (IntKind.bits IntKind.u32))) (31 : Int)))),
 Seg.one (Sc.i IntKind.i64 (0 : Int)), Seg.one (Sc.i IntKind.i64 (0 : Int))]),
 []))
 (Tr.ite (decide (f = (6 : Int)))
 (Tr.ret
 (SV.v
 (V1.agg
 [Seg.one (Sc.i IntKind.i64 op), Seg.one (Sc.i IntKind.i64 (0 : Int)), Seg.one (Sc.i IntKind.i64 (0 : Int)),
 Seg.one
 (Sc.i IntKind.i64
 (IntKind.wrap IntKind.i64
 (bits BinOp.and IntKind.u32 (Int.fdiv w ((2 : Int) ^ Min.min (Int.toNat (11 : Int)) (IntKind.bits IntKind.u32))) (31 : Int)))),
 Seg.one (Sc.i IntKind.i64 (0 : Int)), Seg.one (Sc.i IntKind.i64 (0 : Int))]),
 []))
 (Tr.ite (decide (f = (8 : Int)))
 (Tr.ret
 (SV.v
 (V1.agg
 [Seg.one (Sc.i IntKind.i64 op),
 Seg.one
 (Sc.i IntKind.i64
 (IntKind.wrap IntKind.i64
 (bits BinOp.and IntKind.u32 (Int.fdiv w ((2 : Int) ^ Min.min (Int.toNat (21 : Int)) (IntKind.bits IntKind.u32))) (31 : Int)))),
 Seg.one
 (Sc.i IntKind.i64
 (IntKind.wrap IntKind.i64
 (bits BinOp.and IntKind.u32 (Int.fdiv w ((2 : Int) ^ Min.min (Int.toNat (16 : Int)) (IntKind.bits IntKind.u32))) (31 : Int)))),
 Seg.one (Sc.i IntKind.i64 (0 : Int)), Seg.one (Sc.i IntKind.i64 (0 : Int)), Seg.one (Sc.i IntKind.i64 (0 : Int))]),
 []))
 (Tr.ite (decide (f = (10 : Int)))
 (Tr.ret
 (SV.v
 (V1.agg
 [Seg.one (Sc.i IntKind.i64 op),
 Seg.one
 (Sc.i IntKind.i64
 (IntKind.wrap IntKind.i64
 (bits BinOp.and IntKind.u32 (Int.fdiv w ((2 : Int) ^ Min.min (Int.toNat (21 : Int)) (IntKind.bits IntKind.u32))) (31 : Int)))),
 Seg.one (Sc.i IntKind.i64 (0 : Int)), Seg.one (Sc.i IntKind.i64 (0 : Int)), Seg.one (Sc.i IntKind.i64 (0 : Int)),
 Seg.one (Sc.i IntKind.i64 (IntKind.wrap IntKind.i64 (IntKind.wrap IntKind.i16 (bits BinOp.and IntKind.u32 w (65535 : Int)))))]),
 []))
 (Tr.ite (decide (f = (11 : Int)))
 (Tr.ret
 (SV.v
 (V1.agg
 [Seg.one (Sc.i IntKind.i64 op), Seg.one (Sc.i IntKind.i64 (0 : Int)), Seg.one (Sc.i IntKind.i64 (0 : Int)),
 Seg.one (Sc.i IntKind.i64 (0 : Int)), Seg.one (Sc.i IntKind.i64 (0 : Int)),
 Seg.one (Sc.i IntKind.i64 (IntKind.wrap IntKind.i64 (bits BinOp.and IntKind.u32 w (67108863 : Int))))]),
 []))
 (Tr.ite (bif decide (f = (12 : Int)) then true else bif decide (f = (13 : Int)) then true else decide (f = (18 : Int)))
 (Tr.ret
 (SV.v
 (V1.agg
 [Seg.one (Sc.i IntKind.i64 op),
 Seg.one
 (Sc.i IntKind.i64
 (IntKind.wrap IntKind.i64
 (bits BinOp.and IntKind.u32 (Int.fdiv w ((2 : Int) ^ Min.min (Int.toNat (21 : Int)) (IntKind.bits IntKind.u32))) (31 : Int)))),
 Seg.one
 (Sc.i IntKind.i64
 (IntKind.wrap IntKind.i64
 (bits BinOp.and IntKind.u32 (Int.fdiv w ((2 : Int) ^ Min.min (Int.toNat (16 : Int)) (IntKind.bits IntKind.u32))) (31 : Int)))),
 Seg.one (Sc.i IntKind.i64 (0 : Int)), Seg.one (Sc.i IntKind.i64 (0 : Int)),
 Seg.one (Sc.i IntKind.i64 (IntKind.wrap IntKind.i64 (IntKind.wrap IntKind.i16 (bits BinOp.and IntKind.u32 w (65535 : Int)))))]),
 []))
 (Tr.ite (decide (f = (14 : Int)))
 (Tr.ret
 (SV.v
 (V1.agg
 [Seg.one (Sc.i IntKind.i64 op),
 Seg.one
 (Sc.i IntKind.i64
 (IntKind.wrap IntKind.i64
 (bits BinOp.and IntKind.u32 (Int.fdiv w ((2 : Int) ^ Min.min (Int.toNat (21 : Int)) (IntKind.bits IntKind.u32))) (31 : Int)))),
 Seg.one
 (Sc.i IntKind.i64
 (IntKind.wrap IntKind.i64
 (bits BinOp.and IntKind.u32 (Int.fdiv w ((2 : Int) ^ Min.min (Int.toNat (16 : Int)) (IntKind.bits IntKind.u32))) (31 : Int)))),
 Seg.one (Sc.i IntKind.i64 (0 : Int)), Seg.one (Sc.i IntKind.i64 (0 : Int)),
 Seg.one
 (Sc.i IntKind.i64
 (bits BinOp.and IntKind.i64 (IntKind.wrap IntKind.i64 (IntKind.wrap IntKind.i16 (bits BinOp.and IntKind.u32 w (65535 : Int))))
 (65535 : Int)))]),
 []))
 (Tr.ite (decide (f = (15 : Int)))
 (Tr.ret
 (SV.v
 (V1.agg
 [Seg.one (Sc.i IntKind.i64 op), Seg.one (Sc.i IntKind.i64 (0 : Int)),
 Seg.one
 (Sc.i IntKind.i64
 (IntKind.wrap IntKind.i64
 (bits BinOp.and IntKind.u32 (Int.fdiv w ((2 : Int) ^ Min.min (Int.toNat (16 : Int)) (IntKind.bits IntKind.u32))) (31 : Int)))),
 Seg.one (Sc.i IntKind.i64 (0 : Int)), Seg.one (Sc.i IntKind.i64 (0 : Int)),
 Seg.one
 (Sc.i IntKind.i64
 (bits BinOp.and IntKind.i64 (IntKind.wrap IntKind.i64 (IntKind.wrap IntKind.i16 (bits BinOp.and IntKind.u32 w (65535 : Int))))
 (65535 : Int)))]),
 []))
 (Tr.ite (decide (f = (16 : Int)))
 (Tr.ret
 (SV.v
 (V1.agg
 [Seg.one (Sc.i IntKind.i64 op), Seg.one (Sc.i IntKind.i64 (0 : Int)),
 Seg.one
 (Sc.i IntKind.i64
 (IntKind.wrap IntKind.i64
 (bits BinOp.and IntKind.u32 (Int.fdiv w ((2 : Int) ^ Min.min (Int.toNat (16 : Int)) (IntKind.bits IntKind.u32))) (31 : Int)))),
 Seg.one
 (Sc.i IntKind.i64
 (IntKind.wrap IntKind.i64
 (bits BinOp.and IntKind.u32 (Int.fdiv w ((2 : Int) ^ Min.min (Int.toNat (11 : Int)) (IntKind.bits IntKind.u32))) (31 : Int)))),
 Seg.one (Sc.i IntKind.i64 (0 : Int)), Seg.one (Sc.i IntKind.i64 (0 : Int))]),
 []))
 (Tr.ret
 (SV.v
 (V1.agg
 [Seg.one (Sc.i IntKind.i64 op), Seg.one (Sc.i IntKind.i64 (0 : Int)), Seg.one (Sc.i IntKind.i64 (0 : Int)),
 Seg.one (Sc.i IntKind.i64 (0 : Int)), Seg.one (Sc.i IntKind.i64 (0 : Int)), Seg.one (Sc.i IntKind.i64 (0 : Int))]),
 [])))))))))))))))))

theorem run_decode_take (op : Int) (nm : List UInt8) (f : Int) (mj : Int) (mn : Int) (w : Int) (W : List Rw) : runF cx_decode_take 121 [.cell 6 42] (codeOf Try.f42) [(.v (.c (.i .i64 op))), (.v (.agg [.one (.s nm), .one (.i .i64 f), .one (.i .u32 mj), .one (.i .u32 mn)])), (.v (.c (.i .u32 w)))] [] W = out_decode_take op nm f mj mn w := by kernel_rfl
theorem pf_decode_take (op : Int) (nm : List UInt8) (f : Int) (mj : Int) (mn : Int) (w : Int) (K : SV × List Bk → Prop) (h : (.ass (U32 w) (.ret (.v (.agg [.one (.i .i64 (Z.takeOf f op w).op), .one (.i .i64 (Z.takeOf f op w).rs), .one (.i .i64 (Z.takeOf f op w).rt), .one (.i .i64 (Z.takeOf f op w).rd), .one (.i .i64 (Z.takeOf f op w).sa), .one (.i .i64 (Z.takeOf f op w).imm)]), [])) : Tr (SV × List Bk)).all K) : (out_decode_take op nm f mj mn w).all K := by
  obtain ⟨hp, h⟩ := h
  replace h := h hp
  replace h : K _ := h
  have s21 : w.fdiv (2 ^ min (Int.toNat 21) IntKind.u32.bits) = w / 2097152 := Z.shr_any (by decide)
  have b21 : bits .and .u32 (w / 2097152) 31 = w / 2097152 % 32 := Z.bM_u32 5 (by decide) (by decide) (by decide) (Z.div_range hp (by decide))
  have w21 : IntKind.i64.wrap (w / 2097152 % 32) = w / 2097152 % 32 := Z.wI64 (by omega)
  have s16 : w.fdiv (2 ^ min (Int.toNat 16) IntKind.u32.bits) = w / 65536 := Z.shr_any (by decide)
  have b16 : bits .and .u32 (w / 65536) 31 = w / 65536 % 32 := Z.bM_u32 5 (by decide) (by decide) (by decide) (Z.div_range hp (by decide))
  have w16 : IntKind.i64.wrap (w / 65536 % 32) = w / 65536 % 32 := Z.wI64 (by omega)
  have s11 : w.fdiv (2 ^ min (Int.toNat 11) IntKind.u32.bits) = w / 2048 := Z.shr_any (by decide)
  have b11 : bits .and .u32 (w / 2048) 31 = w / 2048 % 32 := Z.bM_u32 5 (by decide) (by decide) (by decide) (Z.div_range hp (by decide))
  have w11 : IntKind.i64.wrap (w / 2048 % 32) = w / 2048 % 32 := Z.wI64 (by omega)
  have s6 : w.fdiv (2 ^ min (Int.toNat 6) IntKind.u32.bits) = w / 64 := Z.shr_any (by decide)
  have b6 : bits .and .u32 (w / 64) 31 = w / 64 % 32 := Z.bM_u32 5 (by decide) (by decide) (by decide) (Z.div_range hp (by decide))
  have w6 : IntKind.i64.wrap (w / 64 % 32) = w / 64 % 32 := Z.wI64 (by omega)
  have b0 : bits .and .u32 w 65535 = w % 65536 := Z.bM_u32 16 (by decide) (by decide) (by decide) hp
  have b1 : bits .and .u32 w 67108863 = w % 67108864 := Z.bM_u32 26 (by decide) (by decide) (by decide) hp
  have w1 : IntKind.i64.wrap (w % 67108864) = w % 67108864 := Z.wI64 (by omega)
  have i0 : IntKind.i16.wrap (w % 65536) = Z.sign16 (w % 65536) := Z.wI16 (by omega)
  have hsg : -32768 ≤ Z.sign16 (w % 65536) ∧ Z.sign16 (w % 65536) < 32768 := by unfold Z.sign16; split <;> omega
  have i1 : IntKind.i64.wrap (Z.sign16 (w % 65536)) = Z.sign16 (w % 65536) := Z.wI64 (by omega)
  have i2 : bits .and .i64 (Z.sign16 (w % 65536)) 65535 = Z.sign16 (w % 65536) % 65536 := Z.bM_i64 16 (by decide) (by decide) (by decide)
  unfold out_decode_take
  simp only [Tr.all, s21, s16, s11, s6, b21, b16, b11, b6, w21, w16, w11, w6, b0, b1, w1, i0, i1, i2]
  refine ⟨by decide, fun _ => ⟨by decide, fun _ => ⟨by decide, fun _ => ⟨by decide, fun _ => ?_⟩⟩⟩⟩
  repeat' (first | with_reducible apply And.intro | with_reducible intro)
  all_goals (try simp only [Bool.cond_true_left, Bool.or_eq_true, Bool.or_eq_false_iff, decide_eq_true_eq, decide_eq_false_iff_not] at *)
  all_goals first | (refine leafE h ?_; first | rw [Z.tk0 (by omega)] | rw [Z.tk1 (by omega)] | rw [Z.tk2 (by omega)] | rw [Z.tk3 (by omega)] | rw [Z.tk4 (by omega)] | rw [Z.tk5 (by omega)] | rw [Z.tk6 (by omega)] | rw [Z.tk7 (by omega)] | rw [Z.tk8 (by omega)] | rw [Z.tk9 (by omega)] | rw [Z.tk10 (by omega)] | rw [Z.tk11 (by omega)] | rw [Z.tk12 (by omega)])
noncomputable def con_decode_take : Con := ⟨true, fun args H W => match args, H, W with
  | [(.v (.c (.i .i64 op))), (.v (.agg [.one (.s nm), .one (.i .i64 f), .one (.i .u32 mj), .one (.i .u32 mn)])), (.v (.c (.i .u32 w)))], [], _ => .ass (U32 w) (.ret (.v (.agg [.one (.i .i64 (Z.takeOf f op w).op), .one (.i .i64 (Z.takeOf f op w).rs), .one (.i .i64 (Z.takeOf f op w).rt), .one (.i .i64 (Z.takeOf f op w).rd), .one (.i .i64 (Z.takeOf f op w).sa), .one (.i .i64 (Z.takeOf f op w).imm)]), []))
  | _, _, _ => .stuck 900⟩
theorem ok_decode_take : ConOK Try.prog 42 con_decode_take := con_ok (code := (codeOf Try.f42)) (N := 121) (rs := [.cell 6 42]) cx_decode_take_ok 0 Try.func42 rfl rfl rfl (fun _ _ _ _ _ => LpOK.no (by kernel_rfl)) (by
  intro args H W K h hro
  unfold con_decode_take at h
  simp only at h
  split at h
  · refine ⟨rfl, ?_⟩
    rw [run_decode_take]
    exact pf_decode_take _ _ _ _ _ _ K h
  · exact h.elim)
noncomputable def cx_decode_lay : Ctx := mkCtx tys eqs [] []
theorem cx_decode_lay_ok : CtxOK Try.prog cx_decode_lay := mkCtx_ok _ mixed tys_ok eqs_ok trivial
noncomputable def out_decode_lay (nm : List UInt8) (f : Int) (mj : Int) (mn : Int) (op : Int) (rs : Int) (rt : Int) (rd : Int) (sa : Int) (im : Int) : Tr (SV × List Bk) :=
Tr.ite (decide (f = (9 : Int)))
 (Tr.ret
 (SV.v
 (V1.agg
 [Seg.one (Sc.i IntKind.u32 (bits BinOp.and IntKind.u32 (IntKind.wrap IntKind.u32 rs) (31 : Int))),
 Seg.one (Sc.i IntKind.u32 (bits BinOp.and IntKind.u32 (IntKind.wrap IntKind.u32 rd) (31 : Int))),
 Seg.one (Sc.i IntKind.u32 (bits BinOp.and IntKind.u32 (IntKind.wrap IntKind.u32 rd) (31 : Int))), Seg.one (Sc.i IntKind.u32 (0 : Int)),
 Seg.one (Sc.i IntKind.u32 mn), Seg.one (Sc.i IntKind.u32 (0 : Int))]),
 []))
 (Tr.ite (decide (f = (10 : Int)))
 (Tr.ret
 (SV.v
 (V1.agg
 [Seg.one (Sc.i IntKind.u32 (bits BinOp.and IntKind.u32 (IntKind.wrap IntKind.u32 rs) (31 : Int))), Seg.one (Sc.i IntKind.u32 mn),
 Seg.one (Sc.i IntKind.u32 (0 : Int)), Seg.one (Sc.i IntKind.u32 (0 : Int)), Seg.one (Sc.i IntKind.u32 (0 : Int)),
 Seg.one (Sc.i IntKind.u32 (bits BinOp.and IntKind.u32 (IntKind.wrap IntKind.u32 im) (65535 : Int)))]),
 []))
 (Tr.ite (decide (f = (11 : Int)))
 (Tr.ret
 (SV.v
 (V1.agg
 [Seg.one (Sc.i IntKind.u32 (0 : Int)), Seg.one (Sc.i IntKind.u32 (0 : Int)), Seg.one (Sc.i IntKind.u32 (0 : Int)),
 Seg.one (Sc.i IntKind.u32 (0 : Int)), Seg.one (Sc.i IntKind.u32 (0 : Int)),
 Seg.one (Sc.i IntKind.u32 (bits BinOp.and IntKind.u32 (IntKind.wrap IntKind.u32 im) (67108863 : Int)))]),
 []))
 (Tr.ite
 (bif decide (f = (12 : Int)) then true
 else
 bif decide (f = (13 : Int)) then true
 else bif decide (f = (14 : Int)) then true else bif decide (f = (15 : Int)) then true else decide (f = (18 : Int)))
 (Tr.ret
 (SV.v
 (V1.agg
 [Seg.one (Sc.i IntKind.u32 (bits BinOp.and IntKind.u32 (IntKind.wrap IntKind.u32 rs) (31 : Int))),
 Seg.one (Sc.i IntKind.u32 (bits BinOp.and IntKind.u32 (IntKind.wrap IntKind.u32 rt) (31 : Int))), Seg.one (Sc.i IntKind.u32 (0 : Int)),
 Seg.one (Sc.i IntKind.u32 (0 : Int)), Seg.one (Sc.i IntKind.u32 (0 : Int)),
 Seg.one (Sc.i IntKind.u32 (bits BinOp.and IntKind.u32 (IntKind.wrap IntKind.u32 im) (65535 : Int)))]),
 []))
 (Tr.ite (decide (f = (16 : Int)))
 (Tr.ret
 (SV.v
 (V1.agg
 [Seg.one (Sc.i IntKind.u32 mn), Seg.one (Sc.i IntKind.u32 (bits BinOp.and IntKind.u32 (IntKind.wrap IntKind.u32 rt) (31 : Int))),
 Seg.one (Sc.i IntKind.u32 (bits BinOp.and IntKind.u32 (IntKind.wrap IntKind.u32 rd) (31 : Int))), Seg.one (Sc.i IntKind.u32 (0 : Int)),
 Seg.one (Sc.i IntKind.u32 (0 : Int)), Seg.one (Sc.i IntKind.u32 (0 : Int))]),
 []))
 (Tr.ite (decide (f = (17 : Int)))
 (Tr.ret
 (SV.v
 (V1.agg
 [Seg.one (Sc.i IntKind.u32 (16 : Int)), Seg.one (Sc.i IntKind.u32 (0 : Int)), Seg.one (Sc.i IntKind.u32 (0 : Int)),
 Seg.one (Sc.i IntKind.u32 (0 : Int)), Seg.one (Sc.i IntKind.u32 mn), Seg.one (Sc.i IntKind.u32 (0 : Int))]),
 []))
 (Tr.ret
 (SV.v
 (V1.agg
 [Seg.one (Sc.i IntKind.u32 (bits BinOp.and IntKind.u32 (IntKind.wrap IntKind.u32 rs) (31 : Int))),
 Seg.one (Sc.i IntKind.u32 (bits BinOp.and IntKind.u32 (IntKind.wrap IntKind.u32 rt) (31 : Int))),
 Seg.one (Sc.i IntKind.u32 (bits BinOp.and IntKind.u32 (IntKind.wrap IntKind.u32 rd) (31 : Int))),
 Seg.one (Sc.i IntKind.u32 (bits BinOp.and IntKind.u32 (IntKind.wrap IntKind.u32 sa) (31 : Int))), Seg.one (Sc.i IntKind.u32 mn),
 Seg.one (Sc.i IntKind.u32 (0 : Int))]),
 [])))))))

theorem run_decode_lay (nm : List UInt8) (f : Int) (mj : Int) (mn : Int) (op : Int) (rs : Int) (rt : Int) (rd : Int) (sa : Int) (im : Int) (W : List Rw) : runF cx_decode_lay 82 [.cell 4 71] (codeOf Try.f43) [(.v (.agg [.one (.s nm), .one (.i .i64 f), .one (.i .u32 mj), .one (.i .u32 mn)])), (.v (.agg [.one (.i .i64 op), .one (.i .i64 rs), .one (.i .i64 rt), .one (.i .i64 rd), .one (.i .i64 sa), .one (.i .i64 im)]))] [] W = out_decode_lay nm f mj mn op rs rt rd sa im := by kernel_rfl
theorem pf_decode_lay (nm : List UInt8) (f : Int) (mj : Int) (mn : Int) (op : Int) (rs : Int) (rt : Int) (rd : Int) (sa : Int) (im : Int) (K : SV × List Bk → Prop) (h : (.ret (.v (.agg [.one (.i .u32 (Z.layOf f mn ⟨op, rs, rt, rd, sa, im⟩).rs), .one (.i .u32 (Z.layOf f mn ⟨op, rs, rt, rd, sa, im⟩).rt), .one (.i .u32 (Z.layOf f mn ⟨op, rs, rt, rd, sa, im⟩).rd), .one (.i .u32 (Z.layOf f mn ⟨op, rs, rt, rd, sa, im⟩).sa), .one (.i .u32 (Z.layOf f mn ⟨op, rs, rt, rd, sa, im⟩).minor), .one (.i .u32 (Z.layOf f mn ⟨op, rs, rt, rd, sa, im⟩).imm)]), []) : Tr (SV × List Bk)).all K) : (out_decode_lay nm f mj mn op rs rt rd sa im).all K := by
  replace h : K _ := h
  have ers : bits .and .u32 (IntKind.u32.wrap rs) 31 = rs % 32 := by rw [Z.wU32, Z.bM_u32 5 (p := 32) (by decide) (by decide) (by decide) (Z.mod_u32 _)]; omega
  have ert : bits .and .u32 (IntKind.u32.wrap rt) 31 = rt % 32 := by rw [Z.wU32, Z.bM_u32 5 (p := 32) (by decide) (by decide) (by decide) (Z.mod_u32 _)]; omega
  have erd : bits .and .u32 (IntKind.u32.wrap rd) 31 = rd % 32 := by rw [Z.wU32, Z.bM_u32 5 (p := 32) (by decide) (by decide) (by decide) (Z.mod_u32 _)]; omega
  have esa : bits .and .u32 (IntKind.u32.wrap sa) 31 = sa % 32 := by rw [Z.wU32, Z.bM_u32 5 (p := 32) (by decide) (by decide) (by decide) (Z.mod_u32 _)]; omega
  have ei : bits .and .u32 (IntKind.u32.wrap im) 65535 = im % 65536 := by rw [Z.wU32, Z.bM_u32 16 (p := 65536) (by decide) (by decide) (by decide) (Z.mod_u32 _)]; omega
  have ej : bits .and .u32 (IntKind.u32.wrap im) 67108863 = im % 67108864 := by rw [Z.wU32, Z.bM_u32 26 (p := 67108864) (by decide) (by decide) (by decide) (Z.mod_u32 _)]; omega
  unfold out_decode_lay
  simp only [Tr.all, ers, ert, erd, esa, ei, ej]
  repeat' (first | with_reducible apply And.intro | with_reducible intro)
  all_goals (try simp only [Bool.cond_true_left, Bool.or_eq_true, Bool.or_eq_false_iff, decide_eq_true_eq, decide_eq_false_iff_not] at *)
  all_goals (refine leafE h ?_; rw [Z.layOf]; (repeat' split) <;> first | rfl | omega)
noncomputable def con_decode_lay : Con := ⟨true, fun args H W => match args, H, W with
  | [(.v (.agg [.one (.s nm), .one (.i .i64 f), .one (.i .u32 mj), .one (.i .u32 mn)])), (.v (.agg [.one (.i .i64 op), .one (.i .i64 rs), .one (.i .i64 rt), .one (.i .i64 rd), .one (.i .i64 sa), .one (.i .i64 im)]))], [], _ => .ret (.v (.agg [.one (.i .u32 (Z.layOf f mn ⟨op, rs, rt, rd, sa, im⟩).rs), .one (.i .u32 (Z.layOf f mn ⟨op, rs, rt, rd, sa, im⟩).rt), .one (.i .u32 (Z.layOf f mn ⟨op, rs, rt, rd, sa, im⟩).rd), .one (.i .u32 (Z.layOf f mn ⟨op, rs, rt, rd, sa, im⟩).sa), .one (.i .u32 (Z.layOf f mn ⟨op, rs, rt, rd, sa, im⟩).minor), .one (.i .u32 (Z.layOf f mn ⟨op, rs, rt, rd, sa, im⟩).imm)]), [])
  | _, _, _ => .stuck 900⟩
theorem ok_decode_lay : ConOK Try.prog 43 con_decode_lay := con_ok (code := (codeOf Try.f43)) (N := 82) (rs := [.cell 4 71]) cx_decode_lay_ok 0 Try.func43 rfl rfl rfl (fun _ _ _ _ _ => LpOK.no (by kernel_rfl)) (by
  intro args H W K h hro
  unfold con_decode_lay at h
  simp only at h
  split at h
  · refine ⟨rfl, ?_⟩
    rw [run_decode_lay]
    exact pf_decode_lay _ _ _ _ _ _ _ _ _ _ K h
  · exact h.elim)
noncomputable def cx_zoetrope_decode_fields_word : Ctx := mkCtx tys eqs [] []
theorem cx_zoetrope_decode_fields_word_ok : CtxOK Try.prog cx_zoetrope_decode_fields_word := mkCtx_ok _ mixed tys_ok eqs_ok trivial
noncomputable def out_zoetrope_decode_fields_word (rs : Int) (rt : Int) (rd : Int) (sa : Int) (mi : Int) (im : Int) (mj : Int) : Tr (SV × List Bk) :=
Tr.ass ((0 : Int) ≤ (26 : Int))
 (Tr.ass ((0 : Int) ≤ (21 : Int))
 (Tr.ass ((0 : Int) ≤ (16 : Int))
 (Tr.ass ((0 : Int) ≤ (11 : Int))
 (Tr.ass ((0 : Int) ≤ (6 : Int))
 (Tr.ret
 (SV.v
 (V1.c
 (Sc.i IntKind.u32
 (bits BinOp.or IntKind.u32
 (bits BinOp.or IntKind.u32
 (bits BinOp.or IntKind.u32
 (bits BinOp.or IntKind.u32
 (bits BinOp.or IntKind.u32
 (bits BinOp.or IntKind.u32 (IntKind.wrap IntKind.u32 (mj * (2 : Int) ^ Min.min (Int.toNat (26 : Int)) (IntKind.bits IntKind.u32)))
 (IntKind.wrap IntKind.u32 (rs * (2 : Int) ^ Min.min (Int.toNat (21 : Int)) (IntKind.bits IntKind.u32))))
 (IntKind.wrap IntKind.u32 (rt * (2 : Int) ^ Min.min (Int.toNat (16 : Int)) (IntKind.bits IntKind.u32))))
 (IntKind.wrap IntKind.u32 (rd * (2 : Int) ^ Min.min (Int.toNat (11 : Int)) (IntKind.bits IntKind.u32))))
 (IntKind.wrap IntKind.u32 (sa * (2 : Int) ^ Min.min (Int.toNat (6 : Int)) (IntKind.bits IntKind.u32))))
 mi)
 im))),
 []))))))

theorem run_zoetrope_decode_fields_word (rs : Int) (rt : Int) (rd : Int) (sa : Int) (mi : Int) (im : Int) (mj : Int) (W : List Rw) : runF cx_zoetrope_decode_fields_word 29 [.tmp 4] (codeOf Try.f44) [(.v (.agg [.one (.i .u32 rs), .one (.i .u32 rt), .one (.i .u32 rd), .one (.i .u32 sa), .one (.i .u32 mi), .one (.i .u32 im)])), (.v (.c (.i .u32 mj)))] [] W = out_zoetrope_decode_fields_word rs rt rd sa mi im mj := by kernel_rfl
theorem pf_zoetrope_decode_fields_word (rs : Int) (rt : Int) (rd : Int) (sa : Int) (mi : Int) (im : Int) (mj : Int) (K : SV × List Bk → Prop) (h : (.ass ((⟨rs, rt, rd, sa, mi, im⟩ : Z.Lay).ok ∧ 0 ≤ mj ∧ mj < 64) (.ret (.v (.c (.i .u32 ((⟨rs, rt, rd, sa, mi, im⟩ : Z.Lay).word mj))), [])) : Tr (SV × List Bk)).all K) : (out_zoetrope_decode_fields_word rs rt rd sa mi im mj).all K := by
  obtain ⟨hp, h⟩ := h
  replace h := h hp
  replace h : K _ := h
  obtain ⟨⟨hrs, hrt, hrd, hsa, hmi, him⟩, hM⟩ := hp
  dsimp only at hrs hrt hrd hsa hmi him
  have s26 : IntKind.u32.wrap (mj * 2 ^ min (Int.toNat 26) IntKind.u32.bits) = mj * 67108864 := by rw [Z.shl_u32 (p := 67108864) (by decide)]; omega
  have s21 : IntKind.u32.wrap (rs * 2 ^ min (Int.toNat 21) IntKind.u32.bits) = rs * 2097152 := by rw [Z.shl_u32 (p := 2097152) (by decide)]; omega
  have s16 : IntKind.u32.wrap (rt * 2 ^ min (Int.toNat 16) IntKind.u32.bits) = rt * 65536 := by rw [Z.shl_u32 (p := 65536) (by decide)]; omega
  have s11 : IntKind.u32.wrap (rd * 2 ^ min (Int.toNat 11) IntKind.u32.bits) = rd * 2048 := by rw [Z.shl_u32 (p := 2048) (by decide)]; omega
  have s6 : IntKind.u32.wrap (sa * 2 ^ min (Int.toNat 6) IntKind.u32.bits) = sa * 64 := by rw [Z.shl_u32 (p := 64) (by decide)]; omega
  have hfin : bits .or .u32 (mj * 67108864 + rs * 2097152 + rt * 65536 + rd * 2048 + sa * 64 + mi) im = (⟨rs, rt, rd, sa, mi, im⟩ : Z.Lay).word mj := by
    rcases him with h | h | h
    · exact Z.bOr_u32 0 (p := 1) (by decide) (by decide) (by omega) (by omega) (by omega)
    · exact Z.bOr_u32 16 (p := 65536) (by decide) (by decide) (by omega) (by omega) (by omega)
    · exact Z.bOr_u32 26 (p := 67108864) (by decide) (by decide) (by omega) (by omega) (by omega)
  have o1 : bits .or .u32 (mj * 67108864) (rs * 2097152) = mj * 67108864 + rs * 2097152 := Z.bOr_u32 26 (p := 67108864) (by decide) (by decide) (by omega) (by omega) (by omega)
  have o2 : bits .or .u32 (mj * 67108864 + rs * 2097152) (rt * 65536) = mj * 67108864 + rs * 2097152 + rt * 65536 := Z.bOr_u32 21 (p := 2097152) (by decide) (by decide) (by omega) (by omega) (by omega)
  have o3 : bits .or .u32 (mj * 67108864 + rs * 2097152 + rt * 65536) (rd * 2048) = mj * 67108864 + rs * 2097152 + rt * 65536 + rd * 2048 := Z.bOr_u32 16 (p := 65536) (by decide) (by decide) (by omega) (by omega) (by omega)
  have o4 : bits .or .u32 (mj * 67108864 + rs * 2097152 + rt * 65536 + rd * 2048) (sa * 64) = mj * 67108864 + rs * 2097152 + rt * 65536 + rd * 2048 + sa * 64 := Z.bOr_u32 11 (p := 2048) (by decide) (by decide) (by omega) (by omega) (by omega)
  have o5 : bits .or .u32 (mj * 67108864 + rs * 2097152 + rt * 65536 + rd * 2048 + sa * 64) (mi) = mj * 67108864 + rs * 2097152 + rt * 65536 + rd * 2048 + sa * 64 + mi := Z.bOr_u32 6 (p := 64) (by decide) (by decide) (by omega) (by omega) (by omega)
  unfold out_zoetrope_decode_fields_word
  simp only [Tr.all, s26, s21, s16, s11, s6]
  rw [o1, o2, o3, o4, o5, hfin]
  exact ⟨by decide, fun _ => ⟨by decide, fun _ => ⟨by decide, fun _ => ⟨by decide, fun _ => ⟨by decide, fun _ => h⟩⟩⟩⟩⟩
noncomputable def con_zoetrope_decode_fields_word : Con := ⟨true, fun args H W => match args, H, W with
  | [(.v (.agg [.one (.i .u32 rs), .one (.i .u32 rt), .one (.i .u32 rd), .one (.i .u32 sa), .one (.i .u32 mi), .one (.i .u32 im)])), (.v (.c (.i .u32 mj)))], [], _ => .ass ((⟨rs, rt, rd, sa, mi, im⟩ : Z.Lay).ok ∧ 0 ≤ mj ∧ mj < 64) (.ret (.v (.c (.i .u32 ((⟨rs, rt, rd, sa, mi, im⟩ : Z.Lay).word mj))), []))
  | _, _, _ => .stuck 900⟩
theorem ok_zoetrope_decode_fields_word : ConOK Try.prog 44 con_zoetrope_decode_fields_word := con_ok (code := (codeOf Try.f44)) (N := 29) (rs := [.tmp 4]) cx_zoetrope_decode_fields_word_ok 0 Try.func44 rfl rfl rfl (fun _ _ _ _ _ => LpOK.no (by kernel_rfl)) (by
  intro args H W K h hro
  unfold con_zoetrope_decode_fields_word at h
  simp only at h
  split at h
  · refine ⟨rfl, ?_⟩
    rw [run_zoetrope_decode_fields_word]
    exact pf_zoetrope_decode_fields_word _ _ _ _ _ _ _ K h
  · exact h.elim)
end Go.Y
