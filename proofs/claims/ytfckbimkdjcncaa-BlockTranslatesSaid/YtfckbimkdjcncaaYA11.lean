/- PRINTED by wip/tools/ybuild.py: contracts of zoetroperef04.first, zoetroperef04.second, zoetroperef04.third. -/
import Derived.Test.YtfckbimkdjcncaaYTyA
import Derived.Test.YtfckbimkdjcncaaG6
import Derived.Test.YtfckbimkdjcncaaYA00
import Derived.Test.YtfckbimkdjcncaaYA01
import Derived.Test.YtfckbimkdjcncaaYA02
import Derived.Test.YtfckbimkdjcncaaYA03
import Derived.Test.YtfckbimkdjcncaaYA04
import Derived.Test.YtfckbimkdjcncaaYA05
import Derived.Test.YtfckbimkdjcncaaYA06
import Derived.Test.YtfckbimkdjcncaaYA07
import Derived.Test.YtfckbimkdjcncaaYA08
import Derived.Test.YtfckbimkdjcncaaYA09
import Derived.Test.YtfckbimkdjcncaaYA10
set_option maxRecDepth 100000
set_option linter.unusedSimpArgs false
set_option linter.unusedVariables false
namespace Go.Y
open Go.Proofs Go.X
open Go.Z (U32 Regs rg kindOf lessOf shiftOf fillOf sg bitAt withBit bnor bor band bxor b01 bitsOf)
noncomputable def cx_zoetroperef04_first : Ctx := mkCtx tys eqs [] []
theorem cx_zoetroperef04_first_ok : CtxOK Try.prog cx_zoetroperef04_first := mkCtx_ok _ mixed tys_ok eqs_ok trivial
noncomputable def out_zoetroperef04_first (op : Int) : Tr (SV × List Bk) :=
Tr.ite (decide (op = (0 : Int)))
 (Tr.ret
 (SV.v
 (V1.agg
 [Seg.one (Sc.s [(115 : UInt8), (108 : UInt8), (108 : UInt8)]), Seg.one (Sc.s [(83 : UInt8), (72 : UInt8)]), Seg.one (Sc.i IntKind.i64 (0 : Int)),
 Seg.one (Sc.i IntKind.i64 (0 : Int))]),
 []))
 (Tr.ite (decide (op = (1 : Int)))
 (Tr.ret
 (SV.v
 (V1.agg
 [Seg.one (Sc.s [(115 : UInt8), (114 : UInt8), (108 : UInt8)]), Seg.one (Sc.s [(83 : UInt8), (72 : UInt8)]), Seg.one (Sc.i IntKind.i64 (0 : Int)),
 Seg.one (Sc.i IntKind.i64 (2 : Int))]),
 []))
 (Tr.ite (decide (op = (2 : Int)))
 (Tr.ret
 (SV.v
 (V1.agg
 [Seg.one (Sc.s [(115 : UInt8), (114 : UInt8), (97 : UInt8)]), Seg.one (Sc.s [(83 : UInt8), (72 : UInt8)]), Seg.one (Sc.i IntKind.i64 (0 : Int)),
 Seg.one (Sc.i IntKind.i64 (3 : Int))]),
 []))
 (Tr.ite (decide (op = (3 : Int)))
 (Tr.ret
 (SV.v
 (V1.agg
 [Seg.one (Sc.s [(115 : UInt8), (108 : UInt8), (108 : UInt8), (118 : UInt8)]), Seg.one (Sc.s [(83 : UInt8), (86 : UInt8)]),
 Seg.one (Sc.i IntKind.i64 (0 : Int)), Seg.one (Sc.i IntKind.i64 (4 : Int))]),
 []))
 (Tr.ite (decide (op = (4 : Int)))
 (Tr.ret
 (SV.v
 (V1.agg
 [Seg.one (Sc.s [(115 : UInt8), (114 : UInt8), (108 : UInt8), (118 : UInt8)]), Seg.one (Sc.s [(83 : UInt8), (86 : UInt8)]),
 Seg.one (Sc.i IntKind.i64 (0 : Int)), Seg.one (Sc.i IntKind.i64 (6 : Int))]),
 []))
 (Tr.ite (decide (op = (5 : Int)))
 (Tr.ret
 (SV.v
 (V1.agg
 [Seg.one (Sc.s [(115 : UInt8), (114 : UInt8), (97 : UInt8), (118 : UInt8)]), Seg.one (Sc.s [(83 : UInt8), (86 : UInt8)]),
 Seg.one (Sc.i IntKind.i64 (0 : Int)), Seg.one (Sc.i IntKind.i64 (7 : Int))]),
 []))
 (Tr.ite (decide (op = (6 : Int)))
 (Tr.ret
 (SV.v
 (V1.agg
 [Seg.one (Sc.s [(106 : UInt8), (114 : UInt8)]), Seg.one (Sc.s [(74 : UInt8), (82 : UInt8)]), Seg.one (Sc.i IntKind.i64 (0 : Int)),
 Seg.one (Sc.i IntKind.i64 (8 : Int))]),
 []))
 (Tr.ite (decide (op = (7 : Int)))
 (Tr.ret
 (SV.v
 (V1.agg
 [Seg.one (Sc.s [(106 : UInt8), (97 : UInt8), (108 : UInt8), (114 : UInt8)]), Seg.one (Sc.s [(74 : UInt8), (65 : UInt8), (76 : UInt8), (82 : UInt8)]),
 Seg.one (Sc.i IntKind.i64 (0 : Int)), Seg.one (Sc.i IntKind.i64 (9 : Int))]),
 []))
 (Tr.ite (decide (op = (8 : Int)))
 (Tr.ret
 (SV.v
 (V1.agg
 [Seg.one (Sc.s [(109 : UInt8), (111 : UInt8), (118 : UInt8), (122 : UInt8)]), Seg.one (Sc.s [(82 : UInt8)]),
 Seg.one (Sc.i IntKind.i64 (0 : Int)), Seg.one (Sc.i IntKind.i64 (10 : Int))]),
 []))
 (Tr.ite (decide (op = (9 : Int)))
 (Tr.ret
 (SV.v
 (V1.agg
 [Seg.one (Sc.s [(109 : UInt8), (111 : UInt8), (118 : UInt8), (110 : UInt8)]), Seg.one (Sc.s [(82 : UInt8)]),
 Seg.one (Sc.i IntKind.i64 (0 : Int)), Seg.one (Sc.i IntKind.i64 (11 : Int))]),
 []))
 (Tr.ite (decide (op = (10 : Int)))
 (Tr.ret
 (SV.v
 (V1.agg
 [Seg.one (Sc.s [(115 : UInt8), (121 : UInt8), (115 : UInt8), (99 : UInt8), (97 : UInt8), (108 : UInt8), (108 : UInt8)]),
 Seg.one (Sc.s [(78 : UInt8)]), Seg.one (Sc.i IntKind.i64 (0 : Int)), Seg.one (Sc.i IntKind.i64 (12 : Int))]),
 []))
 (Tr.ite (decide (op = (11 : Int)))
 (Tr.ret
 (SV.v
 (V1.agg
 [Seg.one (Sc.s [(98 : UInt8), (114 : UInt8), (101 : UInt8), (97 : UInt8), (107 : UInt8)]), Seg.one (Sc.s [(78 : UInt8)]),
 Seg.one (Sc.i IntKind.i64 (0 : Int)), Seg.one (Sc.i IntKind.i64 (13 : Int))]),
 []))
 (Tr.ite (decide (op = (12 : Int)))
 (Tr.ret
 (SV.v
 (V1.agg
 [Seg.one (Sc.s [(109 : UInt8), (102 : UInt8), (104 : UInt8), (105 : UInt8)]), Seg.one (Sc.s [(77 : UInt8), (70 : UInt8)]),
 Seg.one (Sc.i IntKind.i64 (0 : Int)), Seg.one (Sc.i IntKind.i64 (16 : Int))]),
 []))
 (Tr.ite (decide (op = (13 : Int)))
 (Tr.ret
 (SV.v
 (V1.agg
 [Seg.one (Sc.s [(109 : UInt8), (116 : UInt8), (104 : UInt8), (105 : UInt8)]), Seg.one (Sc.s [(77 : UInt8), (84 : UInt8)]),
 Seg.one (Sc.i IntKind.i64 (0 : Int)), Seg.one (Sc.i IntKind.i64 (17 : Int))]),
 []))
 (Tr.ite (decide (op = (14 : Int)))
 (Tr.ret
 (SV.v
 (V1.agg
 [Seg.one (Sc.s [(109 : UInt8), (102 : UInt8), (108 : UInt8), (111 : UInt8)]), Seg.one (Sc.s [(77 : UInt8), (70 : UInt8)]),
 Seg.one (Sc.i IntKind.i64 (0 : Int)), Seg.one (Sc.i IntKind.i64 (18 : Int))]),
 []))
 (Tr.ite (decide (op = (15 : Int)))
 (Tr.ret
 (SV.v
 (V1.agg
 [Seg.one (Sc.s [(109 : UInt8), (116 : UInt8), (108 : UInt8), (111 : UInt8)]), Seg.one (Sc.s [(77 : UInt8), (84 : UInt8)]),
 Seg.one (Sc.i IntKind.i64 (0 : Int)), Seg.one (Sc.i IntKind.i64 (19 : Int))]),
 []))
 (Tr.ite (decide (op = (16 : Int)))
 (Tr.ret
 (SV.v
 (V1.agg
 [Seg.one (Sc.s [(109 : UInt8), (117 : UInt8), (108 : UInt8), (116 : UInt8)]), Seg.one (Sc.s [(77 : UInt8), (68 : UInt8)]),
 Seg.one (Sc.i IntKind.i64 (0 : Int)), Seg.one (Sc.i IntKind.i64 (24 : Int))]),
 []))
 (Tr.ite (decide (op = (17 : Int)))
 (Tr.ret
 (SV.v
 (V1.agg
 [Seg.one (Sc.s [(109 : UInt8), (117 : UInt8), (108 : UInt8), (116 : UInt8), (117 : UInt8)]),
 Seg.one (Sc.s [(77 : UInt8), (68 : UInt8)]), Seg.one (Sc.i IntKind.i64 (0 : Int)),
 Seg.one (Sc.i IntKind.i64 (25 : Int))]),
 []))
 (Tr.ite (decide (op = (18 : Int)))
 (Tr.ret
 (SV.v
 (V1.agg
 [Seg.one (Sc.s [(100 : UInt8), (105 : UInt8), (118 : UInt8)]), Seg.one (Sc.s [(77 : UInt8), (68 : UInt8)]),
 Seg.one (Sc.i IntKind.i64 (0 : Int)), Seg.one (Sc.i IntKind.i64 (26 : Int))]),
 []))
 (Tr.ite (decide (op = (19 : Int)))
 (Tr.ret
 (SV.v
 (V1.agg
 [Seg.one (Sc.s [(100 : UInt8), (105 : UInt8), (118 : UInt8), (117 : UInt8)]), Seg.one (Sc.s [(77 : UInt8), (68 : UInt8)]),
 Seg.one (Sc.i IntKind.i64 (0 : Int)), Seg.one (Sc.i IntKind.i64 (27 : Int))]),
 []))
 (Tr.ite (decide (op = (20 : Int)))
 (Tr.ret
 (SV.v
 (V1.agg
 [Seg.one (Sc.s [(97 : UInt8), (100 : UInt8), (100 : UInt8)]), Seg.one (Sc.s [(82 : UInt8)]),
 Seg.one (Sc.i IntKind.i64 (0 : Int)), Seg.one (Sc.i IntKind.i64 (32 : Int))]),
 []))
 (Tr.ite (decide (op = (21 : Int)))
 (Tr.ret
 (SV.v
 (V1.agg
 [Seg.one (Sc.s [(97 : UInt8), (100 : UInt8), (100 : UInt8), (117 : UInt8)]), Seg.one (Sc.s [(82 : UInt8)]),
 Seg.one (Sc.i IntKind.i64 (0 : Int)), Seg.one (Sc.i IntKind.i64 (33 : Int))]),
 []))
 (Tr.ite (decide (op = (22 : Int)))
 (Tr.ret
 (SV.v
 (V1.agg
 [Seg.one (Sc.s [(115 : UInt8), (117 : UInt8), (98 : UInt8)]), Seg.one (Sc.s [(82 : UInt8)]),
 Seg.one (Sc.i IntKind.i64 (0 : Int)), Seg.one (Sc.i IntKind.i64 (34 : Int))]),
 []))
 (Tr.ret
 (SV.v
 (V1.agg
 [Seg.one (Sc.s []), Seg.one (Sc.s []), Seg.one (Sc.i IntKind.i64 (0 : Int)),
 Seg.one (Sc.i IntKind.i64 (0 : Int))]),
 []))))))))))))))))))))))))

theorem run_zoetroperef04_first (op : Int) (W : List Rw) : runF cx_zoetroperef04_first 74 [.cell 2 47] (codeOf Try.f38) [(.v (.c (.i .i64 op)))] [] W = out_zoetroperef04_first op := by kernel_rfl
theorem pf_zoetroperef04_first (op : Int) (K : SV × List Bk → Prop) (h : (.ass (op < 23) (.ret (.v (.agg [.one (.s (nameL (op))), .one (.s (formL (op))), .one (.i .i64 (majO (op))), .one (.i .i64 (minO (op)))]), [])) : Tr (SV × List Bk)).all K) : (out_zoetroperef04_first op).all K := by
  obtain ⟨hp, h⟩ := h
  replace h := h hp
  replace h : K _ := h
  unfold out_zoetroperef04_first
  simp only [Tr.all, decide_eq_true_eq, decide_eq_false_iff_not]
  repeat' (first | with_reducible apply And.intro | with_reducible intro)
  all_goals first
    | (rename_i hx; subst hx; exact leafE h (by kernel_rfl))
    | (refine leafE h ?_; rw [nameL_no (by omega), formL_no (by omega), majO_no (by omega), minO_no (by omega)])
noncomputable def con_zoetroperef04_first : Con := ⟨true, fun args H W => match args, H, W with
  | [(.v (.c (.i .i64 op)))], [], _ => .ass (op < 23) (.ret (.v (.agg [.one (.s (nameL (op))), .one (.s (formL (op))), .one (.i .i64 (majO (op))), .one (.i .i64 (minO (op)))]), []))
  | _, _, _ => .stuck 900⟩
theorem ok_zoetroperef04_first : ConOK Try.prog 38 con_zoetroperef04_first := con_ok (code := (codeOf Try.f38)) (N := 74) (rs := [.cell 2 47]) cx_zoetroperef04_first_ok 0 Try.func38 rfl rfl rfl (fun _ _ _ _ _ => LpOK.no (by kernel_rfl)) (by
  intro args H W K h hro
  unfold con_zoetroperef04_first at h
  simp only at h
  split at h
  · refine ⟨rfl, ?_⟩
    rw [run_zoetroperef04_first]
    exact pf_zoetroperef04_first _ K h
  · exact h.elim)
noncomputable def cx_zoetroperef04_second : Ctx := mkCtx tys eqs [] []
theorem cx_zoetroperef04_second_ok : CtxOK Try.prog cx_zoetroperef04_second := mkCtx_ok _ mixed tys_ok eqs_ok trivial
noncomputable def out_zoetroperef04_second (op : Int) : Tr (SV × List Bk) :=
Tr.ite (decide (op = (23 : Int)))
 (Tr.ret
 (SV.v
 (V1.agg
 [Seg.one (Sc.s [(115 : UInt8), (117 : UInt8), (98 : UInt8), (117 : UInt8)]), Seg.one (Sc.s [(82 : UInt8)]), Seg.one (Sc.i IntKind.i64 (0 : Int)),
 Seg.one (Sc.i IntKind.i64 (35 : Int))]),
 []))
 (Tr.ite (decide (op = (24 : Int)))
 (Tr.ret
 (SV.v
 (V1.agg
 [Seg.one (Sc.s [(97 : UInt8), (110 : UInt8), (100 : UInt8)]), Seg.one (Sc.s [(82 : UInt8)]), Seg.one (Sc.i IntKind.i64 (0 : Int)),
 Seg.one (Sc.i IntKind.i64 (36 : Int))]),
 []))
 (Tr.ite (decide (op = (25 : Int)))
 (Tr.ret
 (SV.v
 (V1.agg
 [Seg.one (Sc.s [(111 : UInt8), (114 : UInt8)]), Seg.one (Sc.s [(82 : UInt8)]), Seg.one (Sc.i IntKind.i64 (0 : Int)),
 Seg.one (Sc.i IntKind.i64 (37 : Int))]),
 []))
 (Tr.ite (decide (op = (26 : Int)))
 (Tr.ret
 (SV.v
 (V1.agg
 [Seg.one (Sc.s [(120 : UInt8), (111 : UInt8), (114 : UInt8)]), Seg.one (Sc.s [(82 : UInt8)]), Seg.one (Sc.i IntKind.i64 (0 : Int)),
 Seg.one (Sc.i IntKind.i64 (38 : Int))]),
 []))
 (Tr.ite (decide (op = (27 : Int)))
 (Tr.ret
 (SV.v
 (V1.agg
 [Seg.one (Sc.s [(110 : UInt8), (111 : UInt8), (114 : UInt8)]), Seg.one (Sc.s [(82 : UInt8)]), Seg.one (Sc.i IntKind.i64 (0 : Int)),
 Seg.one (Sc.i IntKind.i64 (39 : Int))]),
 []))
 (Tr.ite (decide (op = (28 : Int)))
 (Tr.ret
 (SV.v
 (V1.agg
 [Seg.one (Sc.s [(115 : UInt8), (108 : UInt8), (116 : UInt8)]), Seg.one (Sc.s [(82 : UInt8)]), Seg.one (Sc.i IntKind.i64 (0 : Int)),
 Seg.one (Sc.i IntKind.i64 (42 : Int))]),
 []))
 (Tr.ite (decide (op = (29 : Int)))
 (Tr.ret
 (SV.v
 (V1.agg
 [Seg.one (Sc.s [(115 : UInt8), (108 : UInt8), (116 : UInt8), (117 : UInt8)]), Seg.one (Sc.s [(82 : UInt8)]),
 Seg.one (Sc.i IntKind.i64 (0 : Int)), Seg.one (Sc.i IntKind.i64 (43 : Int))]),
 []))
 (Tr.ite (decide (op = (30 : Int)))
 (Tr.ret
 (SV.v
 (V1.agg
 [Seg.one (Sc.s [(116 : UInt8), (101 : UInt8), (113 : UInt8)]), Seg.one (Sc.s [(77 : UInt8), (68 : UInt8)]),
 Seg.one (Sc.i IntKind.i64 (0 : Int)), Seg.one (Sc.i IntKind.i64 (52 : Int))]),
 []))
 (Tr.ite (decide (op = (31 : Int)))
 (Tr.ret
 (SV.v
 (V1.agg
 [Seg.one (Sc.s [(116 : UInt8), (110 : UInt8), (101 : UInt8)]), Seg.one (Sc.s [(77 : UInt8), (68 : UInt8)]),
 Seg.one (Sc.i IntKind.i64 (0 : Int)), Seg.one (Sc.i IntKind.i64 (54 : Int))]),
 []))
 (Tr.ite (decide (op = (32 : Int)))
 (Tr.ret
 (SV.v
 (V1.agg
 [Seg.one (Sc.s [(109 : UInt8), (117 : UInt8), (108 : UInt8)]), Seg.one (Sc.s [(82 : UInt8)]), Seg.one (Sc.i IntKind.i64 (28 : Int)),
 Seg.one (Sc.i IntKind.i64 (2 : Int))]),
 []))
 (Tr.ite (decide (op = (33 : Int)))
 (Tr.ret
 (SV.v
 (V1.agg
 [Seg.one (Sc.s [(99 : UInt8), (108 : UInt8), (122 : UInt8)]), Seg.one (Sc.s [(67 : UInt8), (76 : UInt8)]),
 Seg.one (Sc.i IntKind.i64 (28 : Int)), Seg.one (Sc.i IntKind.i64 (32 : Int))]),
 []))
 (Tr.ite (decide (op = (34 : Int)))
 (Tr.ret
 (SV.v
 (V1.agg
 [Seg.one (Sc.s [(99 : UInt8), (108 : UInt8), (111 : UInt8)]), Seg.one (Sc.s [(67 : UInt8), (76 : UInt8)]),
 Seg.one (Sc.i IntKind.i64 (28 : Int)), Seg.one (Sc.i IntKind.i64 (33 : Int))]),
 []))
 (Tr.ite (decide (op = (35 : Int)))
 (Tr.ret
 (SV.v
 (V1.agg
 [Seg.one (Sc.s [(98 : UInt8), (108 : UInt8), (116 : UInt8), (122 : UInt8)]), Seg.one (Sc.s [(66 : UInt8), (90 : UInt8)]),
 Seg.one (Sc.i IntKind.i64 (1 : Int)), Seg.one (Sc.i IntKind.i64 (0 : Int))]),
 []))
 (Tr.ite (decide (op = (36 : Int)))
 (Tr.ret
 (SV.v
 (V1.agg
 [Seg.one (Sc.s [(98 : UInt8), (103 : UInt8), (101 : UInt8), (122 : UInt8)]), Seg.one (Sc.s [(66 : UInt8), (90 : UInt8)]),
 Seg.one (Sc.i IntKind.i64 (1 : Int)), Seg.one (Sc.i IntKind.i64 (1 : Int))]),
 []))
 (Tr.ite (decide (op = (37 : Int)))
 (Tr.ret
 (SV.v
 (V1.agg
 [Seg.one (Sc.s [(98 : UInt8), (108 : UInt8), (116 : UInt8), (122 : UInt8), (97 : UInt8), (108 : UInt8)]),
 Seg.one (Sc.s [(66 : UInt8), (90 : UInt8)]), Seg.one (Sc.i IntKind.i64 (1 : Int)), Seg.one (Sc.i IntKind.i64 (16 : Int))]),
 []))
 (Tr.ite (decide (op = (38 : Int)))
 (Tr.ret
 (SV.v
 (V1.agg
 [Seg.one (Sc.s [(98 : UInt8), (103 : UInt8), (101 : UInt8), (122 : UInt8), (97 : UInt8), (108 : UInt8)]),
 Seg.one (Sc.s [(66 : UInt8), (90 : UInt8)]), Seg.one (Sc.i IntKind.i64 (1 : Int)),
 Seg.one (Sc.i IntKind.i64 (17 : Int))]),
 []))
 (Tr.ite (decide (op = (39 : Int)))
 (Tr.ret
 (SV.v
 (V1.agg
 [Seg.one (Sc.s [(106 : UInt8)]), Seg.one (Sc.s [(74 : UInt8)]), Seg.one (Sc.i IntKind.i64 (2 : Int)),
 Seg.one (Sc.i IntKind.i64 (0 : Int))]),
 []))
 (Tr.ite (decide (op = (40 : Int)))
 (Tr.ret
 (SV.v
 (V1.agg
 [Seg.one (Sc.s [(106 : UInt8), (97 : UInt8), (108 : UInt8)]), Seg.one (Sc.s [(74 : UInt8)]),
 Seg.one (Sc.i IntKind.i64 (3 : Int)), Seg.one (Sc.i IntKind.i64 (0 : Int))]),
 []))
 (Tr.ite (decide (op = (41 : Int)))
 (Tr.ret
 (SV.v
 (V1.agg
 [Seg.one (Sc.s [(98 : UInt8), (101 : UInt8), (113 : UInt8)]), Seg.one (Sc.s [(66 : UInt8), (50 : UInt8)]),
 Seg.one (Sc.i IntKind.i64 (4 : Int)), Seg.one (Sc.i IntKind.i64 (0 : Int))]),
 []))
 (Tr.ite (decide (op = (42 : Int)))
 (Tr.ret
 (SV.v
 (V1.agg
 [Seg.one (Sc.s [(98 : UInt8), (110 : UInt8), (101 : UInt8)]), Seg.one (Sc.s [(66 : UInt8), (50 : UInt8)]),
 Seg.one (Sc.i IntKind.i64 (5 : Int)), Seg.one (Sc.i IntKind.i64 (0 : Int))]),
 []))
 (Tr.ite (decide (op = (43 : Int)))
 (Tr.ret
 (SV.v
 (V1.agg
 [Seg.one (Sc.s [(98 : UInt8), (108 : UInt8), (101 : UInt8), (122 : UInt8)]), Seg.one (Sc.s [(66 : UInt8), (90 : UInt8)]),
 Seg.one (Sc.i IntKind.i64 (6 : Int)), Seg.one (Sc.i IntKind.i64 (0 : Int))]),
 []))
 (Tr.ite (decide (op = (44 : Int)))
 (Tr.ret
 (SV.v
 (V1.agg
 [Seg.one (Sc.s [(98 : UInt8), (103 : UInt8), (116 : UInt8), (122 : UInt8)]), Seg.one (Sc.s [(66 : UInt8), (90 : UInt8)]),
 Seg.one (Sc.i IntKind.i64 (7 : Int)), Seg.one (Sc.i IntKind.i64 (0 : Int))]),
 []))
 (Tr.ite (decide (op = (45 : Int)))
 (Tr.ret
 (SV.v
 (V1.agg
 [Seg.one (Sc.s [(97 : UInt8), (100 : UInt8), (100 : UInt8), (105 : UInt8)]), Seg.one (Sc.s [(73 : UInt8)]),
 Seg.one (Sc.i IntKind.i64 (8 : Int)), Seg.one (Sc.i IntKind.i64 (0 : Int))]),
 []))
 (Tr.ret
 (SV.v
 (V1.agg
 [Seg.one (Sc.s []), Seg.one (Sc.s []), Seg.one (Sc.i IntKind.i64 (0 : Int)),
 Seg.one (Sc.i IntKind.i64 (0 : Int))]),
 []))))))))))))))))))))))))

theorem run_zoetroperef04_second (op : Int) (W : List Rw) : runF cx_zoetroperef04_second 74 [.cell 2 47] (codeOf Try.f39) [(.v (.c (.i .i64 op)))] [] W = out_zoetroperef04_second op := by kernel_rfl
theorem pf_zoetroperef04_second (op : Int) (K : SV × List Bk → Prop) (h : (.ass (23 ≤ op ∧ op < 46) (.ret (.v (.agg [.one (.s (nameL (op))), .one (.s (formL (op))), .one (.i .i64 (majO (op))), .one (.i .i64 (minO (op)))]), [])) : Tr (SV × List Bk)).all K) : (out_zoetroperef04_second op).all K := by
  obtain ⟨hp, h⟩ := h
  replace h := h hp
  replace h : K _ := h
  unfold out_zoetroperef04_second
  simp only [Tr.all, decide_eq_true_eq, decide_eq_false_iff_not]
  repeat' (first | with_reducible apply And.intro | with_reducible intro)
  all_goals first
    | (rename_i hx; subst hx; exact leafE h (by kernel_rfl))
    | (refine leafE h ?_; rw [nameL_no (by omega), formL_no (by omega), majO_no (by omega), minO_no (by omega)])
noncomputable def con_zoetroperef04_second : Con := ⟨true, fun args H W => match args, H, W with
  | [(.v (.c (.i .i64 op)))], [], _ => .ass (23 ≤ op ∧ op < 46) (.ret (.v (.agg [.one (.s (nameL (op))), .one (.s (formL (op))), .one (.i .i64 (majO (op))), .one (.i .i64 (minO (op)))]), []))
  | _, _, _ => .stuck 900⟩
theorem ok_zoetroperef04_second : ConOK Try.prog 39 con_zoetroperef04_second := con_ok (code := (codeOf Try.f39)) (N := 74) (rs := [.cell 2 47]) cx_zoetroperef04_second_ok 0 Try.func39 rfl rfl rfl (fun _ _ _ _ _ => LpOK.no (by kernel_rfl)) (by
  intro args H W K h hro
  unfold con_zoetroperef04_second at h
  simp only at h
  split at h
  · refine ⟨rfl, ?_⟩
    rw [run_zoetroperef04_second]
    exact pf_zoetroperef04_second _ K h
  · exact h.elim)
noncomputable def cx_zoetroperef04_third : Ctx := mkCtx tys eqs [] []
theorem cx_zoetroperef04_third_ok : CtxOK Try.prog cx_zoetroperef04_third := mkCtx_ok _ mixed tys_ok eqs_ok trivial
noncomputable def out_zoetroperef04_third (op : Int) : Tr (SV × List Bk) :=
Tr.ite (decide (op = (46 : Int)))
 (Tr.ret
 (SV.v
 (V1.agg
 [Seg.one (Sc.s [(97 : UInt8), (100 : UInt8), (100 : UInt8), (105 : UInt8), (117 : UInt8)]), Seg.one (Sc.s [(73 : UInt8)]),
 Seg.one (Sc.i IntKind.i64 (9 : Int)), Seg.one (Sc.i IntKind.i64 (0 : Int))]),
 []))
 (Tr.ite (decide (op = (47 : Int)))
 (Tr.ret
 (SV.v
 (V1.agg
 [Seg.one (Sc.s [(115 : UInt8), (108 : UInt8), (116 : UInt8), (105 : UInt8)]), Seg.one (Sc.s [(73 : UInt8)]), Seg.one (Sc.i IntKind.i64 (10 : Int)),
 Seg.one (Sc.i IntKind.i64 (0 : Int))]),
 []))
 (Tr.ite (decide (op = (48 : Int)))
 (Tr.ret
 (SV.v
 (V1.agg
 [Seg.one (Sc.s [(115 : UInt8), (108 : UInt8), (116 : UInt8), (105 : UInt8), (117 : UInt8)]), Seg.one (Sc.s [(73 : UInt8)]),
 Seg.one (Sc.i IntKind.i64 (11 : Int)), Seg.one (Sc.i IntKind.i64 (0 : Int))]),
 []))
 (Tr.ite (decide (op = (49 : Int)))
 (Tr.ret
 (SV.v
 (V1.agg
 [Seg.one (Sc.s [(97 : UInt8), (110 : UInt8), (100 : UInt8), (105 : UInt8)]), Seg.one (Sc.s [(73 : UInt8), (85 : UInt8)]),
 Seg.one (Sc.i IntKind.i64 (12 : Int)), Seg.one (Sc.i IntKind.i64 (0 : Int))]),
 []))
 (Tr.ite (decide (op = (50 : Int)))
 (Tr.ret
 (SV.v
 (V1.agg
 [Seg.one (Sc.s [(111 : UInt8), (114 : UInt8), (105 : UInt8)]), Seg.one (Sc.s [(73 : UInt8), (85 : UInt8)]), Seg.one (Sc.i IntKind.i64 (13 : Int)),
 Seg.one (Sc.i IntKind.i64 (0 : Int))]),
 []))
 (Tr.ite (decide (op = (51 : Int)))
 (Tr.ret
 (SV.v
 (V1.agg
 [Seg.one (Sc.s [(120 : UInt8), (111 : UInt8), (114 : UInt8), (105 : UInt8)]), Seg.one (Sc.s [(73 : UInt8), (85 : UInt8)]),
 Seg.one (Sc.i IntKind.i64 (14 : Int)), Seg.one (Sc.i IntKind.i64 (0 : Int))]),
 []))
 (Tr.ite (decide (op = (52 : Int)))
 (Tr.ret
 (SV.v
 (V1.agg
 [Seg.one (Sc.s [(108 : UInt8), (117 : UInt8), (105 : UInt8)]), Seg.one (Sc.s [(76 : UInt8), (85 : UInt8), (73 : UInt8)]),
 Seg.one (Sc.i IntKind.i64 (15 : Int)), Seg.one (Sc.i IntKind.i64 (0 : Int))]),
 []))
 (Tr.ite (decide (op = (53 : Int)))
 (Tr.ret
 (SV.v
 (V1.agg
 [Seg.one (Sc.s [(109 : UInt8), (102 : UInt8), (99 : UInt8), (48 : UInt8)]), Seg.one (Sc.s [(67 : UInt8), (48 : UInt8)]),
 Seg.one (Sc.i IntKind.i64 (16 : Int)), Seg.one (Sc.i IntKind.i64 (0 : Int))]),
 []))
 (Tr.ite (decide (op = (54 : Int)))
 (Tr.ret
 (SV.v
 (V1.agg
 [Seg.one (Sc.s [(109 : UInt8), (116 : UInt8), (99 : UInt8), (48 : UInt8)]), Seg.one (Sc.s [(67 : UInt8), (48 : UInt8)]),
 Seg.one (Sc.i IntKind.i64 (16 : Int)), Seg.one (Sc.i IntKind.i64 (4 : Int))]),
 []))
 (Tr.ite (decide (op = (55 : Int)))
 (Tr.ret
 (SV.v
 (V1.agg
 [Seg.one (Sc.s [(116 : UInt8), (108 : UInt8), (98 : UInt8), (114 : UInt8)]), Seg.one (Sc.s [(67 : UInt8), (79 : UInt8)]),
 Seg.one (Sc.i IntKind.i64 (16 : Int)), Seg.one (Sc.i IntKind.i64 (1 : Int))]),
 []))
 (Tr.ite (decide (op = (56 : Int)))
 (Tr.ret
 (SV.v
 (V1.agg
 [Seg.one (Sc.s [(116 : UInt8), (108 : UInt8), (98 : UInt8), (119 : UInt8), (105 : UInt8)]), Seg.one (Sc.s [(67 : UInt8), (79 : UInt8)]),
 Seg.one (Sc.i IntKind.i64 (16 : Int)), Seg.one (Sc.i IntKind.i64 (2 : Int))]),
 []))
 (Tr.ite (decide (op = (57 : Int)))
 (Tr.ret
 (SV.v
 (V1.agg
 [Seg.one (Sc.s [(116 : UInt8), (108 : UInt8), (98 : UInt8), (112 : UInt8)]), Seg.one (Sc.s [(67 : UInt8), (79 : UInt8)]),
 Seg.one (Sc.i IntKind.i64 (16 : Int)), Seg.one (Sc.i IntKind.i64 (8 : Int))]),
 []))
 (Tr.ite (decide (op = (58 : Int)))
 (Tr.ret
 (SV.v
 (V1.agg
 [Seg.one (Sc.s [(101 : UInt8), (114 : UInt8), (101 : UInt8), (116 : UInt8)]), Seg.one (Sc.s [(67 : UInt8), (79 : UInt8)]),
 Seg.one (Sc.i IntKind.i64 (16 : Int)), Seg.one (Sc.i IntKind.i64 (24 : Int))]),
 []))
 (Tr.ite (decide (op = (59 : Int)))
 (Tr.ret
 (SV.v
 (V1.agg
 [Seg.one (Sc.s [(108 : UInt8), (98 : UInt8)]), Seg.one (Sc.s [(77 : UInt8)]), Seg.one (Sc.i IntKind.i64 (32 : Int)),
 Seg.one (Sc.i IntKind.i64 (0 : Int))]),
 []))
 (Tr.ite (decide (op = (60 : Int)))
 (Tr.ret
 (SV.v
 (V1.agg
 [Seg.one (Sc.s [(108 : UInt8), (104 : UInt8)]), Seg.one (Sc.s [(77 : UInt8)]), Seg.one (Sc.i IntKind.i64 (33 : Int)),
 Seg.one (Sc.i IntKind.i64 (0 : Int))]),
 []))
 (Tr.ite (decide (op = (61 : Int)))
 (Tr.ret
 (SV.v
 (V1.agg
 [Seg.one (Sc.s [(108 : UInt8), (119 : UInt8)]), Seg.one (Sc.s [(77 : UInt8)]), Seg.one (Sc.i IntKind.i64 (35 : Int)),
 Seg.one (Sc.i IntKind.i64 (0 : Int))]),
 []))
 (Tr.ite (decide (op = (62 : Int)))
 (Tr.ret
 (SV.v
 (V1.agg
 [Seg.one (Sc.s [(108 : UInt8), (98 : UInt8), (117 : UInt8)]), Seg.one (Sc.s [(77 : UInt8)]),
 Seg.one (Sc.i IntKind.i64 (36 : Int)), Seg.one (Sc.i IntKind.i64 (0 : Int))]),
 []))
 (Tr.ite (decide (op = (63 : Int)))
 (Tr.ret
 (SV.v
 (V1.agg
 [Seg.one (Sc.s [(108 : UInt8), (104 : UInt8), (117 : UInt8)]), Seg.one (Sc.s [(77 : UInt8)]),
 Seg.one (Sc.i IntKind.i64 (37 : Int)), Seg.one (Sc.i IntKind.i64 (0 : Int))]),
 []))
 (Tr.ite (decide (op = (64 : Int)))
 (Tr.ret
 (SV.v
 (V1.agg
 [Seg.one (Sc.s [(115 : UInt8), (98 : UInt8)]), Seg.one (Sc.s [(77 : UInt8)]), Seg.one (Sc.i IntKind.i64 (40 : Int)),
 Seg.one (Sc.i IntKind.i64 (0 : Int))]),
 []))
 (Tr.ite (decide (op = (65 : Int)))
 (Tr.ret
 (SV.v
 (V1.agg
 [Seg.one (Sc.s [(115 : UInt8), (104 : UInt8)]), Seg.one (Sc.s [(77 : UInt8)]), Seg.one (Sc.i IntKind.i64 (41 : Int)),
 Seg.one (Sc.i IntKind.i64 (0 : Int))]),
 []))
 (Tr.ite (decide (op = (66 : Int)))
 (Tr.ret
 (SV.v
 (V1.agg
 [Seg.one (Sc.s [(115 : UInt8), (119 : UInt8)]), Seg.one (Sc.s [(77 : UInt8)]), Seg.one (Sc.i IntKind.i64 (43 : Int)),
 Seg.one (Sc.i IntKind.i64 (0 : Int))]),
 []))
 (Tr.ite (decide (op = (67 : Int)))
 (Tr.ret
 (SV.v
 (V1.agg
 [Seg.one (Sc.s [(108 : UInt8), (108 : UInt8)]), Seg.one (Sc.s [(77 : UInt8)]),
 Seg.one (Sc.i IntKind.i64 (48 : Int)), Seg.one (Sc.i IntKind.i64 (0 : Int))]),
 []))
 (Tr.ite (decide (op = (68 : Int)))
 (Tr.ret
 (SV.v
 (V1.agg
 [Seg.one (Sc.s [(115 : UInt8), (99 : UInt8)]), Seg.one (Sc.s [(77 : UInt8)]),
 Seg.one (Sc.i IntKind.i64 (56 : Int)), Seg.one (Sc.i IntKind.i64 (0 : Int))]),
 []))
 (Tr.ret
 (SV.v
 (V1.agg
 [Seg.one (Sc.s []), Seg.one (Sc.s []), Seg.one (Sc.i IntKind.i64 (0 : Int)),
 Seg.one (Sc.i IntKind.i64 (0 : Int))]),
 []))))))))))))))))))))))))

theorem run_zoetroperef04_third (op : Int) (W : List Rw) : runF cx_zoetroperef04_third 74 [.cell 2 47] (codeOf Try.f40) [(.v (.c (.i .i64 op)))] [] W = out_zoetroperef04_third op := by kernel_rfl
theorem pf_zoetroperef04_third (op : Int) (K : SV × List Bk → Prop) (h : (.ass (46 ≤ op) (.ret (.v (.agg [.one (.s (nameL (op))), .one (.s (formL (op))), .one (.i .i64 (majO (op))), .one (.i .i64 (minO (op)))]), [])) : Tr (SV × List Bk)).all K) : (out_zoetroperef04_third op).all K := by
  obtain ⟨hp, h⟩ := h
  replace h := h hp
  replace h : K _ := h
  unfold out_zoetroperef04_third
  simp only [Tr.all, decide_eq_true_eq, decide_eq_false_iff_not]
  repeat' (first | with_reducible apply And.intro | with_reducible intro)
  all_goals first
    | (rename_i hx; subst hx; exact leafE h (by kernel_rfl))
    | (refine leafE h ?_; rw [nameL_no (by omega), formL_no (by omega), majO_no (by omega), minO_no (by omega)])
noncomputable def con_zoetroperef04_third : Con := ⟨true, fun args H W => match args, H, W with
  | [(.v (.c (.i .i64 op)))], [], _ => .ass (46 ≤ op) (.ret (.v (.agg [.one (.s (nameL (op))), .one (.s (formL (op))), .one (.i .i64 (majO (op))), .one (.i .i64 (minO (op)))]), []))
  | _, _, _ => .stuck 900⟩
theorem ok_zoetroperef04_third : ConOK Try.prog 40 con_zoetroperef04_third := con_ok (code := (codeOf Try.f40)) (N := 74) (rs := [.cell 2 47]) cx_zoetroperef04_third_ok 0 Try.func40 rfl rfl rfl (fun _ _ _ _ _ => LpOK.no (by kernel_rfl)) (by
  intro args H W K h hro
  unfold con_zoetroperef04_third at h
  simp only at h
  split at h
  · refine ⟨rfl, ?_⟩
    rw [run_zoetroperef04_third]
    exact pf_zoetroperef04_third _ K h
  · exact h.elim)
end Go.Y
