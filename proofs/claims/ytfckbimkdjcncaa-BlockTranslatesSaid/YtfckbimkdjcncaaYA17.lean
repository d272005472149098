/- PRINTED by wip/tools/ybuild.py: contracts of zoetropelaw14.BlockTranslates. -/
import Derived.Test.YtfckbimkdjcncaaYTyA
import Derived.Test.YtfckbimkdjcncaaG6
import Derived.Test.YtfckbimkdjcncaaYA00
import Derived.Test.YtfckbimkdjcncaaYA01
import Derived.Test.YtfckbimkdjcncaaYA02
import Derived.Test.YtfckbimkdjcncaaYA03
import Derived.Test.YtfckbimkdjcncaaYA04
import Derived.Test.YtfckbimkdjcncaaYA05
import Derived.Test.YtfckbimkdjcncaaYA06
import Derived.Test.YtfckbimkdjcncaaYA07
import Derived.Test.YtfckbimkdjcncaaYA08
import Derived.Test.YtfckbimkdjcncaaYA09
import Derived.Test.YtfckbimkdjcncaaYA10
import Derived.Test.YtfckbimkdjcncaaYA11
import Derived.Test.YtfckbimkdjcncaaYA12
import Derived.Test.YtfckbimkdjcncaaYA13
import Derived.Test.YtfckbimkdjcncaaYA14
import Derived.Test.YtfckbimkdjcncaaYA15
import Derived.Test.YtfckbimkdjcncaaYA16
set_option maxRecDepth 100000
set_option linter.unusedSimpArgs false
set_option linter.unusedVariables false
namespace Go.Y
open Go.Proofs Go.X
open Go.Z (U32 Regs rg kindOf lessOf shiftOf fillOf sg bitAt withBit bnor bor band bxor b01 bitsOf)
noncomputable def lp_Btr : LpT := fun e H W => match canE 0 [0, 2, 3, 4] e H, W with
  | some ([(.v (.c (.rs 0 1 eo n cap A))), (.v (.c (.b z))), (.v (.c (.sl 0 0 6 0 nk ck))), (.v (.c (.i .i64 t)))], [⟨28, [.arr 5 M q], true⟩]), ⟨0, l⟩ :: W => .ass ((z = false ∧ t = ((0 : Nat) : Int)) ∧ (n ≤ cap ∧ n ≤ 65536 ∧ eo + n ≤ l.length ∧ (∀ x ∈ sub l eo n, U32 x)) ∧ (nk ≤ 65536 ∧ nk ≤ M ∧ M ≤ q.length) ∧ sub q 0 nk = trM ((sub l eo n).take 16)) (.ret (.ex 0, [], [⟨28, [.arr 5 M q], true⟩]))
  | _, _ => .stuck 901
noncomputable def lp_Btri : LpT := fun e H W => match canE 0 [0, 2, 3, 4, 5, 6] e H, W with
  | some ([(.v (.c (.rs 0 1 eo n cap A))), (.v (.c (.b z))), (.v (.c (.sl 0 0 6 0 nk ck))), (.v (.c (.i .i64 t))), (.v (.c (.sl 1 0 6 0 nm cm))), (.v (.c (.i .i64 i)))], [⟨28, [.arr 5 M q], true⟩, ⟨28, [.arr 5 M2 q2], true⟩]), ⟨0, l⟩ :: W => .ass ((z = false ∧ i = ((0 : Nat) : Int)) ∧ nm ≤ 65536 ∧ nm ≤ M2) (.any (List Mic) fun x => .ret (.ex 2, [(0, .v (.c (.rs 0 1 eo n cap A))), (2, .v (.c (.b false))), (3, .v (.c (.sl 0 0 6 0 nk ck))), (4, .v (.c (.i .i64 (t))))], [⟨28, [.arr 5 M q], true⟩, ⟨28, [.arr 5 M2 x], true⟩]))
  | some ([(.v (.c (.rs 0 1 eo n cap A))), (.v (.c (.b z))), (.v (.c (.sl 0 0 6 0 nk ck))), (.v (.c (.i .i64 t))), (.v (.c .ns)), (.v (.c (.i .i64 i)))], [⟨28, [.arr 5 M q], true⟩]), ⟨0, l⟩ :: W => .ass (z = false ∧ i = 0) (.ret (.ex 2, [(0, .v (.c (.rs 0 1 eo n cap A))), (2, .v (.c (.b false))), (3, .v (.c (.sl 0 0 6 0 nk ck))), (4, .v (.c (.i .i64 (t))))], [⟨28, [.arr 5 M q], true⟩]))
  | _, _ => .stuck 901
noncomputable def cx_zoetropelaw14_BlockTranslates : Ctx := mkCtx tys eqs [(9, con_zoetroperef14_Translate), (10, con_ir_Translate), (11, con_zoetroperef14_Same), (12, con_zoetropelaw14_fixed)] [(4, lp_Btr), (10, lp_Btri)]
theorem cx_zoetropelaw14_BlockTranslates_ok : CtxOK Try.prog cx_zoetropelaw14_BlockTranslates := mkCtx_ok _ mixed tys_ok eqs_ok ⟨⟨ok_zoetroperef14_Translate, Try.call9⟩, ⟨⟨ok_ir_Translate, Try.call10⟩, ⟨⟨ok_zoetroperef14_Same, Try.call11⟩, ⟨⟨ok_zoetropelaw14_fixed, Try.call12⟩, trivial⟩⟩⟩⟩
noncomputable def outr_lp_Btri (eo : Nat) (n : Nat) (cap : Nat) (A : Option Addr) (z : Bool) (nk : Nat) (ck : Nat) (t : Int) (nm : Nat) (cm : Nat) (i : Int) (M : Nat) (q : List (Sh 5)) (M2 : Nat) (q2 : List (Sh 5)) (l : List (Sh 0)) : Tr (X × List SV × List Bk) :=
Tr.ite (decide (i < (↑nm : Int)))
 (Tr.ass ((0 : Int) ≤ i ∧ i < (↑nm : Int))
 (Tr.ass ((0 : Nat) + Int.toNat i < M2)
 (Tr.ret
 (X.nor,
 [SV.v (V1.c (Sc.rs (nat_lit 0) (nat_lit 1) eo n cap A)), SV.v (V1.c (Sc.b z)),
 SV.v (V1.c (Sc.sl (nat_lit 0) (nat_lit 0) (nat_lit 6) (nat_lit 0) nk ck)), SV.v (V1.c (Sc.i IntKind.i64 t)),
 SV.v (V1.c (Sc.sl (nat_lit 1) (nat_lit 0) (nat_lit 6) (nat_lit 0) nm cm)),
 SV.v (V1.c (Sc.i IntKind.i64 (IntKind.wrap IntKind.i64 (i + (1 : Int)))))],
 [Bk.mk (nat_lit 28) [Seg.arr (nat_lit 5) M q] true,
 Bk.mk (nat_lit 28) [Seg.arr (nat_lit 5) M2 (List.set q2 ((0 : Nat) + Int.toNat i) (Mic.mk (0 : Int) (0 : Int) (0 : Int) (0 : Int) (0 : Int) (0 : Int)))] true]))))
 (Tr.ret
 (X.ex (nat_lit 2),
 [SV.v (V1.c (Sc.rs (nat_lit 0) (nat_lit 1) eo n cap A)), SV.v (V1.c (Sc.b z)),
 SV.v (V1.c (Sc.sl (nat_lit 0) (nat_lit 0) (nat_lit 6) (nat_lit 0) nk ck)), SV.v (V1.c (Sc.i IntKind.i64 t)),
 SV.v (V1.c (Sc.sl (nat_lit 1) (nat_lit 0) (nat_lit 6) (nat_lit 0) nm cm)), SV.v (V1.c (Sc.i IntKind.i64 i))],
 [Bk.mk (nat_lit 28) [Seg.arr (nat_lit 5) M q] true, Bk.mk (nat_lit 28) [Seg.arr (nat_lit 5) M2 q2] true]))

theorem rnd_lp_Btri (eo : Nat) (n : Nat) (cap : Nat) (A : Option Addr) (z : Bool) (nk : Nat) (ck : Nat) (t : Int) (nm : Nat) (cm : Nat) (i : Int) (M : Nat) (q : List (Sh 5)) (M2 : Nat) (q2 : List (Sh 5)) (l : List (Sh 0)) (W : List Rw) : rnd cx_zoetropelaw14_BlockTranslates 35 (⟨0, l⟩ :: W) (loopC 10 (codeOf Try.f3)) [0, 2, 3, 4, 5, 6] 0 (zipE [0, 2, 3, 4, 5, 6] [(.v (.c (.rs 0 1 eo n cap A))), (.v (.c (.b z))), (.v (.c (.sl 0 0 6 0 nk ck))), (.v (.c (.i .i64 t))), (.v (.c (.sl 1 0 6 0 nm cm))), (.v (.c (.i .i64 i)))]) [⟨28, [.arr 5 M q], true⟩, ⟨28, [.arr 5 M2 q2], true⟩] = outr_lp_Btri eo n cap A z nk ck t nm cm i M q M2 q2 l := by kernel_rfl
noncomputable def outr_lp_Btri_2 (eo : Nat) (n : Nat) (cap : Nat) (A : Option Addr) (z : Bool) (nk : Nat) (ck : Nat) (t : Int) (i : Int) (M : Nat) (q : List (Sh 5)) (l : List (Sh 0)) : Tr (X × List SV × List Bk) :=
Tr.ite (decide (i < (0 : Int))) (Tr.stuck (nat_lit 126))
 (Tr.ret
 (X.ex (nat_lit 2),
 [SV.v (V1.c (Sc.rs (nat_lit 0) (nat_lit 1) eo n cap A)), SV.v (V1.c (Sc.b z)),
 SV.v (V1.c (Sc.sl (nat_lit 0) (nat_lit 0) (nat_lit 6) (nat_lit 0) nk ck)), SV.v (V1.c (Sc.i IntKind.i64 t)), SV.v (V1.c Sc.ns),
 SV.v (V1.c (Sc.i IntKind.i64 i))],
 [Bk.mk (nat_lit 28) [Seg.arr (nat_lit 5) M q] true]))

theorem rnd_lp_Btri_2 (eo : Nat) (n : Nat) (cap : Nat) (A : Option Addr) (z : Bool) (nk : Nat) (ck : Nat) (t : Int) (i : Int) (M : Nat) (q : List (Sh 5)) (l : List (Sh 0)) (W : List Rw) : rnd cx_zoetropelaw14_BlockTranslates 35 (⟨0, l⟩ :: W) (loopC 10 (codeOf Try.f3)) [0, 2, 3, 4, 5, 6] 0 (zipE [0, 2, 3, 4, 5, 6] [(.v (.c (.rs 0 1 eo n cap A))), (.v (.c (.b z))), (.v (.c (.sl 0 0 6 0 nk ck))), (.v (.c (.i .i64 t))), (.v (.c .ns)), (.v (.c (.i .i64 i)))]) [⟨28, [.arr 5 M q], true⟩] = outr_lp_Btri_2 eo n cap A z nk ck t i M q l := by kernel_rfl
theorem lpp_lp_Btri {c0 : Z.Cx} {ρ0 : List Nat} (eo : Nat) (n : Nat) (cap : Nat) (A : Option Addr) (z : Bool) (nk : Nat) (ck : Nat) (t : Int) (nm : Nat) (cm : Nat) (i : Int) (M : Nat) (q : List (Sh 5)) (M2 : Nat) (q2 : List (Sh 5)) (l : List (Sh 0)) (W : List Rw) (hR : repR (⟨0, l⟩ :: W) c0.R) (hne : ρ0.length ≤ 0) {Q : Exit → Act → World → Prop} {e : Env} {H : List Bk} (hsel : canE 0 [0, 2, 3, 4, 5, 6] e H = some ([(.v (.c (.rs 0 1 eo n cap A))), (.v (.c (.b z))), (.v (.c (.sl 0 0 6 0 nk ck))), (.v (.c (.i .i64 t))), (.v (.c (.sl 1 0 6 0 nm cm))), (.v (.c (.i .i64 i)))], [⟨28, [.arr 5 M q], true⟩, ⟨28, [.arr 5 M2 q2], true⟩])) (h : (.ass ((z = false ∧ i = ((0 : Nat) : Int)) ∧ nm ≤ 65536 ∧ nm ≤ M2) (.any (List Mic) fun x => .ret (.ex 2, [(0, .v (.c (.rs 0 1 eo n cap A))), (2, .v (.c (.b false))), (3, .v (.c (.sl 0 0 6 0 nk ck))), (4, .v (.c (.i .i64 (t))))], [⟨28, [.arr 5 M q], true⟩, ⟨28, [.arr 5 M2 x], true⟩])) : Tr (X × Env × List Bk)).all (fun y => YE c0 ρ0 Q 35 (toX y.1) y.2.1 y.2.2)) : YC Try.prog c0 ρ0 Q 35 (.loop (loopC 10 (codeOf Try.f3))) e H := by
  obtain ⟨hp, h⟩ := h
  replace h := h hp
  obtain ⟨⟨rfl, rfl⟩, hn, hM⟩ := hp
  refine YC.canon hne hsel ?_
  have key := loop_sound (P := Try.prog) (c := c0) (ρ0 := ρ0) (N := 35) (Q := Q) cx_zoetropelaw14_BlockTranslates_ok hR (LpOK.no (by kernel_rfl)) [0, 2, 3, 4, 5, 6] 0 hne (σ := Nat × List Mic) (body := (loopC 10 (codeOf Try.f3))) (fun s => [.v (.c (.rs 0 1 eo n cap A)), .v (.c (.b false)), .v (.c (.sl 0 0 6 0 nk ck)), .v (.c (.i .i64 (t))), .v (.c (.sl 1 0 6 0 nm cm)), .v (.c (.i .i64 ((s.1 : Int))))]) (fun s => [⟨28, [.arr 5 M q], true⟩, ⟨28, [.arr 5 M2 s.2], true⟩]) (fun s => s.1 ≤ nm) (fun s => nm - s.1) (fun y => ∃ u x, y = (.ex 2, [.v (.c (.rs 0 1 eo n cap A)), .v (.c (.b false)), .v (.c (.sl 0 0 6 0 nk ck)), .v (.c (.i .i64 (t))), .v (.c (.sl 1 0 6 0 nm cm)), .v (.c (.i .i64 (u)))], [⟨28, [.arr 5 M q], true⟩, ⟨28, [.arr 5 M2 x], true⟩])) ?round ?post (0, q2) (Nat.zero_le _)
  case round =>
    intro s hI
    obtain ⟨k, x⟩ := s
    dsimp only at hI ⊢
    rw [rnd_lp_Btri]
    unfold outr_lp_Btri
    simp only [Tr.all, Nat.zero_add]
    refine ⟨fun hc => ?_, fun hc => Or.inr ⟨nofun, _, _, rfl⟩⟩
    have hc := of_decide_eq_true hc
    have e1 : IntKind.i64.wrap ((k : Int) + 1) = ((k + 1 : Nat) : Int) := Z.wI64 (by omega)
    rw [e1]
    exact ⟨by omega, fun _ => ⟨by omega, fun _ => Or.inl ⟨trivial, (k + 1, _), by show k + 1 ≤ nm; omega, by show nm - (k + 1) < nm - k; omega, rfl, rfl⟩⟩⟩
  case post =>
    intro y hy hp
    obtain ⟨u, x, rfl⟩ := hp
    exact YE.weaken (Sub.cons rfl (Sub.cons rfl (Sub.cons rfl (Sub.cons rfl Sub.nil)))) (h x)
  exact key
theorem lpp_lp_Btri_2 {c0 : Z.Cx} {ρ0 : List Nat} (eo : Nat) (n : Nat) (cap : Nat) (A : Option Addr) (z : Bool) (nk : Nat) (ck : Nat) (t : Int) (i : Int) (M : Nat) (q : List (Sh 5)) (l : List (Sh 0)) (W : List Rw) (hR : repR (⟨0, l⟩ :: W) c0.R) (hne : ρ0.length ≤ 0) {Q : Exit → Act → World → Prop} {e : Env} {H : List Bk} (hsel : canE 0 [0, 2, 3, 4, 5, 6] e H = some ([(.v (.c (.rs 0 1 eo n cap A))), (.v (.c (.b z))), (.v (.c (.sl 0 0 6 0 nk ck))), (.v (.c (.i .i64 t))), (.v (.c .ns)), (.v (.c (.i .i64 i)))], [⟨28, [.arr 5 M q], true⟩])) (h : (.ass (z = false ∧ i = 0) (.ret (.ex 2, [(0, .v (.c (.rs 0 1 eo n cap A))), (2, .v (.c (.b false))), (3, .v (.c (.sl 0 0 6 0 nk ck))), (4, .v (.c (.i .i64 (t))))], [⟨28, [.arr 5 M q], true⟩])) : Tr (X × Env × List Bk)).all (fun y => YE c0 ρ0 Q 35 (toX y.1) y.2.1 y.2.2)) : YC Try.prog c0 ρ0 Q 35 (.loop (loopC 10 (codeOf Try.f3))) e H := by
  obtain ⟨hp, h⟩ := h
  replace h := h hp
  obtain ⟨rfl, rfl⟩ := hp
  refine YC.canon hne hsel ?_
  have key := loop_sound (P := Try.prog) (c := c0) (ρ0 := ρ0) (N := 35) (Q := Q) cx_zoetropelaw14_BlockTranslates_ok hR (LpOK.no (by kernel_rfl)) [0, 2, 3, 4, 5, 6] 0 hne (σ := Unit) (body := (loopC 10 (codeOf Try.f3))) (fun _ => [.v (.c (.rs 0 1 eo n cap A)), .v (.c (.b false)), .v (.c (.sl 0 0 6 0 nk ck)), .v (.c (.i .i64 (t))), .v (.c .ns), .v (.c (.i .i64 (0)))]) (fun _ => [⟨28, [.arr 5 M q], true⟩]) (fun _ => True) (fun _ => 0) (fun y => y = (.ex 2, [.v (.c (.rs 0 1 eo n cap A)), .v (.c (.b false)), .v (.c (.sl 0 0 6 0 nk ck)), .v (.c (.i .i64 (t))), .v (.c .ns), .v (.c (.i .i64 (0)))], [⟨28, [.arr 5 M q], true⟩])) ?round ?post () trivial
  case round =>
    intro s hI
    rw [rnd_lp_Btri_2]
    unfold outr_lp_Btri_2
    simp only [Tr.all]
    exact ⟨fun hc => absurd hc (by decide), fun _ => Or.inr ⟨nofun, trivial⟩⟩
  case post =>
    intro y hy hp
    subst hp
    exact YE.weaken (Sub.cons rfl (Sub.cons rfl (Sub.cons rfl (Sub.cons rfl Sub.nil)))) h
  exact key
theorem lpc_lp_Btri (c : Z.Cx) (ρ0 : List Nat) (W : List Rw) (hR : repR W c.R) (hne : ρ0.length ≤ 0) : ∀ Q e H, (lp_Btri e H W).all (fun y => YE c ρ0 Q 35 (toX y.1) y.2.1 y.2.2) → YC Try.prog c ρ0 Q 35 (.loop (loopC 10 (codeOf Try.f3))) e H := by
  intro Q e H h
  unfold lp_Btri at h
  (try simp only at h)
  split at h
  · rename_i heq
    exact lpp_lp_Btri _ _ _ _ _ _ _ _ _ _ _ _ _ _ _ _ _ hR hne (by assumption) h
  · rename_i heq
    exact lpp_lp_Btri_2 _ _ _ _ _ _ _ _ _ _ _ _ _ hR hne (by assumption) h
  · exact h.elim
noncomputable def outr_lp_Btr (eo : Nat) (n : Nat) (cap : Nat) (A : Option Addr) (z : Bool) (nk : Nat) (ck : Nat) (t : Int) (M : Nat) (q : List (Sh 5)) (l : List (Sh 0)) : Tr (X × List SV × List Bk) :=
Tr.ite (decide (t < (2 : Int)))
 (Tr.ass (n ≤ cap ∧ n ≤ (65536 : Nat) ∧ eo + n ≤ List.length l ∧ ∀ (x : Sh (0 : Nat)), x ∈ X.sub l eo n → Z.U32 x)
 (Tr.ite (decide (List.length (X.trM (List.take (16 : Nat) (X.sub l eo n))) = (0 : Nat)))
 (Tr.ass (nk ≤ (65536 : Nat) ∧ (0 : Nat) + nk ≤ M ∧ M ≤ List.length q)
 (Tr.ite (!decide ([] = X.sub q (0 : Nat) nk))
 (Tr.ret
 (X.ret,
 [SV.v (V1.c (Sc.rs (nat_lit 0) (nat_lit 1) eo n cap A)), SV.v (V1.c (Sc.b false)),
 SV.v (V1.c (Sc.sl (nat_lit 0) (nat_lit 0) (nat_lit 6) (nat_lit 0) nk ck)), SV.v (V1.c (Sc.i IntKind.i64 t))],
 [Bk.mk (nat_lit 28) [Seg.arr (nat_lit 5) M q] true]))
 (Tr.ass (z = false ∧ (0 : Int) = (0 : Int))
 (Tr.ret
 (X.nor,
 [SV.v (V1.c (Sc.rs (nat_lit 0) (nat_lit 1) eo n cap A)), SV.v (V1.c (Sc.b false)),
 SV.v (V1.c (Sc.sl (nat_lit 0) (nat_lit 0) (nat_lit 6) (nat_lit 0) nk ck)),
 SV.v (V1.c (Sc.i IntKind.i64 (IntKind.wrap IntKind.i64 (t + (1 : Int)))))],
 [Bk.mk (nat_lit 28) [Seg.arr (nat_lit 5) M q] true])))))
 (Tr.any Nat fun x =>
 Tr.any (List Mic) fun x_1 =>
 Tr.hyp
 (List.length (X.trM (List.take (16 : Nat) (X.sub l eo n))) ≤ x ∧
 List.length x_1 = x ∧ List.take (List.length (X.trM (List.take (16 : Nat) (X.sub l eo n)))) x_1 = X.trM (List.take (16 : Nat) (X.sub l eo n)))
 (Tr.ass
 ((List.length (X.trM (List.take (16 : Nat) (X.sub l eo n))) ≤ (65536 : Nat) ∧
 (0 : Nat) + List.length (X.trM (List.take (16 : Nat) (X.sub l eo n))) ≤ x ∧ x ≤ List.length x_1) ∧
 nk ≤ (65536 : Nat) ∧ (0 : Nat) + nk ≤ M ∧ M ≤ List.length q)
 (Tr.ite (!decide (X.sub x_1 (0 : Nat) (List.length (X.trM (List.take (16 : Nat) (X.sub l eo n)))) = X.sub q (0 : Nat) nk))
 (Tr.ret
 (X.ret,
 [SV.v (V1.c (Sc.rs (nat_lit 0) (nat_lit 1) eo n cap A)), SV.v (V1.c (Sc.b false)),
 SV.v (V1.c (Sc.sl (nat_lit 0) (nat_lit 0) (nat_lit 6) (nat_lit 0) nk ck)), SV.v (V1.c (Sc.i IntKind.i64 t))],
 [Bk.mk (nat_lit 28) [Seg.arr (nat_lit 5) M q] true]))
 (Tr.ass
 ((z = false ∧ (0 : Int) = (↑(0 : Nat) : Int)) ∧
 List.length (X.trM (List.take (16 : Nat) (X.sub l eo n))) ≤ (65536 : Nat) ∧ List.length (X.trM (List.take (16 : Nat) (X.sub l eo n))) ≤ x)
 (Tr.any (List Mic) fun x =>
 Tr.ret
 (X.nor,
 [SV.v (V1.c (Sc.rs (nat_lit 0) (nat_lit 1) eo n cap A)), SV.v (V1.c (Sc.b false)),
 SV.v (V1.c (Sc.sl (nat_lit 0) (nat_lit 0) (nat_lit 6) (nat_lit 0) nk ck)),
 SV.v (V1.c (Sc.i IntKind.i64 (IntKind.wrap IntKind.i64 (t + (1 : Int)))))],
 [Bk.mk (nat_lit 28) [Seg.arr (nat_lit 5) M q] true]))))))))
 (Tr.ret
 (X.ex (nat_lit 0),
 [SV.v (V1.c (Sc.rs (nat_lit 0) (nat_lit 1) eo n cap A)), SV.v (V1.c (Sc.b z)),
 SV.v (V1.c (Sc.sl (nat_lit 0) (nat_lit 0) (nat_lit 6) (nat_lit 0) nk ck)), SV.v (V1.c (Sc.i IntKind.i64 t))],
 [Bk.mk (nat_lit 28) [Seg.arr (nat_lit 5) M q] true]))

theorem rnd_lp_Btr (eo : Nat) (n : Nat) (cap : Nat) (A : Option Addr) (z : Bool) (nk : Nat) (ck : Nat) (t : Int) (M : Nat) (q : List (Sh 5)) (l : List (Sh 0)) (W : List Rw) : rnd cx_zoetropelaw14_BlockTranslates 35 (⟨0, l⟩ :: W) (loopC 4 (codeOf Try.f3)) [0, 2, 3, 4] 0 (zipE [0, 2, 3, 4] [(.v (.c (.rs 0 1 eo n cap A))), (.v (.c (.b z))), (.v (.c (.sl 0 0 6 0 nk ck))), (.v (.c (.i .i64 t)))]) [⟨28, [.arr 5 M q], true⟩] = outr_lp_Btr eo n cap A z nk ck t M q l := by kernel_rfl
theorem lpp_lp_Btr {c0 : Z.Cx} {ρ0 : List Nat} (eo : Nat) (n : Nat) (cap : Nat) (A : Option Addr) (z : Bool) (nk : Nat) (ck : Nat) (t : Int) (M : Nat) (q : List (Sh 5)) (l : List (Sh 0)) (W : List Rw) (hR : repR (⟨0, l⟩ :: W) c0.R) (hne : ρ0.length ≤ 0) {Q : Exit → Act → World → Prop} {e : Env} {H : List Bk} (hsel : canE 0 [0, 2, 3, 4] e H = some ([(.v (.c (.rs 0 1 eo n cap A))), (.v (.c (.b z))), (.v (.c (.sl 0 0 6 0 nk ck))), (.v (.c (.i .i64 t)))], [⟨28, [.arr 5 M q], true⟩])) (h : (.ass ((z = false ∧ t = ((0 : Nat) : Int)) ∧ (n ≤ cap ∧ n ≤ 65536 ∧ eo + n ≤ l.length ∧ (∀ x ∈ sub l eo n, U32 x)) ∧ (nk ≤ 65536 ∧ nk ≤ M ∧ M ≤ q.length) ∧ sub q 0 nk = trM ((sub l eo n).take 16)) (.ret (.ex 0, [], [⟨28, [.arr 5 M q], true⟩])) : Tr (X × Env × List Bk)).all (fun y => YE c0 ρ0 Q 35 (toX y.1) y.2.1 y.2.2)) : YC Try.prog c0 ρ0 Q 35 (.loop (loopC 4 (codeOf Try.f3))) e H := by
  obtain ⟨hp, h⟩ := h
  replace h := h hp
  obtain ⟨⟨rfl, rfl⟩, hl, hk, hs⟩ := hp
  refine YC.canon hne hsel ?_
  have key := loop_sound (P := Try.prog) (c := c0) (ρ0 := ρ0) (N := 35) (Q := Q) cx_zoetropelaw14_BlockTranslates_ok hR ((by
    have W0 := (⟨0, l⟩ :: W)
    exact LpOK.all (ls := [((loopC 10 (codeOf Try.f3)), lp_Btri)]) (by kernel_rfl) ⟨⟨(by kernel_rfl), lpc_lp_Btri c0 ρ0 (⟨0, l⟩ :: W) hR hne⟩, trivial⟩)) [0, 2, 3, 4] 0 hne (σ := Nat) (body := (loopC 4 (codeOf Try.f3))) (fun s => [.v (.c (.rs 0 1 eo n cap A)), .v (.c (.b false)), .v (.c (.sl 0 0 6 0 nk ck)), .v (.c (.i .i64 ((s : Int))))]) (fun _ => [⟨28, [.arr 5 M q], true⟩]) (fun s => s ≤ 2) (fun s => 2 - s) (fun y => ∃ u, y = (.ex 0, [.v (.c (.rs 0 1 eo n cap A)), .v (.c (.b false)), .v (.c (.sl 0 0 6 0 nk ck)), .v (.c (.i .i64 (u)))], [⟨28, [.arr 5 M q], true⟩])) ?round ?post 0 (by omega)
  case round =>
    intro s hI
    rw [rnd_lp_Btr]
    unfold outr_lp_Btr
    simp only [Tr.all, Nat.zero_add]
    have e1 : s < 2 → IntKind.i64.wrap ((s : Int) + 1) = ((s + 1 : Nat) : Int) := fun _ => Z.wI64 (by omega)
    have hle := trM_le ((sub l eo n).take 16)
    have hlt : ((sub l eo n).take 16).length ≤ 16 := by rw [List.length_take]; omega
    refine ⟨fun hc => ?_, fun hc => Or.inr ⟨nofun, _, rfl⟩⟩
    have hc : s < 2 := by have := of_decide_eq_true hc; omega
    rw [e1 hc]
    refine ⟨hl, fun _ => ⟨fun h0 => ⟨hk, fun _ => ⟨fun hx => absurd hx ?_, fun _ => ⟨by simp, fun _ => Or.inl ⟨trivial, s + 1, by omega, by omega, rfl, trivial⟩⟩⟩⟩, fun h0 x x1 hx => ⟨⟨⟨by omega, hx.1, by omega⟩, hk⟩, fun _ => ⟨fun hy => absurd hy ?_, fun _ => ⟨⟨by simp, by omega, hx.1⟩, fun _ y => Or.inl ⟨trivial, s + 1, by omega, by omega, rfl, trivial⟩⟩⟩⟩⟩⟩
    · rw [hs, List.length_eq_zero_iff.1 (of_decide_eq_true h0)]; simp
    · rw [hs, show sub x1 0 (trM ((sub l eo n).take 16)).length = trM ((sub l eo n).take 16) from hx.2.2]; simp
  case post =>
    intro y hy hp
    obtain ⟨u, rfl⟩ := hp
    exact YE.weaken Sub.nil h
  exact key
theorem lpc_lp_Btr (c : Z.Cx) (ρ0 : List Nat) (W : List Rw) (hR : repR W c.R) (hne : ρ0.length ≤ 0) : ∀ Q e H, (lp_Btr e H W).all (fun y => YE c ρ0 Q 35 (toX y.1) y.2.1 y.2.2) → YC Try.prog c ρ0 Q 35 (.loop (loopC 4 (codeOf Try.f3))) e H := by
  intro Q e H h
  unfold lp_Btr at h
  (try simp only at h)
  split at h
  · rename_i heq
    exact lpp_lp_Btr _ _ _ _ _ _ _ _ _ _ _ _ hR hne (by assumption) h
  · exact h.elim
noncomputable def out_zoetropelaw14_BlockTranslates (eo : Nat) (n : Nat) (cap : Nat) (A : Option Addr) (l : List (Sh 0)) : Tr (SV × List Bk) :=
Tr.ass (((0 : Int) ≤ if (20 : Int) < (↑n : Int) then (20 : Int) else (↑n : Int)) ∧ (if (20 : Int) < (↑n : Int) then (20 : Int) else (↑n : Int)) ≤ (↑n : Int))
 (Tr.ass ((0 : Int) ≤ (↑(0 : Nat) : Int) ∧ (↑(0 : Nat) : Int) ≤ (↑(Int.toNat (if (20 : Int) < (↑n : Int) then (20 : Int) else (↑n : Int))) : Int))
 (Tr.ass (n ≤ cap)
 (Tr.ass
 (Int.toNat (if (20 : Int) < (↑n : Int) then (20 : Int) else (↑n : Int)) ≤ (65536 : Nat) ∧
 eo + Int.toNat (if (20 : Int) < (↑n : Int) then (20 : Int) else (↑n : Int)) ≤ List.length l ∧
 ∀ (x : Sh (0 : Nat)), x ∈ X.sub l eo (Int.toNat (if (20 : Int) < (↑n : Int) then (20 : Int) else (↑n : Int))) → Z.U32 x)
 (Tr.any Nat fun x =>
 Tr.any (List Mic) fun x_1 =>
 Tr.hyp
 (List.length (X.trM (List.take (16 : Nat) (X.sub l eo (Int.toNat (if (20 : Int) < (↑n : Int) then (20 : Int) else (↑n : Int)))))) ≤ x ∧
 List.length x_1 = x ∧
 List.take (List.length (X.trM (List.take (16 : Nat) (X.sub l eo (Int.toNat (if (20 : Int) < (↑n : Int) then (20 : Int) else (↑n : Int))))))) x_1 =
 X.trM (List.take (16 : Nat) (X.sub l eo (Int.toNat (if (20 : Int) < (↑n : Int) then (20 : Int) else (↑n : Int))))))
 (Tr.ass
 ((false = false ∧ (0 : Int) = (↑(0 : Nat) : Int)) ∧
 (Int.toNat (if (20 : Int) < (↑n : Int) then (20 : Int) else (↑n : Int)) ≤ cap ∧
 Int.toNat (if (20 : Int) < (↑n : Int) then (20 : Int) else (↑n : Int)) ≤ (65536 : Nat) ∧
 eo + Int.toNat (if (20 : Int) < (↑n : Int) then (20 : Int) else (↑n : Int)) ≤ List.length l ∧
 ∀ (x : Sh (0 : Nat)), x ∈ X.sub l eo (Int.toNat (if (20 : Int) < (↑n : Int) then (20 : Int) else (↑n : Int))) → Z.U32 x) ∧
 (List.length (X.trM (List.take (16 : Nat) (X.sub l eo (Int.toNat (if (20 : Int) < (↑n : Int) then (20 : Int) else (↑n : Int)))))) ≤ (65536 : Nat) ∧
 List.length (X.trM (List.take (16 : Nat) (X.sub l eo (Int.toNat (if (20 : Int) < (↑n : Int) then (20 : Int) else (↑n : Int)))))) ≤ x ∧ x ≤ List.length x_1) ∧
 X.sub x_1 (0 : Nat) (List.length (X.trM (List.take (16 : Nat) (X.sub l eo (Int.toNat (if (20 : Int) < (↑n : Int) then (20 : Int) else (↑n : Int))))))) =
 X.trM (List.take (16 : Nat) (X.sub l eo (Int.toNat (if (20 : Int) < (↑n : Int) then (20 : Int) else (↑n : Int))))))
 (Tr.ret (SV.v (V1.c (Sc.b true)), [])))))))

theorem run_zoetropelaw14_BlockTranslates (eo : Nat) (n : Nat) (cap : Nat) (A : Option Addr) (l : List (Sh 0)) (W : List Rw) : runF cx_zoetropelaw14_BlockTranslates 35 [.tmp 2] (codeOf Try.f3) [(.v (.c (.rs 0 1 eo n cap A)))] [] (⟨0, l⟩ :: W) = out_zoetropelaw14_BlockTranslates eo n cap A l := by kernel_rfl
theorem pf_zoetropelaw14_BlockTranslates (eo : Nat) (n : Nat) (cap : Nat) (A : Option Addr) (l : List (Sh 0)) (K : SV × List Bk → Prop) (h : (.ass (n ≤ cap ∧ eo + n ≤ l.length ∧ (∀ x ∈ sub l eo n, U32 x)) (.ret (.v (.c (.b (true))), [])) : Tr (SV × List Bk)).all K) : (out_zoetropelaw14_BlockTranslates eo n cap A l).all K := by
  obtain ⟨hp, h⟩ := h
  replace h := h hp
  replace h : K _ := h
  obtain ⟨hc, hN, hu⟩ := hp
  have hu' : ∀ x ∈ (sub l eo n).take 20, U32 x := fun m hm => hu m (List.mem_of_mem_take hm)
  have hle := trM_le (((sub l eo n).take 20).take 16)
  have hlt : (((sub l eo n).take 20).take 16).length ≤ 16 := by rw [List.length_take]; omega
  unfold out_zoetropelaw14_BlockTranslates
  simp only [Tr.all, toNat_min20, sub_min]
  exact ⟨⟨by split <;> omega, by split <;> omega⟩, fun _ => ⟨by omega, fun _ => ⟨hc, fun _ => ⟨⟨by omega, by omega, hu'⟩, fun _ x x1 hx => ⟨⟨by simp, ⟨by omega, by omega, by omega, hu'⟩, ⟨by omega, hx.1, by omega⟩, hx.2.2⟩, fun _ => h⟩⟩⟩⟩⟩
noncomputable def con_zoetropelaw14_BlockTranslates : Con := ⟨true, fun args H W => match args, H, W with
  | [(.v (.c (.rs 0 1 eo n cap A)))], [], ⟨0, l⟩ :: W => .ass (n ≤ cap ∧ eo + n ≤ l.length ∧ (∀ x ∈ sub l eo n, U32 x)) (.ret (.v (.c (.b (true))), []))
  | _, _, _ => .stuck 900⟩
theorem lpok_zoetropelaw14_BlockTranslates (c : Z.Cx) (ρ0 : List Nat) (W : List Rw) (hR : repR W c.R) (hne : ρ0.length ≤ 0) : LpOK Try.prog cx_zoetropelaw14_BlockTranslates c ρ0 35 W (codeOf Try.f3) := LpOK.all (ls := [((loopC 4 (codeOf Try.f3)), lp_Btr)]) (by kernel_rfl) ⟨⟨(by kernel_rfl), lpc_lp_Btr c ρ0 W hR hne⟩, trivial⟩
theorem ok_zoetropelaw14_BlockTranslates : ConOK Try.prog 3 con_zoetropelaw14_BlockTranslates := con_ok (code := (codeOf Try.f3)) (N := 35) (rs := [.tmp 2]) cx_zoetropelaw14_BlockTranslates_ok 0 Try.func3 rfl rfl rfl lpok_zoetropelaw14_BlockTranslates (by
  intro args H W K h hro
  unfold con_zoetropelaw14_BlockTranslates at h
  simp only at h
  split at h
  · refine ⟨rfl, ?_⟩
    rw [run_zoetropelaw14_BlockTranslates]
    exact pf_zoetropelaw14_BlockTranslates _ _ _ _ _ K h
  · exact h.elim)
end Go.Y
