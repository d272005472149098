/- PRINTED by wip/tools/ybuild.py: contracts of ir.Run, ir.Until, ir.May, decode.rows, decode.forms. -/
import Derived.Test.YtfckbimkdjcncaaYTyA
import Derived.Test.YtfckbimkdjcncaaG6
import Derived.Test.YtfckbimkdjcncaaYA00
import Derived.Test.YtfckbimkdjcncaaYA01
import Derived.Test.YtfckbimkdjcncaaYA02
import Derived.Test.YtfckbimkdjcncaaYA03
import Derived.Test.YtfckbimkdjcncaaYA04
set_option maxRecDepth 100000
set_option linter.unusedSimpArgs false
set_option linter.unusedVariables false
namespace Go.Y
open Go.Proofs Go.X
open Go.Z (U32 Regs rg kindOf lessOf shiftOf fillOf sg bitAt withBit bnor bor band bxor b01 bitsOf)
noncomputable def lp_Run : LpT := fun e H W => match canE 1 [3, 4, 8, 9, 10] e H, W with
  | some ([(.v (.c (.p 0 0))), (.v (.c (.p 1 0))), (.v (.c (.rs 0 6 eo n cap A))), (.v (.c (.i .i64 m))), (.v (.c (.i .i64 i)))], [⟨32, [.arr 0 32 r], true⟩, ⟨32, [.arr 0 32 q], true⟩]), ⟨5, l⟩ :: W => .ass ((m = (n : Int) ∧ i = ((0 : Nat) : Int)) ∧ (n ≤ 65536 ∧ eo + n ≤ l.length ∧ l.length ≤ l.length) ∧ (∀ m ∈ sub l eo n, U32 m.i) ∧ Regs r) (.ret (.ex 0, zipE [3, 4, 8, 9, 10] [.v (.c (.p 0 0)), .v (.c (.p 1 0)), .v (.c (.rs 0 6 eo n cap A)), .v (.c (.i .i64 ((n : Int)))), .v (.c (.i .i64 ((n : Int))))], [⟨32, [.arr 0 32 (runOf (sub l eo n) (r))], true⟩, ⟨32, [.arr 0 32 (q)], true⟩]))
  | some ([(.v (.c (.p 1 0))), (.v (.c (.p 2 0))), (.v (.c (.sl 0 0 6 eo n cap))), (.v (.c (.i .i64 m))), (.v (.c (.i .i64 i)))], [⟨28, [.arr 5 N l], wr⟩, ⟨32, [.arr 0 32 r], true⟩, ⟨32, [.arr 0 32 q], true⟩]), W => .ass ((m = (n : Int) ∧ i = ((0 : Nat) : Int)) ∧ (n ≤ 65536 ∧ eo + n ≤ N ∧ N ≤ l.length ∧ l.length ≤ N) ∧ (∀ m ∈ sub l eo n, U32 m.i) ∧ Regs r) (.ret (.ex 0, zipE [3, 4, 8, 9, 10] [.v (.c (.p 1 0)), .v (.c (.p 2 0)), .v (.c (.sl 0 0 6 eo n cap)), .v (.c (.i .i64 ((n : Int)))), .v (.c (.i .i64 ((n : Int))))], [⟨28, [.arr 5 N l], wr⟩, ⟨32, [.arr 0 32 (runOf (sub l eo n) (r))], true⟩, ⟨32, [.arr 0 32 (q)], true⟩]))
  | some ([(.v (.c (.p 0 0))), (.v (.c (.p 1 0))), (.v (.c .ns)), (.v (.c (.i .i64 m))), (.v (.c (.i .i64 i)))], [⟨32, [.arr 0 32 r], true⟩, ⟨32, [.arr 0 32 q], true⟩]), W => .ass (m = 0 ∧ i = 0) (.ret (.ex 0, zipE [3, 4, 8, 9, 10] [.v (.c (.p 0 0)), .v (.c (.p 1 0)), .v (.c .ns), .v (.c (.i .i64 (0))), .v (.c (.i .i64 (0)))], [⟨32, [.arr 0 32 (r)], true⟩, ⟨32, [.arr 0 32 (q)], true⟩]))
  | _, _ => .stuck 901
noncomputable def cx_ir_Run : Ctx := mkCtx tys eqs [(29, con_ir_does)] [(3, lp_Run)]
theorem cx_ir_Run_ok : CtxOK Try.prog cx_ir_Run := mkCtx_ok _ mixed tys_ok eqs_ok ⟨⟨ok_ir_does, Try.call29⟩, trivial⟩
noncomputable def outr_lp_Run (eo : Nat) (n : Nat) (cap : Nat) (A : Option Addr) (m : Int) (i : Int) (r : List (Sh 0)) (q : List (Sh 0)) (l : List (Sh 5)) : Tr (X × List SV × List Bk) :=
Tr.ite (decide (i < m))
 (Tr.ass ((0 : Int) ≤ i ∧ i < (↑n : Int))
 (Tr.ass (eo + Int.toNat i < List.length l)
 (Tr.ass (Z.U32 (Mic.i (List.getD l (eo + Int.toNat i) (Mic.mk (0 : Int) (0 : Int) (0 : Int) (0 : Int) (0 : Int) (0 : Int)))) ∧ Z.Regs r)
 (Tr.ret
 (X.nor,
 [SV.v (V1.c (Sc.p (nat_lit 0) (nat_lit 0))), SV.v (V1.c (Sc.p (nat_lit 1) (nat_lit 0))),
 SV.v (V1.c (Sc.rs (nat_lit 0) (nat_lit 6) eo n cap A)), SV.v (V1.c (Sc.i IntKind.i64 m)),
 SV.v (V1.c (Sc.i IntKind.i64 (IntKind.wrap IntKind.i64 (i + (1 : Int)))))],
 [Bk.mk (nat_lit 32) [Seg.arr (nat_lit 0) (nat_lit 32) (X.doesOf (List.getD l (eo + Int.toNat i) (Mic.mk (0 : Int) (0 : Int) (0 : Int) (0 : Int) (0 : Int) (0 : Int))) r)]
 true,
 Bk.mk (nat_lit 32) [Seg.arr (nat_lit 0) (nat_lit 32) q] true])))))
 (Tr.ret
 (X.ex (nat_lit 0),
 [SV.v (V1.c (Sc.p (nat_lit 0) (nat_lit 0))), SV.v (V1.c (Sc.p (nat_lit 1) (nat_lit 0))), SV.v (V1.c (Sc.rs (nat_lit 0) (nat_lit 6) eo n cap A)),
 SV.v (V1.c (Sc.i IntKind.i64 m)), SV.v (V1.c (Sc.i IntKind.i64 i))],
 [Bk.mk (nat_lit 32) [Seg.arr (nat_lit 0) (nat_lit 32) r] true, Bk.mk (nat_lit 32) [Seg.arr (nat_lit 0) (nat_lit 32) q] true]))

theorem rnd_lp_Run (eo : Nat) (n : Nat) (cap : Nat) (A : Option Addr) (m : Int) (i : Int) (r : List (Sh 0)) (q : List (Sh 0)) (l : List (Sh 5)) (W : List Rw) : rnd cx_ir_Run 18 (⟨5, l⟩ :: W) (loopC 3 (codeOf Try.f15)) [3, 4, 8, 9, 10] 1 (zipE [3, 4, 8, 9, 10] [(.v (.c (.p 0 0))), (.v (.c (.p 1 0))), (.v (.c (.rs 0 6 eo n cap A))), (.v (.c (.i .i64 m))), (.v (.c (.i .i64 i)))]) [⟨32, [.arr 0 32 r], true⟩, ⟨32, [.arr 0 32 q], true⟩] = outr_lp_Run eo n cap A m i r q l := by kernel_rfl
noncomputable def outr_lp_Run_2 (eo : Nat) (n : Nat) (cap : Nat) (m : Int) (i : Int) (wr : Bool) (N : Nat) (l : List (Sh 5)) (r : List (Sh 0)) (q : List (Sh 0)) : Tr (X × List SV × List Bk) :=
Tr.ite (decide (i < m))
 (Tr.ass ((0 : Int) ≤ i ∧ i < (↑n : Int))
 (Tr.ass (eo + Int.toNat i < N)
 (Tr.ass (Z.U32 (Mic.i (List.getD l (eo + Int.toNat i) (Mic.mk (0 : Int) (0 : Int) (0 : Int) (0 : Int) (0 : Int) (0 : Int)))) ∧ Z.Regs r)
 (Tr.ret
 (X.nor,
 [SV.v (V1.c (Sc.p (nat_lit 1) (nat_lit 0))), SV.v (V1.c (Sc.p (nat_lit 2) (nat_lit 0))),
 SV.v (V1.c (Sc.sl (nat_lit 0) (nat_lit 0) (nat_lit 6) eo n cap)), SV.v (V1.c (Sc.i IntKind.i64 m)),
 SV.v (V1.c (Sc.i IntKind.i64 (IntKind.wrap IntKind.i64 (i + (1 : Int)))))],
 [Bk.mk (nat_lit 28) [Seg.arr (nat_lit 5) N l] wr,
 Bk.mk (nat_lit 32) [Seg.arr (nat_lit 0) (nat_lit 32) (X.doesOf (List.getD l (eo + Int.toNat i) (Mic.mk (0 : Int) (0 : Int) (0 : Int) (0 : Int) (0 : Int) (0 : Int))) r)]
 true,
 Bk.mk (nat_lit 32) [Seg.arr (nat_lit 0) (nat_lit 32) q] true])))))
 (Tr.ret
 (X.ex (nat_lit 0),
 [SV.v (V1.c (Sc.p (nat_lit 1) (nat_lit 0))), SV.v (V1.c (Sc.p (nat_lit 2) (nat_lit 0))),
 SV.v (V1.c (Sc.sl (nat_lit 0) (nat_lit 0) (nat_lit 6) eo n cap)), SV.v (V1.c (Sc.i IntKind.i64 m)), SV.v (V1.c (Sc.i IntKind.i64 i))],
 [Bk.mk (nat_lit 28) [Seg.arr (nat_lit 5) N l] wr, Bk.mk (nat_lit 32) [Seg.arr (nat_lit 0) (nat_lit 32) r] true,
 Bk.mk (nat_lit 32) [Seg.arr (nat_lit 0) (nat_lit 32) q] true]))

theorem rnd_lp_Run_2 (eo : Nat) (n : Nat) (cap : Nat) (m : Int) (i : Int) (wr : Bool) (N : Nat) (l : List (Sh 5)) (r : List (Sh 0)) (q : List (Sh 0)) (W : List Rw) : rnd cx_ir_Run 18 W (loopC 3 (codeOf Try.f15)) [3, 4, 8, 9, 10] 1 (zipE [3, 4, 8, 9, 10] [(.v (.c (.p 1 0))), (.v (.c (.p 2 0))), (.v (.c (.sl 0 0 6 eo n cap))), (.v (.c (.i .i64 m))), (.v (.c (.i .i64 i)))]) [⟨28, [.arr 5 N l], wr⟩, ⟨32, [.arr 0 32 r], true⟩, ⟨32, [.arr 0 32 q], true⟩] = outr_lp_Run_2 eo n cap m i wr N l r q := by kernel_rfl
noncomputable def outr_lp_Run_3 (m : Int) (i : Int) (r : List (Sh 0)) (q : List (Sh 0)) : Tr (X × List SV × List Bk) :=
Tr.ite (decide (i < m)) (Tr.stuck (nat_lit 126))
 (Tr.ret
 (X.ex (nat_lit 0),
 [SV.v (V1.c (Sc.p (nat_lit 0) (nat_lit 0))), SV.v (V1.c (Sc.p (nat_lit 1) (nat_lit 0))), SV.v (V1.c Sc.ns),
 SV.v (V1.c (Sc.i IntKind.i64 m)), SV.v (V1.c (Sc.i IntKind.i64 i))],
 [Bk.mk (nat_lit 32) [Seg.arr (nat_lit 0) (nat_lit 32) r] true, Bk.mk (nat_lit 32) [Seg.arr (nat_lit 0) (nat_lit 32) q] true]))

theorem rnd_lp_Run_3 (m : Int) (i : Int) (r : List (Sh 0)) (q : List (Sh 0)) (W : List Rw) : rnd cx_ir_Run 18 W (loopC 3 (codeOf Try.f15)) [3, 4, 8, 9, 10] 1 (zipE [3, 4, 8, 9, 10] [(.v (.c (.p 0 0))), (.v (.c (.p 1 0))), (.v (.c .ns)), (.v (.c (.i .i64 m))), (.v (.c (.i .i64 i)))]) [⟨32, [.arr 0 32 r], true⟩, ⟨32, [.arr 0 32 q], true⟩] = outr_lp_Run_3 m i r q := by kernel_rfl
theorem lpp_lp_Run {c0 : Z.Cx} {ρ0 : List Nat} (eo : Nat) (n : Nat) (cap : Nat) (A : Option Addr) (m : Int) (i : Int) (r : List (Sh 0)) (q : List (Sh 0)) (l : List (Sh 5)) (W : List Rw) (hR : repR (⟨5, l⟩ :: W) c0.R) (hne : ρ0.length ≤ 1) {Q : Exit → Act → World → Prop} {e : Env} {H : List Bk} (hsel : canE 1 [3, 4, 8, 9, 10] e H = some ([(.v (.c (.p 0 0))), (.v (.c (.p 1 0))), (.v (.c (.rs 0 6 eo n cap A))), (.v (.c (.i .i64 m))), (.v (.c (.i .i64 i)))], [⟨32, [.arr 0 32 r], true⟩, ⟨32, [.arr 0 32 q], true⟩])) (h : (.ass ((m = (n : Int) ∧ i = ((0 : Nat) : Int)) ∧ (n ≤ 65536 ∧ eo + n ≤ l.length ∧ l.length ≤ l.length) ∧ (∀ m ∈ sub l eo n, U32 m.i) ∧ Regs r) (.ret (.ex 0, zipE [3, 4, 8, 9, 10] [.v (.c (.p 0 0)), .v (.c (.p 1 0)), .v (.c (.rs 0 6 eo n cap A)), .v (.c (.i .i64 ((n : Int)))), .v (.c (.i .i64 ((n : Int))))], [⟨32, [.arr 0 32 (runOf (sub l eo n) (r))], true⟩, ⟨32, [.arr 0 32 (q)], true⟩])) : Tr (X × Env × List Bk)).all (fun y => YE c0 ρ0 Q 18 (toX y.1) y.2.1 y.2.2)) : YC Try.prog c0 ρ0 Q 18 (.loop (loopC 3 (codeOf Try.f15))) e H := by
  obtain ⟨hp, h⟩ := h
  replace h := h hp
  obtain ⟨⟨rfl, rfl⟩, hN, hm, hr⟩ := hp
  have hle : eo + n ≤ l.length := by omega
  refine YC.canon hne hsel ?_
  have key := loop_sound (P := Try.prog) (c := c0) (ρ0 := ρ0) (N := 18) (Q := Q) cx_ir_Run_ok hR (LpOK.no (by kernel_rfl)) [3, 4, 8, 9, 10] 1 hne (σ := Nat) (body := (loopC 3 (codeOf Try.f15))) (fun s => [.v (.c (.p 0 0)), .v (.c (.p 1 0)), .v (.c (.rs 0 6 eo n cap A)), .v (.c (.i .i64 ((n : Int)))), .v (.c (.i .i64 ((s : Int))))]) (fun s => [⟨32, [.arr 0 32 (runOf ((sub l eo n).take s) (r))], true⟩, ⟨32, [.arr 0 32 (q)], true⟩]) (fun s => s ≤ n) (fun s => n - s) (fun y => y = (.ex 0, [.v (.c (.p 0 0)), .v (.c (.p 1 0)), .v (.c (.rs 0 6 eo n cap A)), .v (.c (.i .i64 ((n : Int)))), .v (.c (.i .i64 ((n : Int))))], [⟨32, [.arr 0 32 (runOf (sub l eo n) (r))], true⟩, ⟨32, [.arr 0 32 (q)], true⟩])) ?round ?post 0 (by omega)
  case round =>
    intro s hI
    rw [rnd_lp_Run]
    unfold outr_lp_Run
    simp only [Tr.all]
    have hlt : s < n → (∀ x, U32 (l.getD (eo + s) x).i) := fun h1 x => sub_mem (p := fun m => U32 m.i) hm hle h1
    have hrs := runOf_regs (fun m hx => hm m (List.mem_of_mem_take hx)) hr (l := (sub l eo n).take s)
    rw [show eo + ((s : Nat) : Int).toNat = eo + s by omega]
    refine ⟨fun hc => ?_, fun hc => Or.inr ⟨nofun, ?_⟩⟩
    · have hc := of_decide_eq_true hc
      have hc : s < n := by omega
      rw [Z.wI64 (z := (s : Int) + 1) (by omega)]
      refine ⟨by omega, fun _ => ⟨by omega, fun _ => ⟨⟨hlt hc _, hrs⟩, fun _ => Or.inl ⟨trivial, s + 1, by omega, by omega, rfl, ?_⟩⟩⟩⟩
      rw [sub_step (d := ⟨0, 0, 0, 0, 0, 0⟩) hle hc, runOf_snoc]
      try rfl
    · have hc := of_decide_eq_false hc
      obtain rfl : s = n := by omega
      rw [sub_take hle]
  case post =>
    intro y hy hp
    subst hp
    exact h
  exact key
theorem lpp_lp_Run_2 {c0 : Z.Cx} {ρ0 : List Nat} (eo : Nat) (n : Nat) (cap : Nat) (m : Int) (i : Int) (wr : Bool) (N : Nat) (l : List (Sh 5)) (r : List (Sh 0)) (q : List (Sh 0)) (W : List Rw) (hR : repR W c0.R) (hne : ρ0.length ≤ 1) {Q : Exit → Act → World → Prop} {e : Env} {H : List Bk} (hsel : canE 1 [3, 4, 8, 9, 10] e H = some ([(.v (.c (.p 1 0))), (.v (.c (.p 2 0))), (.v (.c (.sl 0 0 6 eo n cap))), (.v (.c (.i .i64 m))), (.v (.c (.i .i64 i)))], [⟨28, [.arr 5 N l], wr⟩, ⟨32, [.arr 0 32 r], true⟩, ⟨32, [.arr 0 32 q], true⟩])) (h : (.ass ((m = (n : Int) ∧ i = ((0 : Nat) : Int)) ∧ (n ≤ 65536 ∧ eo + n ≤ N ∧ N ≤ l.length ∧ l.length ≤ N) ∧ (∀ m ∈ sub l eo n, U32 m.i) ∧ Regs r) (.ret (.ex 0, zipE [3, 4, 8, 9, 10] [.v (.c (.p 1 0)), .v (.c (.p 2 0)), .v (.c (.sl 0 0 6 eo n cap)), .v (.c (.i .i64 ((n : Int)))), .v (.c (.i .i64 ((n : Int))))], [⟨28, [.arr 5 N l], wr⟩, ⟨32, [.arr 0 32 (runOf (sub l eo n) (r))], true⟩, ⟨32, [.arr 0 32 (q)], true⟩])) : Tr (X × Env × List Bk)).all (fun y => YE c0 ρ0 Q 18 (toX y.1) y.2.1 y.2.2)) : YC Try.prog c0 ρ0 Q 18 (.loop (loopC 3 (codeOf Try.f15))) e H := by
  obtain ⟨hp, h⟩ := h
  replace h := h hp
  obtain ⟨⟨rfl, rfl⟩, hN, hm, hr⟩ := hp
  have hle : eo + n ≤ l.length := by omega
  refine YC.canon hne hsel ?_
  have key := loop_sound (P := Try.prog) (c := c0) (ρ0 := ρ0) (N := 18) (Q := Q) cx_ir_Run_ok hR (LpOK.no (by kernel_rfl)) [3, 4, 8, 9, 10] 1 hne (σ := Nat) (body := (loopC 3 (codeOf Try.f15))) (fun s => [.v (.c (.p 1 0)), .v (.c (.p 2 0)), .v (.c (.sl 0 0 6 eo n cap)), .v (.c (.i .i64 ((n : Int)))), .v (.c (.i .i64 ((s : Int))))]) (fun s => [⟨28, [.arr 5 N l], wr⟩, ⟨32, [.arr 0 32 (runOf ((sub l eo n).take s) (r))], true⟩, ⟨32, [.arr 0 32 (q)], true⟩]) (fun s => s ≤ n) (fun s => n - s) (fun y => y = (.ex 0, [.v (.c (.p 1 0)), .v (.c (.p 2 0)), .v (.c (.sl 0 0 6 eo n cap)), .v (.c (.i .i64 ((n : Int)))), .v (.c (.i .i64 ((n : Int))))], [⟨28, [.arr 5 N l], wr⟩, ⟨32, [.arr 0 32 (runOf (sub l eo n) (r))], true⟩, ⟨32, [.arr 0 32 (q)], true⟩])) ?round ?post 0 (by omega)
  case round =>
    intro s hI
    rw [rnd_lp_Run_2]
    unfold outr_lp_Run_2
    simp only [Tr.all]
    have hlt : s < n → (∀ x, U32 (l.getD (eo + s) x).i) := fun h1 x => sub_mem (p := fun m => U32 m.i) hm hle h1
    have hrs := runOf_regs (fun m hx => hm m (List.mem_of_mem_take hx)) hr (l := (sub l eo n).take s)
    rw [show eo + ((s : Nat) : Int).toNat = eo + s by omega]
    refine ⟨fun hc => ?_, fun hc => Or.inr ⟨nofun, ?_⟩⟩
    · have hc := of_decide_eq_true hc
      have hc : s < n := by omega
      rw [Z.wI64 (z := (s : Int) + 1) (by omega)]
      refine ⟨by omega, fun _ => ⟨by omega, fun _ => ⟨⟨hlt hc _, hrs⟩, fun _ => Or.inl ⟨trivial, s + 1, by omega, by omega, rfl, ?_⟩⟩⟩⟩
      rw [sub_step (d := ⟨0, 0, 0, 0, 0, 0⟩) hle hc, runOf_snoc]
      try rfl
    · have hc := of_decide_eq_false hc
      obtain rfl : s = n := by omega
      rw [sub_take hle]
  case post =>
    intro y hy hp
    subst hp
    exact h
  exact key
theorem lpp_lp_Run_3 {c0 : Z.Cx} {ρ0 : List Nat} (m : Int) (i : Int) (r : List (Sh 0)) (q : List (Sh 0)) (W : List Rw) (hR : repR W c0.R) (hne : ρ0.length ≤ 1) {Q : Exit → Act → World → Prop} {e : Env} {H : List Bk} (hsel : canE 1 [3, 4, 8, 9, 10] e H = some ([(.v (.c (.p 0 0))), (.v (.c (.p 1 0))), (.v (.c .ns)), (.v (.c (.i .i64 m))), (.v (.c (.i .i64 i)))], [⟨32, [.arr 0 32 r], true⟩, ⟨32, [.arr 0 32 q], true⟩])) (h : (.ass (m = 0 ∧ i = 0) (.ret (.ex 0, zipE [3, 4, 8, 9, 10] [.v (.c (.p 0 0)), .v (.c (.p 1 0)), .v (.c .ns), .v (.c (.i .i64 (0))), .v (.c (.i .i64 (0)))], [⟨32, [.arr 0 32 (r)], true⟩, ⟨32, [.arr 0 32 (q)], true⟩])) : Tr (X × Env × List Bk)).all (fun y => YE c0 ρ0 Q 18 (toX y.1) y.2.1 y.2.2)) : YC Try.prog c0 ρ0 Q 18 (.loop (loopC 3 (codeOf Try.f15))) e H := by
  obtain ⟨hp, h⟩ := h
  replace h := h hp
  obtain ⟨rfl, rfl⟩ := hp
  refine YC.canon hne hsel ?_
  have key := loop_sound (P := Try.prog) (c := c0) (ρ0 := ρ0) (N := 18) (Q := Q) cx_ir_Run_ok hR (LpOK.no (by kernel_rfl)) [3, 4, 8, 9, 10] 1 hne (σ := Unit) (body := (loopC 3 (codeOf Try.f15))) (fun _ => [.v (.c (.p 0 0)), .v (.c (.p 1 0)), .v (.c .ns), .v (.c (.i .i64 (0))), .v (.c (.i .i64 (0)))]) (fun _ => [⟨32, [.arr 0 32 (r)], true⟩, ⟨32, [.arr 0 32 (q)], true⟩]) (fun _ => True) (fun _ => 0) (fun y => y = (.ex 0, [.v (.c (.p 0 0)), .v (.c (.p 1 0)), .v (.c .ns), .v (.c (.i .i64 (0))), .v (.c (.i .i64 (0)))], [⟨32, [.arr 0 32 (r)], true⟩, ⟨32, [.arr 0 32 (q)], true⟩])) ?round ?post () trivial
  case round =>
    intro s hI
    rw [rnd_lp_Run_3]
    unfold outr_lp_Run_3
    simp only [Tr.all]
    exact ⟨fun hc => absurd hc (by decide), fun _ => Or.inr ⟨nofun, trivial⟩⟩
  case post =>
    intro y hy hp
    subst hp
    exact h
  exact key
theorem lpc_lp_Run (c : Z.Cx) (ρ0 : List Nat) (W : List Rw) (hR : repR W c.R) (hne : ρ0.length ≤ 1) : ∀ Q e H, (lp_Run e H W).all (fun y => YE c ρ0 Q 18 (toX y.1) y.2.1 y.2.2) → YC Try.prog c ρ0 Q 18 (.loop (loopC 3 (codeOf Try.f15))) e H := by
  intro Q e H h
  unfold lp_Run at h
  (try simp only at h)
  split at h
  · rename_i heq
    exact lpp_lp_Run _ _ _ _ _ _ _ _ _ _ hR hne (by assumption) h
  · rename_i heq
    exact lpp_lp_Run_2 _ _ _ _ _ _ _ _ _ _ _ hR hne (by assumption) h
  · rename_i heq
    exact lpp_lp_Run_3 _ _ _ _ _ hR hne (by assumption) h
  · exact h.elim
noncomputable def out_ir_Run (eo : Nat) (n : Nat) (cap : Nat) (A : Option Addr) (r : List (Sh 0)) (l : List (Sh 5)) : Tr (SV × List Bk) :=
Tr.ass ((0 : Int) ≤ (0 : Int) ∧ (0 : Int) < (↑(32 : Nat) : Int))
 (Tr.ass (Int.toNat (0 : Int) < (32 : Nat))
 (Tr.ass
 (((↑n : Int) = (↑n : Int) ∧ (0 : Int) = (↑(0 : Nat) : Int)) ∧
 (n ≤ (65536 : Nat) ∧ eo + n ≤ List.length l ∧ List.length l ≤ List.length l) ∧
 (∀ (m : Sh (5 : Nat)), m ∈ X.sub l eo n → Z.U32 (Mic.i m)) ∧ Z.Regs (List.set r (Int.toNat (0 : Int)) (0 : Int)))
 (Tr.ret (SV.v (V1.agg [Seg.arr (nat_lit 0) (nat_lit 32) (X.runOf (X.sub l eo n) (List.set r (Int.toNat (0 : Int)) (0 : Int)))]), []))))

theorem run_ir_Run (eo : Nat) (n : Nat) (cap : Nat) (A : Option Addr) (r : List (Sh 0)) (l : List (Sh 5)) (W : List Rw) : runF cx_ir_Run 18 [.cell 4 32] (codeOf Try.f15) [(.v (.c (.rs 0 6 eo n cap A))), (.v (.agg [.arr 0 32 r]))] [] (⟨5, l⟩ :: W) = out_ir_Run eo n cap A r l := by kernel_rfl
theorem pf_ir_Run (eo : Nat) (n : Nat) (cap : Nat) (A : Option Addr) (r : List (Sh 0)) (l : List (Sh 5)) (K : SV × List Bk → Prop) (h : (.ass ((n ≤ 65536 ∧ eo + n ≤ l.length ∧ l.length ≤ l.length) ∧ (∀ m ∈ sub l eo n, U32 m.i) ∧ Regs r) (.ret (.v (.agg [.arr 0 32 (runOf (sub l eo n) (r.set 0 (0 : Int)))]), [])) : Tr (SV × List Bk)).all K) : (out_ir_Run eo n cap A r l).all K := by
  obtain ⟨hp, h⟩ := h
  replace h := h hp
  replace h : K _ := h
  obtain ⟨hN, hm, hr⟩ := hp
  have hr0 : Regs (r.set 0 (0 : Int)) := hr.set _ (by decide)
  unfold out_ir_Run
  simp only [Tr.all]
  exact ⟨by decide, fun _ => ⟨by decide, fun _ => ⟨⟨⟨trivial, rfl⟩, hN, hm, hr0⟩, fun _ => h⟩⟩⟩
noncomputable def out_ir_Run_2 (eo : Nat) (n : Nat) (cap : Nat) (r : List (Sh 0)) (wr : Bool) (N : Nat) (l : List (Sh 5)) : Tr (SV × List Bk) :=
Tr.ass ((0 : Int) ≤ (0 : Int) ∧ (0 : Int) < (↑(32 : Nat) : Int))
 (Tr.ass (Int.toNat (0 : Int) < (32 : Nat))
 (Tr.ass
 (((↑n : Int) = (↑n : Int) ∧ (0 : Int) = (↑(0 : Nat) : Int)) ∧
 (n ≤ (65536 : Nat) ∧ eo + n ≤ N ∧ N ≤ List.length l ∧ List.length l ≤ N) ∧
 (∀ (m : Sh (5 : Nat)), m ∈ X.sub l eo n → Z.U32 (Mic.i m)) ∧ Z.Regs (List.set r (Int.toNat (0 : Int)) (0 : Int)))
 (Tr.ret
 (SV.v (V1.agg [Seg.arr (nat_lit 0) (nat_lit 32) (X.runOf (X.sub l eo n) (List.set r (Int.toNat (0 : Int)) (0 : Int)))]),
 [Bk.mk (nat_lit 28) [Seg.arr (nat_lit 5) N l] wr]))))

theorem run_ir_Run_2 (eo : Nat) (n : Nat) (cap : Nat) (r : List (Sh 0)) (wr : Bool) (N : Nat) (l : List (Sh 5)) (W : List Rw) : runF cx_ir_Run 18 [.cell 4 32] (codeOf Try.f15) [(.v (.c (.sl 0 0 6 eo n cap))), (.v (.agg [.arr 0 32 r]))] [⟨28, [.arr 5 N l], wr⟩] W = out_ir_Run_2 eo n cap r wr N l := by kernel_rfl
theorem pf_ir_Run_2 (eo : Nat) (n : Nat) (cap : Nat) (r : List (Sh 0)) (wr : Bool) (N : Nat) (l : List (Sh 5)) (K : SV × List Bk → Prop) (h : (.ass ((n ≤ 65536 ∧ eo + n ≤ N ∧ N ≤ l.length ∧ l.length ≤ N) ∧ (∀ m ∈ sub l eo n, U32 m.i) ∧ Regs r) (.ret (.v (.agg [.arr 0 32 (runOf (sub l eo n) (r.set 0 (0 : Int)))]), [⟨28, [.arr 5 N l], wr⟩])) : Tr (SV × List Bk)).all K) : (out_ir_Run_2 eo n cap r wr N l).all K := by
  obtain ⟨hp, h⟩ := h
  replace h := h hp
  replace h : K _ := h
  obtain ⟨hN, hm, hr⟩ := hp
  have hr0 : Regs (r.set 0 (0 : Int)) := hr.set _ (by decide)
  unfold out_ir_Run_2
  simp only [Tr.all]
  exact ⟨by decide, fun _ => ⟨by decide, fun _ => ⟨⟨⟨trivial, rfl⟩, hN, hm, hr0⟩, fun _ => h⟩⟩⟩
noncomputable def out_ir_Run_3 (r : List (Sh 0)) : Tr (SV × List Bk) :=
Tr.ass ((0 : Int) ≤ (0 : Int) ∧ (0 : Int) < (↑(32 : Nat) : Int))
 (Tr.ass (Int.toNat (0 : Int) < (32 : Nat))
 (Tr.ass ((0 : Int) = (0 : Int) ∧ (0 : Int) = (0 : Int)) (Tr.ret (SV.v (V1.agg [Seg.arr (nat_lit 0) (nat_lit 32) (List.set r (Int.toNat (0 : Int)) (0 : Int))]), []))))

theorem run_ir_Run_3 (r : List (Sh 0)) (W : List Rw) : runF cx_ir_Run 18 [.cell 4 32] (codeOf Try.f15) [(.v (.c .ns)), (.v (.agg [.arr 0 32 r]))] [] W = out_ir_Run_3 r := by kernel_rfl
theorem pf_ir_Run_3 (r : List (Sh 0)) (K : SV × List Bk → Prop) (h : (.ret (.v (.agg [.arr 0 32 (runOf [] (r.set 0 (0 : Int)))]), []) : Tr (SV × List Bk)).all K) : (out_ir_Run_3 r).all K := by
  replace h : K _ := h
  unfold out_ir_Run_3
  simp only [Tr.all]
  exact ⟨by decide, fun _ => ⟨by decide, fun _ => ⟨⟨trivial, trivial⟩, fun _ => h⟩⟩⟩
noncomputable def con_ir_Run : Con := ⟨true, fun args H W => match args, H, W with
  | [(.v (.c (.rs 0 6 eo n cap A))), (.v (.agg [.arr 0 32 r]))], [], ⟨5, l⟩ :: W => .ass ((n ≤ 65536 ∧ eo + n ≤ l.length ∧ l.length ≤ l.length) ∧ (∀ m ∈ sub l eo n, U32 m.i) ∧ Regs r) (.ret (.v (.agg [.arr 0 32 (runOf (sub l eo n) (r.set 0 (0 : Int)))]), []))
  | [(.v (.c (.sl 0 0 6 eo n cap))), (.v (.agg [.arr 0 32 r]))], [⟨28, [.arr 5 N l], wr⟩], _ => .ass ((n ≤ 65536 ∧ eo + n ≤ N ∧ N ≤ l.length ∧ l.length ≤ N) ∧ (∀ m ∈ sub l eo n, U32 m.i) ∧ Regs r) (.ret (.v (.agg [.arr 0 32 (runOf (sub l eo n) (r.set 0 (0 : Int)))]), [⟨28, [.arr 5 N l], wr⟩]))
  | [(.v (.c .ns)), (.v (.agg [.arr 0 32 r]))], [], _ => .ret (.v (.agg [.arr 0 32 (runOf [] (r.set 0 (0 : Int)))]), [])
  | _, _, _ => .stuck 900⟩
theorem lpok_ir_Run (c : Z.Cx) (ρ0 : List Nat) (W : List Rw) (hR : repR W c.R) (hne : ρ0.length ≤ 1) : LpOK Try.prog cx_ir_Run c ρ0 18 W (codeOf Try.f15) := LpOK.all (ls := [((loopC 3 (codeOf Try.f15)), lp_Run)]) (by kernel_rfl) ⟨⟨(by kernel_rfl), lpc_lp_Run c ρ0 W hR hne⟩, trivial⟩
theorem ok_ir_Run : ConOK Try.prog 15 con_ir_Run := con_ok (code := (codeOf Try.f15)) (N := 18) (rs := [.cell 4 32]) cx_ir_Run_ok 1 Try.func15 rfl rfl rfl lpok_ir_Run (by
  intro args H W K h hro
  unfold con_ir_Run at h
  simp only at h
  split at h
  · refine ⟨rfl, ?_⟩
    rw [run_ir_Run]
    exact pf_ir_Run _ _ _ _ _ _ K h
  · refine ⟨rfl, ?_⟩
    rw [run_ir_Run_2]
    exact pf_ir_Run_2 _ _ _ _ _ _ _ K h
  · refine ⟨rfl, ?_⟩
    rw [run_ir_Run_3]
    exact pf_ir_Run_3 _ K h
  · exact h.elim)
noncomputable def lp_Until : LpT := fun e H W => match canE 1 [2, 4, 6, 10, 11, 12] e H, W with
  | some ([(.v (.c (.i .i64 c))), (.v (.c (.p 0 0))), (.v (.c (.p 1 0))), (.v (.c (.rs 0 6 eo n cap A))), (.v (.c (.i .i64 m))), (.v (.c (.i .i64 i)))], [⟨32, [.arr 0 32 r], true⟩, ⟨32, [.arr 0 32 q], true⟩]), ⟨5, l⟩ :: W => .ass ((m = (n : Int) ∧ i = ((0 : Nat) : Int)) ∧ (n ≤ 65536 ∧ eo + n ≤ l.length ∧ l.length ≤ l.length) ∧ (∀ m ∈ sub l eo n, U32 m.i) ∧ Regs r) (.ret (.ex 0, zipE [2, 4, 6, 10, 11, 12] [.v (.c (.i .i64 (c))), .v (.c (.p 0 0)), .v (.c (.p 1 0)), .v (.c (.rs 0 6 eo n cap A)), .v (.c (.i .i64 ((n : Int)))), .v (.c (.i .i64 ((n : Int))))], [⟨32, [.arr 0 32 (untilOf c (sub l eo n) (r))], true⟩, ⟨32, [.arr 0 32 (q)], true⟩]))
  | some ([(.v (.c (.i .i64 c))), (.v (.c (.p 1 0))), (.v (.c (.p 2 0))), (.v (.c (.sl 0 0 6 eo n cap))), (.v (.c (.i .i64 m))), (.v (.c (.i .i64 i)))], [⟨28, [.arr 5 N l], wr⟩, ⟨32, [.arr 0 32 r], true⟩, ⟨32, [.arr 0 32 q], true⟩]), W => .ass ((m = (n : Int) ∧ i = ((0 : Nat) : Int)) ∧ (n ≤ 65536 ∧ eo + n ≤ N ∧ N ≤ l.length ∧ l.length ≤ N) ∧ (∀ m ∈ sub l eo n, U32 m.i) ∧ Regs r) (.ret (.ex 0, zipE [2, 4, 6, 10, 11, 12] [.v (.c (.i .i64 (c))), .v (.c (.p 1 0)), .v (.c (.p 2 0)), .v (.c (.sl 0 0 6 eo n cap)), .v (.c (.i .i64 ((n : Int)))), .v (.c (.i .i64 ((n : Int))))], [⟨28, [.arr 5 N l], wr⟩, ⟨32, [.arr 0 32 (untilOf c (sub l eo n) (r))], true⟩, ⟨32, [.arr 0 32 (q)], true⟩]))
  | some ([(.v (.c (.i .i64 c))), (.v (.c (.p 0 0))), (.v (.c (.p 1 0))), (.v (.c .ns)), (.v (.c (.i .i64 m))), (.v (.c (.i .i64 i)))], [⟨32, [.arr 0 32 r], true⟩, ⟨32, [.arr 0 32 q], true⟩]), W => .ass (m = 0 ∧ i = 0) (.ret (.ex 0, zipE [2, 4, 6, 10, 11, 12] [.v (.c (.i .i64 (c))), .v (.c (.p 0 0)), .v (.c (.p 1 0)), .v (.c .ns), .v (.c (.i .i64 (0))), .v (.c (.i .i64 (0)))], [⟨32, [.arr 0 32 (r)], true⟩, ⟨32, [.arr 0 32 (q)], true⟩]))
  | _, _ => .stuck 901
noncomputable def cx_ir_Until : Ctx := mkCtx tys eqs [(29, con_ir_does)] [(3, lp_Until)]
theorem cx_ir_Until_ok : CtxOK Try.prog cx_ir_Until := mkCtx_ok _ mixed tys_ok eqs_ok ⟨⟨ok_ir_does, Try.call29⟩, trivial⟩
noncomputable def outr_lp_Until (c : Int) (eo : Nat) (n : Nat) (cap : Nat) (A : Option Addr) (m : Int) (i : Int) (r : List (Sh 0)) (q : List (Sh 0)) (l : List (Sh 5)) : Tr (X × List SV × List Bk) :=
Tr.ite (decide (i < m))
 (Tr.ass ((0 : Int) ≤ i ∧ i < (↑n : Int))
 (Tr.ass (eo + Int.toNat i < List.length l)
 (Tr.ite (decide (Mic.c (List.getD l (eo + Int.toNat i) (Mic.mk (0 : Int) (0 : Int) (0 : Int) (0 : Int) (0 : Int) (0 : Int))) ≤ c))
 (Tr.ass (Z.U32 (Mic.i (List.getD l (eo + Int.toNat i) (Mic.mk (0 : Int) (0 : Int) (0 : Int) (0 : Int) (0 : Int) (0 : Int)))) ∧ Z.Regs r)
 (Tr.ret
 (X.nor,
 [SV.v (V1.c (Sc.i IntKind.i64 c)), SV.v (V1.c (Sc.p (nat_lit 0) (nat_lit 0))), SV.v (V1.c (Sc.p (nat_lit 1) (nat_lit 0))),
 SV.v (V1.c (Sc.rs (nat_lit 0) (nat_lit 6) eo n cap A)), SV.v (V1.c (Sc.i IntKind.i64 m)),
 SV.v (V1.c (Sc.i IntKind.i64 (IntKind.wrap IntKind.i64 (i + (1 : Int)))))],
 [Bk.mk (nat_lit 32)
 [Seg.arr (nat_lit 0) (nat_lit 32) (X.doesOf (List.getD l (eo + Int.toNat i) (Mic.mk (0 : Int) (0 : Int) (0 : Int) (0 : Int) (0 : Int) (0 : Int))) r)] true,
 Bk.mk (nat_lit 32) [Seg.arr (nat_lit 0) (nat_lit 32) q] true])))
 (Tr.ret
 (X.nor,
 [SV.v (V1.c (Sc.i IntKind.i64 c)), SV.v (V1.c (Sc.p (nat_lit 0) (nat_lit 0))), SV.v (V1.c (Sc.p (nat_lit 1) (nat_lit 0))),
 SV.v (V1.c (Sc.rs (nat_lit 0) (nat_lit 6) eo n cap A)), SV.v (V1.c (Sc.i IntKind.i64 m)),
 SV.v (V1.c (Sc.i IntKind.i64 (IntKind.wrap IntKind.i64 (i + (1 : Int)))))],
 [Bk.mk (nat_lit 32) [Seg.arr (nat_lit 0) (nat_lit 32) r] true, Bk.mk (nat_lit 32) [Seg.arr (nat_lit 0) (nat_lit 32) q] true])))))
 (Tr.ret
 (X.ex (nat_lit 0),
 [SV.v (V1.c (Sc.i IntKind.i64 c)), SV.v (V1.c (Sc.p (nat_lit 0) (nat_lit 0))), SV.v (V1.c (Sc.p (nat_lit 1) (nat_lit 0))),
 SV.v (V1.c (Sc.rs (nat_lit 0) (nat_lit 6) eo n cap A)), SV.v (V1.c (Sc.i IntKind.i64 m)), SV.v (V1.c (Sc.i IntKind.i64 i))],
 [Bk.mk (nat_lit 32) [Seg.arr (nat_lit 0) (nat_lit 32) r] true, Bk.mk (nat_lit 32) [Seg.arr (nat_lit 0) (nat_lit 32) q] true]))

theorem rnd_lp_Until (c : Int) (eo : Nat) (n : Nat) (cap : Nat) (A : Option Addr) (m : Int) (i : Int) (r : List (Sh 0)) (q : List (Sh 0)) (l : List (Sh 5)) (W : List Rw) : rnd cx_ir_Until 24 (⟨5, l⟩ :: W) (loopC 3 (codeOf Try.f16)) [2, 4, 6, 10, 11, 12] 1 (zipE [2, 4, 6, 10, 11, 12] [(.v (.c (.i .i64 c))), (.v (.c (.p 0 0))), (.v (.c (.p 1 0))), (.v (.c (.rs 0 6 eo n cap A))), (.v (.c (.i .i64 m))), (.v (.c (.i .i64 i)))]) [⟨32, [.arr 0 32 r], true⟩, ⟨32, [.arr 0 32 q], true⟩] = outr_lp_Until c eo n cap A m i r q l := by kernel_rfl
noncomputable def outr_lp_Until_2 (c : Int) (eo : Nat) (n : Nat) (cap : Nat) (m : Int) (i : Int) (wr : Bool) (N : Nat) (l : List (Sh 5)) (r : List (Sh 0)) (q : List (Sh 0)) : Tr (X × List SV × List Bk) :=
Tr.ite (decide (i < m))
 (Tr.ass ((0 : Int) ≤ i ∧ i < (↑n : Int))
 (Tr.ass (eo + Int.toNat i < N)
 (Tr.ite (decide (Mic.c (List.getD l (eo + Int.toNat i) (Mic.mk (0 : Int) (0 : Int) (0 : Int) (0 : Int) (0 : Int) (0 : Int))) ≤ c))
 (Tr.ass (Z.U32 (Mic.i (List.getD l (eo + Int.toNat i) (Mic.mk (0 : Int) (0 : Int) (0 : Int) (0 : Int) (0 : Int) (0 : Int)))) ∧ Z.Regs r)
 (Tr.ret
 (X.nor,
 [SV.v (V1.c (Sc.i IntKind.i64 c)), SV.v (V1.c (Sc.p (nat_lit 1) (nat_lit 0))), SV.v (V1.c (Sc.p (nat_lit 2) (nat_lit 0))),
 SV.v (V1.c (Sc.sl (nat_lit 0) (nat_lit 0) (nat_lit 6) eo n cap)), SV.v (V1.c (Sc.i IntKind.i64 m)),
 SV.v (V1.c (Sc.i IntKind.i64 (IntKind.wrap IntKind.i64 (i + (1 : Int)))))],
 [Bk.mk (nat_lit 28) [Seg.arr (nat_lit 5) N l] wr,
 Bk.mk (nat_lit 32)
 [Seg.arr (nat_lit 0) (nat_lit 32) (X.doesOf (List.getD l (eo + Int.toNat i) (Mic.mk (0 : Int) (0 : Int) (0 : Int) (0 : Int) (0 : Int) (0 : Int))) r)] true,
 Bk.mk (nat_lit 32) [Seg.arr (nat_lit 0) (nat_lit 32) q] true])))
 (Tr.ret
 (X.nor,
 [SV.v (V1.c (Sc.i IntKind.i64 c)), SV.v (V1.c (Sc.p (nat_lit 1) (nat_lit 0))), SV.v (V1.c (Sc.p (nat_lit 2) (nat_lit 0))),
 SV.v (V1.c (Sc.sl (nat_lit 0) (nat_lit 0) (nat_lit 6) eo n cap)), SV.v (V1.c (Sc.i IntKind.i64 m)),
 SV.v (V1.c (Sc.i IntKind.i64 (IntKind.wrap IntKind.i64 (i + (1 : Int)))))],
 [Bk.mk (nat_lit 28) [Seg.arr (nat_lit 5) N l] wr, Bk.mk (nat_lit 32) [Seg.arr (nat_lit 0) (nat_lit 32) r] true,
 Bk.mk (nat_lit 32) [Seg.arr (nat_lit 0) (nat_lit 32) q] true])))))
 (Tr.ret
 (X.ex (nat_lit 0),
 [SV.v (V1.c (Sc.i IntKind.i64 c)), SV.v (V1.c (Sc.p (nat_lit 1) (nat_lit 0))), SV.v (V1.c (Sc.p (nat_lit 2) (nat_lit 0))),
 SV.v (V1.c (Sc.sl (nat_lit 0) (nat_lit 0) (nat_lit 6) eo n cap)), SV.v (V1.c (Sc.i IntKind.i64 m)), SV.v (V1.c (Sc.i IntKind.i64 i))],
 [Bk.mk (nat_lit 28) [Seg.arr (nat_lit 5) N l] wr, Bk.mk (nat_lit 32) [Seg.arr (nat_lit 0) (nat_lit 32) r] true,
 Bk.mk (nat_lit 32) [Seg.arr (nat_lit 0) (nat_lit 32) q] true]))

theorem rnd_lp_Until_2 (c : Int) (eo : Nat) (n : Nat) (cap : Nat) (m : Int) (i : Int) (wr : Bool) (N : Nat) (l : List (Sh 5)) (r : List (Sh 0)) (q : List (Sh 0)) (W : List Rw) : rnd cx_ir_Until 24 W (loopC 3 (codeOf Try.f16)) [2, 4, 6, 10, 11, 12] 1 (zipE [2, 4, 6, 10, 11, 12] [(.v (.c (.i .i64 c))), (.v (.c (.p 1 0))), (.v (.c (.p 2 0))), (.v (.c (.sl 0 0 6 eo n cap))), (.v (.c (.i .i64 m))), (.v (.c (.i .i64 i)))]) [⟨28, [.arr 5 N l], wr⟩, ⟨32, [.arr 0 32 r], true⟩, ⟨32, [.arr 0 32 q], true⟩] = outr_lp_Until_2 c eo n cap m i wr N l r q := by kernel_rfl
noncomputable def outr_lp_Until_3 (c : Int) (m : Int) (i : Int) (r : List (Sh 0)) (q : List (Sh 0)) : Tr (X × List SV × List Bk) :=
Tr.ite (decide (i < m)) (Tr.stuck (nat_lit 126))
 (Tr.ret
 (X.ex (nat_lit 0),
 [SV.v (V1.c (Sc.i IntKind.i64 c)), SV.v (V1.c (Sc.p (nat_lit 0) (nat_lit 0))), SV.v (V1.c (Sc.p (nat_lit 1) (nat_lit 0))),
 SV.v (V1.c Sc.ns), SV.v (V1.c (Sc.i IntKind.i64 m)), SV.v (V1.c (Sc.i IntKind.i64 i))],
 [Bk.mk (nat_lit 32) [Seg.arr (nat_lit 0) (nat_lit 32) r] true, Bk.mk (nat_lit 32) [Seg.arr (nat_lit 0) (nat_lit 32) q] true]))

theorem rnd_lp_Until_3 (c : Int) (m : Int) (i : Int) (r : List (Sh 0)) (q : List (Sh 0)) (W : List Rw) : rnd cx_ir_Until 24 W (loopC 3 (codeOf Try.f16)) [2, 4, 6, 10, 11, 12] 1 (zipE [2, 4, 6, 10, 11, 12] [(.v (.c (.i .i64 c))), (.v (.c (.p 0 0))), (.v (.c (.p 1 0))), (.v (.c .ns)), (.v (.c (.i .i64 m))), (.v (.c (.i .i64 i)))]) [⟨32, [.arr 0 32 r], true⟩, ⟨32, [.arr 0 32 q], true⟩] = outr_lp_Until_3 c m i r q := by kernel_rfl
theorem lpp_lp_Until {c0 : Z.Cx} {ρ0 : List Nat} (c : Int) (eo : Nat) (n : Nat) (cap : Nat) (A : Option Addr) (m : Int) (i : Int) (r : List (Sh 0)) (q : List (Sh 0)) (l : List (Sh 5)) (W : List Rw) (hR : repR (⟨5, l⟩ :: W) c0.R) (hne : ρ0.length ≤ 1) {Q : Exit → Act → World → Prop} {e : Env} {H : List Bk} (hsel : canE 1 [2, 4, 6, 10, 11, 12] e H = some ([(.v (.c (.i .i64 c))), (.v (.c (.p 0 0))), (.v (.c (.p 1 0))), (.v (.c (.rs 0 6 eo n cap A))), (.v (.c (.i .i64 m))), (.v (.c (.i .i64 i)))], [⟨32, [.arr 0 32 r], true⟩, ⟨32, [.arr 0 32 q], true⟩])) (h : (.ass ((m = (n : Int) ∧ i = ((0 : Nat) : Int)) ∧ (n ≤ 65536 ∧ eo + n ≤ l.length ∧ l.length ≤ l.length) ∧ (∀ m ∈ sub l eo n, U32 m.i) ∧ Regs r) (.ret (.ex 0, zipE [2, 4, 6, 10, 11, 12] [.v (.c (.i .i64 (c))), .v (.c (.p 0 0)), .v (.c (.p 1 0)), .v (.c (.rs 0 6 eo n cap A)), .v (.c (.i .i64 ((n : Int)))), .v (.c (.i .i64 ((n : Int))))], [⟨32, [.arr 0 32 (untilOf c (sub l eo n) (r))], true⟩, ⟨32, [.arr 0 32 (q)], true⟩])) : Tr (X × Env × List Bk)).all (fun y => YE c0 ρ0 Q 24 (toX y.1) y.2.1 y.2.2)) : YC Try.prog c0 ρ0 Q 24 (.loop (loopC 3 (codeOf Try.f16))) e H := by
  obtain ⟨hp, h⟩ := h
  replace h := h hp
  obtain ⟨⟨rfl, rfl⟩, hN, hm, hr⟩ := hp
  have hle : eo + n ≤ l.length := by omega
  refine YC.canon hne hsel ?_
  have key := loop_sound (P := Try.prog) (c := c0) (ρ0 := ρ0) (N := 24) (Q := Q) cx_ir_Until_ok hR (LpOK.no (by kernel_rfl)) [2, 4, 6, 10, 11, 12] 1 hne (σ := Nat) (body := (loopC 3 (codeOf Try.f16))) (fun s => [.v (.c (.i .i64 (c))), .v (.c (.p 0 0)), .v (.c (.p 1 0)), .v (.c (.rs 0 6 eo n cap A)), .v (.c (.i .i64 ((n : Int)))), .v (.c (.i .i64 ((s : Int))))]) (fun s => [⟨32, [.arr 0 32 (untilOf c ((sub l eo n).take s) (r))], true⟩, ⟨32, [.arr 0 32 (q)], true⟩]) (fun s => s ≤ n) (fun s => n - s) (fun y => y = (.ex 0, [.v (.c (.i .i64 (c))), .v (.c (.p 0 0)), .v (.c (.p 1 0)), .v (.c (.rs 0 6 eo n cap A)), .v (.c (.i .i64 ((n : Int)))), .v (.c (.i .i64 ((n : Int))))], [⟨32, [.arr 0 32 (untilOf c (sub l eo n) (r))], true⟩, ⟨32, [.arr 0 32 (q)], true⟩])) ?round ?post 0 (by omega)
  case round =>
    intro s hI
    rw [rnd_lp_Until]
    unfold outr_lp_Until
    simp only [Tr.all]
    have hlt : s < n → (∀ x, U32 (l.getD (eo + s) x).i) := fun h1 x => sub_mem (p := fun m => U32 m.i) hm hle h1
    have hrs := untilOf_regs (n := c) (fun m hx => hm m (List.mem_of_mem_take hx)) hr (l := (sub l eo n).take s)
    rw [show eo + ((s : Nat) : Int).toNat = eo + s by omega]
    refine ⟨fun hc => ?_, fun hc => Or.inr ⟨nofun, ?_⟩⟩
    · have hc := of_decide_eq_true hc
      have hc : s < n := by omega
      rw [Z.wI64 (z := (s : Int) + 1) (by omega)]
      refine ⟨by omega, fun _ => ⟨by omega, fun _ => ⟨fun h1 => ⟨⟨hlt hc _, hrs⟩, fun _ => Or.inl ⟨trivial, s + 1, by omega, by omega, rfl, ?_⟩⟩, fun h1 => Or.inl ⟨trivial, s + 1, by omega, by omega, rfl, ?_⟩⟩⟩⟩
      · rw [sub_step (d := ⟨0, 0, 0, 0, 0, 0⟩) hle hc, untilOf_snoc, if_pos (of_decide_eq_true h1)]
        try rfl
      · rw [sub_step (d := ⟨0, 0, 0, 0, 0, 0⟩) hle hc, untilOf_snoc, if_neg (of_decide_eq_false h1)]
    · have hc := of_decide_eq_false hc
      obtain rfl : s = n := by omega
      rw [sub_take hle]
  case post =>
    intro y hy hp
    subst hp
    exact h
  exact key
theorem lpp_lp_Until_2 {c0 : Z.Cx} {ρ0 : List Nat} (c : Int) (eo : Nat) (n : Nat) (cap : Nat) (m : Int) (i : Int) (wr : Bool) (N : Nat) (l : List (Sh 5)) (r : List (Sh 0)) (q : List (Sh 0)) (W : List Rw) (hR : repR W c0.R) (hne : ρ0.length ≤ 1) {Q : Exit → Act → World → Prop} {e : Env} {H : List Bk} (hsel : canE 1 [2, 4, 6, 10, 11, 12] e H = some ([(.v (.c (.i .i64 c))), (.v (.c (.p 1 0))), (.v (.c (.p 2 0))), (.v (.c (.sl 0 0 6 eo n cap))), (.v (.c (.i .i64 m))), (.v (.c (.i .i64 i)))], [⟨28, [.arr 5 N l], wr⟩, ⟨32, [.arr 0 32 r], true⟩, ⟨32, [.arr 0 32 q], true⟩])) (h : (.ass ((m = (n : Int) ∧ i = ((0 : Nat) : Int)) ∧ (n ≤ 65536 ∧ eo + n ≤ N ∧ N ≤ l.length ∧ l.length ≤ N) ∧ (∀ m ∈ sub l eo n, U32 m.i) ∧ Regs r) (.ret (.ex 0, zipE [2, 4, 6, 10, 11, 12] [.v (.c (.i .i64 (c))), .v (.c (.p 1 0)), .v (.c (.p 2 0)), .v (.c (.sl 0 0 6 eo n cap)), .v (.c (.i .i64 ((n : Int)))), .v (.c (.i .i64 ((n : Int))))], [⟨28, [.arr 5 N l], wr⟩, ⟨32, [.arr 0 32 (untilOf c (sub l eo n) (r))], true⟩, ⟨32, [.arr 0 32 (q)], true⟩])) : Tr (X × Env × List Bk)).all (fun y => YE c0 ρ0 Q 24 (toX y.1) y.2.1 y.2.2)) : YC Try.prog c0 ρ0 Q 24 (.loop (loopC 3 (codeOf Try.f16))) e H := by
  obtain ⟨hp, h⟩ := h
  replace h := h hp
  obtain ⟨⟨rfl, rfl⟩, hN, hm, hr⟩ := hp
  have hle : eo + n ≤ l.length := by omega
  refine YC.canon hne hsel ?_
  have key := loop_sound (P := Try.prog) (c := c0) (ρ0 := ρ0) (N := 24) (Q := Q) cx_ir_Until_ok hR (LpOK.no (by kernel_rfl)) [2, 4, 6, 10, 11, 12] 1 hne (σ := Nat) (body := (loopC 3 (codeOf Try.f16))) (fun s => [.v (.c (.i .i64 (c))), .v (.c (.p 1 0)), .v (.c (.p 2 0)), .v (.c (.sl 0 0 6 eo n cap)), .v (.c (.i .i64 ((n : Int)))), .v (.c (.i .i64 ((s : Int))))]) (fun s => [⟨28, [.arr 5 N l], wr⟩, ⟨32, [.arr 0 32 (untilOf c ((sub l eo n).take s) (r))], true⟩, ⟨32, [.arr 0 32 (q)], true⟩]) (fun s => s ≤ n) (fun s => n - s) (fun y => y = (.ex 0, [.v (.c (.i .i64 (c))), .v (.c (.p 1 0)), .v (.c (.p 2 0)), .v (.c (.sl 0 0 6 eo n cap)), .v (.c (.i .i64 ((n : Int)))), .v (.c (.i .i64 ((n : Int))))], [⟨28, [.arr 5 N l], wr⟩, ⟨32, [.arr 0 32 (untilOf c (sub l eo n) (r))], true⟩, ⟨32, [.arr 0 32 (q)], true⟩])) ?round ?post 0 (by omega)
  case round =>
    intro s hI
    rw [rnd_lp_Until_2]
    unfold outr_lp_Until_2
    simp only [Tr.all]
    have hlt : s < n → (∀ x, U32 (l.getD (eo + s) x).i) := fun h1 x => sub_mem (p := fun m => U32 m.i) hm hle h1
    have hrs := untilOf_regs (n := c) (fun m hx => hm m (List.mem_of_mem_take hx)) hr (l := (sub l eo n).take s)
    rw [show eo + ((s : Nat) : Int).toNat = eo + s by omega]
    refine ⟨fun hc => ?_, fun hc => Or.inr ⟨nofun, ?_⟩⟩
    · have hc := of_decide_eq_true hc
      have hc : s < n := by omega
      rw [Z.wI64 (z := (s : Int) + 1) (by omega)]
      refine ⟨by omega, fun _ => ⟨by omega, fun _ => ⟨fun h1 => ⟨⟨hlt hc _, hrs⟩, fun _ => Or.inl ⟨trivial, s + 1, by omega, by omega, rfl, ?_⟩⟩, fun h1 => Or.inl ⟨trivial, s + 1, by omega, by omega, rfl, ?_⟩⟩⟩⟩
      · rw [sub_step (d := ⟨0, 0, 0, 0, 0, 0⟩) hle hc, untilOf_snoc, if_pos (of_decide_eq_true h1)]
        try rfl
      · rw [sub_step (d := ⟨0, 0, 0, 0, 0, 0⟩) hle hc, untilOf_snoc, if_neg (of_decide_eq_false h1)]
    · have hc := of_decide_eq_false hc
      obtain rfl : s = n := by omega
      rw [sub_take hle]
  case post =>
    intro y hy hp
    subst hp
    exact h
  exact key
theorem lpp_lp_Until_3 {c0 : Z.Cx} {ρ0 : List Nat} (c : Int) (m : Int) (i : Int) (r : List (Sh 0)) (q : List (Sh 0)) (W : List Rw) (hR : repR W c0.R) (hne : ρ0.length ≤ 1) {Q : Exit → Act → World → Prop} {e : Env} {H : List Bk} (hsel : canE 1 [2, 4, 6, 10, 11, 12] e H = some ([(.v (.c (.i .i64 c))), (.v (.c (.p 0 0))), (.v (.c (.p 1 0))), (.v (.c .ns)), (.v (.c (.i .i64 m))), (.v (.c (.i .i64 i)))], [⟨32, [.arr 0 32 r], true⟩, ⟨32, [.arr 0 32 q], true⟩])) (h : (.ass (m = 0 ∧ i = 0) (.ret (.ex 0, zipE [2, 4, 6, 10, 11, 12] [.v (.c (.i .i64 (c))), .v (.c (.p 0 0)), .v (.c (.p 1 0)), .v (.c .ns), .v (.c (.i .i64 (0))), .v (.c (.i .i64 (0)))], [⟨32, [.arr 0 32 (r)], true⟩, ⟨32, [.arr 0 32 (q)], true⟩])) : Tr (X × Env × List Bk)).all (fun y => YE c0 ρ0 Q 24 (toX y.1) y.2.1 y.2.2)) : YC Try.prog c0 ρ0 Q 24 (.loop (loopC 3 (codeOf Try.f16))) e H := by
  obtain ⟨hp, h⟩ := h
  replace h := h hp
  obtain ⟨rfl, rfl⟩ := hp
  refine YC.canon hne hsel ?_
  have key := loop_sound (P := Try.prog) (c := c0) (ρ0 := ρ0) (N := 24) (Q := Q) cx_ir_Until_ok hR (LpOK.no (by kernel_rfl)) [2, 4, 6, 10, 11, 12] 1 hne (σ := Unit) (body := (loopC 3 (codeOf Try.f16))) (fun _ => [.v (.c (.i .i64 (c))), .v (.c (.p 0 0)), .v (.c (.p 1 0)), .v (.c .ns), .v (.c (.i .i64 (0))), .v (.c (.i .i64 (0)))]) (fun _ => [⟨32, [.arr 0 32 (r)], true⟩, ⟨32, [.arr 0 32 (q)], true⟩]) (fun _ => True) (fun _ => 0) (fun y => y = (.ex 0, [.v (.c (.i .i64 (c))), .v (.c (.p 0 0)), .v (.c (.p 1 0)), .v (.c .ns), .v (.c (.i .i64 (0))), .v (.c (.i .i64 (0)))], [⟨32, [.arr 0 32 (r)], true⟩, ⟨32, [.arr 0 32 (q)], true⟩])) ?round ?post () trivial
  case round =>
    intro s hI
    rw [rnd_lp_Until_3]
    unfold outr_lp_Until_3
    simp only [Tr.all]
    exact ⟨fun hc => absurd hc (by decide), fun _ => Or.inr ⟨nofun, trivial⟩⟩
  case post =>
    intro y hy hp
    subst hp
    exact h
  exact key
theorem lpc_lp_Until (c : Z.Cx) (ρ0 : List Nat) (W : List Rw) (hR : repR W c.R) (hne : ρ0.length ≤ 1) : ∀ Q e H, (lp_Until e H W).all (fun y => YE c ρ0 Q 24 (toX y.1) y.2.1 y.2.2) → YC Try.prog c ρ0 Q 24 (.loop (loopC 3 (codeOf Try.f16))) e H := by
  intro Q e H h
  unfold lp_Until at h
  (try simp only at h)
  split at h
  · rename_i heq
    exact lpp_lp_Until _ _ _ _ _ _ _ _ _ _ _ hR hne (by assumption) h
  · rename_i heq
    exact lpp_lp_Until_2 _ _ _ _ _ _ _ _ _ _ _ _ hR hne (by assumption) h
  · rename_i heq
    exact lpp_lp_Until_3 _ _ _ _ _ _ hR hne (by assumption) h
  · exact h.elim
noncomputable def out_ir_Until (eo : Nat) (n : Nat) (cap : Nat) (A : Option Addr) (r : List (Sh 0)) (c : Int) (l : List (Sh 5)) : Tr (SV × List Bk) :=
Tr.ass ((0 : Int) ≤ (0 : Int) ∧ (0 : Int) < (↑(32 : Nat) : Int))
 (Tr.ass (Int.toNat (0 : Int) < (32 : Nat))
 (Tr.ass
 (((↑n : Int) = (↑n : Int) ∧ (0 : Int) = (↑(0 : Nat) : Int)) ∧
 (n ≤ (65536 : Nat) ∧ eo + n ≤ List.length l ∧ List.length l ≤ List.length l) ∧
 (∀ (m : Sh (5 : Nat)), m ∈ X.sub l eo n → Z.U32 (Mic.i m)) ∧ Z.Regs (List.set r (Int.toNat (0 : Int)) (0 : Int)))
 (Tr.ret (SV.v (V1.agg [Seg.arr (nat_lit 0) (nat_lit 32) (X.untilOf c (X.sub l eo n) (List.set r (Int.toNat (0 : Int)) (0 : Int)))]), []))))

theorem run_ir_Until (eo : Nat) (n : Nat) (cap : Nat) (A : Option Addr) (r : List (Sh 0)) (c : Int) (l : List (Sh 5)) (W : List Rw) : runF cx_ir_Until 24 [.cell 6 32] (codeOf Try.f16) [(.v (.c (.rs 0 6 eo n cap A))), (.v (.agg [.arr 0 32 r])), (.v (.c (.i .i64 c)))] [] (⟨5, l⟩ :: W) = out_ir_Until eo n cap A r c l := by kernel_rfl
theorem pf_ir_Until (eo : Nat) (n : Nat) (cap : Nat) (A : Option Addr) (r : List (Sh 0)) (c : Int) (l : List (Sh 5)) (K : SV × List Bk → Prop) (h : (.ass ((n ≤ 65536 ∧ eo + n ≤ l.length ∧ l.length ≤ l.length) ∧ (∀ m ∈ sub l eo n, U32 m.i) ∧ Regs r) (.ret (.v (.agg [.arr 0 32 (untilOf c (sub l eo n) (r.set 0 (0 : Int)))]), [])) : Tr (SV × List Bk)).all K) : (out_ir_Until eo n cap A r c l).all K := by
  obtain ⟨hp, h⟩ := h
  replace h := h hp
  replace h : K _ := h
  obtain ⟨hN, hm, hr⟩ := hp
  have hr0 : Regs (r.set 0 (0 : Int)) := hr.set _ (by decide)
  unfold out_ir_Until
  simp only [Tr.all]
  exact ⟨by decide, fun _ => ⟨by decide, fun _ => ⟨⟨⟨trivial, rfl⟩, hN, hm, hr0⟩, fun _ => h⟩⟩⟩
noncomputable def out_ir_Until_2 (eo : Nat) (n : Nat) (cap : Nat) (r : List (Sh 0)) (c : Int) (wr : Bool) (N : Nat) (l : List (Sh 5)) : Tr (SV × List Bk) :=
Tr.ass ((0 : Int) ≤ (0 : Int) ∧ (0 : Int) < (↑(32 : Nat) : Int))
 (Tr.ass (Int.toNat (0 : Int) < (32 : Nat))
 (Tr.ass
 (((↑n : Int) = (↑n : Int) ∧ (0 : Int) = (↑(0 : Nat) : Int)) ∧
 (n ≤ (65536 : Nat) ∧ eo + n ≤ N ∧ N ≤ List.length l ∧ List.length l ≤ N) ∧
 (∀ (m : Sh (5 : Nat)), m ∈ X.sub l eo n → Z.U32 (Mic.i m)) ∧ Z.Regs (List.set r (Int.toNat (0 : Int)) (0 : Int)))
 (Tr.ret
 (SV.v (V1.agg [Seg.arr (nat_lit 0) (nat_lit 32) (X.untilOf c (X.sub l eo n) (List.set r (Int.toNat (0 : Int)) (0 : Int)))]),
 [Bk.mk (nat_lit 28) [Seg.arr (nat_lit 5) N l] wr]))))

theorem run_ir_Until_2 (eo : Nat) (n : Nat) (cap : Nat) (r : List (Sh 0)) (c : Int) (wr : Bool) (N : Nat) (l : List (Sh 5)) (W : List Rw) : runF cx_ir_Until 24 [.cell 6 32] (codeOf Try.f16) [(.v (.c (.sl 0 0 6 eo n cap))), (.v (.agg [.arr 0 32 r])), (.v (.c (.i .i64 c)))] [⟨28, [.arr 5 N l], wr⟩] W = out_ir_Until_2 eo n cap r c wr N l := by kernel_rfl
theorem pf_ir_Until_2 (eo : Nat) (n : Nat) (cap : Nat) (r : List (Sh 0)) (c : Int) (wr : Bool) (N : Nat) (l : List (Sh 5)) (K : SV × List Bk → Prop) (h : (.ass ((n ≤ 65536 ∧ eo + n ≤ N ∧ N ≤ l.length ∧ l.length ≤ N) ∧ (∀ m ∈ sub l eo n, U32 m.i) ∧ Regs r) (.ret (.v (.agg [.arr 0 32 (untilOf c (sub l eo n) (r.set 0 (0 : Int)))]), [⟨28, [.arr 5 N l], wr⟩])) : Tr (SV × List Bk)).all K) : (out_ir_Until_2 eo n cap r c wr N l).all K := by
  obtain ⟨hp, h⟩ := h
  replace h := h hp
  replace h : K _ := h
  obtain ⟨hN, hm, hr⟩ := hp
  have hr0 : Regs (r.set 0 (0 : Int)) := hr.set _ (by decide)
  unfold out_ir_Until_2
  simp only [Tr.all]
  exact ⟨by decide, fun _ => ⟨by decide, fun _ => ⟨⟨⟨trivial, rfl⟩, hN, hm, hr0⟩, fun _ => h⟩⟩⟩
noncomputable def out_ir_Until_3 (r : List (Sh 0)) (c : Int) : Tr (SV × List Bk) :=
Tr.ass ((0 : Int) ≤ (0 : Int) ∧ (0 : Int) < (↑(32 : Nat) : Int))
 (Tr.ass (Int.toNat (0 : Int) < (32 : Nat))
 (Tr.ass ((0 : Int) = (0 : Int) ∧ (0 : Int) = (0 : Int)) (Tr.ret (SV.v (V1.agg [Seg.arr (nat_lit 0) (nat_lit 32) (List.set r (Int.toNat (0 : Int)) (0 : Int))]), []))))

theorem run_ir_Until_3 (r : List (Sh 0)) (c : Int) (W : List Rw) : runF cx_ir_Until 24 [.cell 6 32] (codeOf Try.f16) [(.v (.c .ns)), (.v (.agg [.arr 0 32 r])), (.v (.c (.i .i64 c)))] [] W = out_ir_Until_3 r c := by kernel_rfl
theorem pf_ir_Until_3 (r : List (Sh 0)) (c : Int) (K : SV × List Bk → Prop) (h : (.ret (.v (.agg [.arr 0 32 (untilOf c [] (r.set 0 (0 : Int)))]), []) : Tr (SV × List Bk)).all K) : (out_ir_Until_3 r c).all K := by
  replace h : K _ := h
  unfold out_ir_Until_3
  simp only [Tr.all]
  exact ⟨by decide, fun _ => ⟨by decide, fun _ => ⟨⟨trivial, trivial⟩, fun _ => h⟩⟩⟩
noncomputable def con_ir_Until : Con := ⟨true, fun args H W => match args, H, W with
  | [(.v (.c (.rs 0 6 eo n cap A))), (.v (.agg [.arr 0 32 r])), (.v (.c (.i .i64 c)))], [], ⟨5, l⟩ :: W => .ass ((n ≤ 65536 ∧ eo + n ≤ l.length ∧ l.length ≤ l.length) ∧ (∀ m ∈ sub l eo n, U32 m.i) ∧ Regs r) (.ret (.v (.agg [.arr 0 32 (untilOf c (sub l eo n) (r.set 0 (0 : Int)))]), []))
  | [(.v (.c (.sl 0 0 6 eo n cap))), (.v (.agg [.arr 0 32 r])), (.v (.c (.i .i64 c)))], [⟨28, [.arr 5 N l], wr⟩], _ => .ass ((n ≤ 65536 ∧ eo + n ≤ N ∧ N ≤ l.length ∧ l.length ≤ N) ∧ (∀ m ∈ sub l eo n, U32 m.i) ∧ Regs r) (.ret (.v (.agg [.arr 0 32 (untilOf c (sub l eo n) (r.set 0 (0 : Int)))]), [⟨28, [.arr 5 N l], wr⟩]))
  | [(.v (.c .ns)), (.v (.agg [.arr 0 32 r])), (.v (.c (.i .i64 c)))], [], _ => .ret (.v (.agg [.arr 0 32 (untilOf c [] (r.set 0 (0 : Int)))]), [])
  | _, _, _ => .stuck 900⟩
theorem lpok_ir_Until (c : Z.Cx) (ρ0 : List Nat) (W : List Rw) (hR : repR W c.R) (hne : ρ0.length ≤ 1) : LpOK Try.prog cx_ir_Until c ρ0 24 W (codeOf Try.f16) := LpOK.all (ls := [((loopC 3 (codeOf Try.f16)), lp_Until)]) (by kernel_rfl) ⟨⟨(by kernel_rfl), lpc_lp_Until c ρ0 W hR hne⟩, trivial⟩
theorem ok_ir_Until : ConOK Try.prog 16 con_ir_Until := con_ok (code := (codeOf Try.f16)) (N := 24) (rs := [.cell 6 32]) cx_ir_Until_ok 1 Try.func16 rfl rfl rfl lpok_ir_Until (by
  intro args H W K h hro
  unfold con_ir_Until at h
  simp only at h
  split at h
  · refine ⟨rfl, ?_⟩
    rw [run_ir_Until]
    exact pf_ir_Until _ _ _ _ _ _ _ K h
  · refine ⟨rfl, ?_⟩
    rw [run_ir_Until_2]
    exact pf_ir_Until_2 _ _ _ _ _ _ _ _ K h
  · refine ⟨rfl, ?_⟩
    rw [run_ir_Until_3]
    exact pf_ir_Until_3 _ _ K h
  · exact h.elim)
noncomputable def lp_May : LpT := fun e H W => match canE 1 [0, 2, 3, 6, 7, 8] e H, W with
  | some ([(.v (.c (.rs 0 6 eo n cap A))), (.v (.c (.b z))), (.v (.c (.i .i64 t))), (.v (.c (.rs 0 6 eo2 n2 cap2 A2))), (.v (.c (.i .i64 m))), (.v (.c (.i .i64 i)))], []), ⟨5, l⟩ :: W => .ass ((z = false ∧ t = lastC [] ∧ (eo = eo2 ∧ n = n2 ∧ cap = cap2 ∧ A = A2) ∧ m = (n : Int) ∧ i = ((0 : Nat) : Int)) ∧ (n ≤ 65536 ∧ eo + n ≤ l.length ∧ l.length ≤ l.length)) (.ite (mayL 0 (sub l eo n)) (.ret (.ex 0, [(0, .v (.c (.rs 0 6 eo n cap A)))], [])) (.ret (.ret, [(2, .v (.c (.b false)))], [])))
  | some ([(.v (.c (.sl 0 0 6 eo n cap))), (.v (.c (.b z))), (.v (.c (.i .i64 t))), (.v (.c (.sl 0 0 6 eo2 n2 cap2))), (.v (.c (.i .i64 m))), (.v (.c (.i .i64 i)))], [⟨28, [.arr 5 N l], wr⟩]), W => .ass ((z = false ∧ t = lastC [] ∧ (eo = eo2 ∧ n = n2 ∧ cap = cap2) ∧ m = (n : Int) ∧ i = ((0 : Nat) : Int)) ∧ (n ≤ 65536 ∧ eo + n ≤ N ∧ N ≤ l.length ∧ l.length ≤ N)) (.ite (mayL 0 (sub l eo n)) (.ret (.ex 0, [(0, .v (.c (.sl 0 0 6 eo n cap)))], [⟨28, [.arr 5 N l], wr⟩])) (.ret (.ret, [(2, .v (.c (.b false)))], [⟨28, [.arr 5 N l], wr⟩])))
  | some ([(.v (.c .ns)), (.v (.c (.b z))), (.v (.c (.i .i64 t))), (.v (.c .ns)), (.v (.c (.i .i64 m))), (.v (.c (.i .i64 i)))], []), W => .ass (z = false ∧ t = 0 ∧ m = 0 ∧ i = 0) (.ret (.ex 0, [(0, .v (.c .ns))], []))
  | _, _ => .stuck 901
noncomputable def cx_ir_May : Ctx := mkCtx tys eqs [(27, con_ir_fits)] [(3, lp_May)]
theorem cx_ir_May_ok : CtxOK Try.prog cx_ir_May := mkCtx_ok _ mixed tys_ok eqs_ok ⟨⟨ok_ir_fits, Try.call27⟩, trivial⟩
noncomputable def outr_lp_May (eo : Nat) (n : Nat) (cap : Nat) (A : Option Addr) (z : Bool) (t : Int) (eo2 : Nat) (n2 : Nat) (cap2 : Nat) (A2 : Option Addr) (m : Int) (i : Int) (l : List (Sh 5)) : Tr (X × List SV × List Bk) :=
Tr.ite (decide (i < m))
 (Tr.ass ((0 : Int) ≤ i ∧ i < (↑n2 : Int))
 (Tr.ass (eo2 + Int.toNat i < List.length l)
 (Tr.ite
 (bif !decide (X.fitsP (List.getD l (eo2 + Int.toNat i) (Mic.mk (0 : Int) (0 : Int) (0 : Int) (0 : Int) (0 : Int) (0 : Int)))) then true
 else decide (Mic.c (List.getD l (eo2 + Int.toNat i) (Mic.mk (0 : Int) (0 : Int) (0 : Int) (0 : Int) (0 : Int) (0 : Int))) < t))
 (Tr.ret
 (X.ret,
 [SV.v (V1.c (Sc.rs (nat_lit 0) (nat_lit 6) eo n cap A)), SV.v (V1.c (Sc.b false)), SV.v (V1.c (Sc.i IntKind.i64 t)),
 SV.v (V1.c (Sc.rs (nat_lit 0) (nat_lit 6) eo2 n2 cap2 A2)), SV.v (V1.c (Sc.i IntKind.i64 m)), SV.v (V1.c (Sc.i IntKind.i64 i))],
 []))
 (Tr.ret
 (X.nor,
 [SV.v (V1.c (Sc.rs (nat_lit 0) (nat_lit 6) eo n cap A)), SV.v (V1.c (Sc.b z)),
 SV.v (V1.c (Sc.i IntKind.i64 (Mic.c (List.getD l (eo2 + Int.toNat i) (Mic.mk (0 : Int) (0 : Int) (0 : Int) (0 : Int) (0 : Int) (0 : Int)))))),
 SV.v (V1.c (Sc.rs (nat_lit 0) (nat_lit 6) eo2 n2 cap2 A2)), SV.v (V1.c (Sc.i IntKind.i64 m)),
 SV.v (V1.c (Sc.i IntKind.i64 (IntKind.wrap IntKind.i64 (i + (1 : Int)))))],
 [])))))
 (Tr.ret
 (X.ex (nat_lit 0),
 [SV.v (V1.c (Sc.rs (nat_lit 0) (nat_lit 6) eo n cap A)), SV.v (V1.c (Sc.b z)), SV.v (V1.c (Sc.i IntKind.i64 t)),
 SV.v (V1.c (Sc.rs (nat_lit 0) (nat_lit 6) eo2 n2 cap2 A2)), SV.v (V1.c (Sc.i IntKind.i64 m)), SV.v (V1.c (Sc.i IntKind.i64 i))],
 []))

theorem rnd_lp_May (eo : Nat) (n : Nat) (cap : Nat) (A : Option Addr) (z : Bool) (t : Int) (eo2 : Nat) (n2 : Nat) (cap2 : Nat) (A2 : Option Addr) (m : Int) (i : Int) (l : List (Sh 5)) (W : List Rw) : rnd cx_ir_May 27 (⟨5, l⟩ :: W) (loopC 3 (codeOf Try.f13)) [0, 2, 3, 6, 7, 8] 1 (zipE [0, 2, 3, 6, 7, 8] [(.v (.c (.rs 0 6 eo n cap A))), (.v (.c (.b z))), (.v (.c (.i .i64 t))), (.v (.c (.rs 0 6 eo2 n2 cap2 A2))), (.v (.c (.i .i64 m))), (.v (.c (.i .i64 i)))]) [] = outr_lp_May eo n cap A z t eo2 n2 cap2 A2 m i l := by kernel_rfl
noncomputable def outr_lp_May_2 (eo : Nat) (n : Nat) (cap : Nat) (z : Bool) (t : Int) (eo2 : Nat) (n2 : Nat) (cap2 : Nat) (m : Int) (i : Int) (wr : Bool) (N : Nat) (l : List (Sh 5)) : Tr (X × List SV × List Bk) :=
Tr.ite (decide (i < m))
 (Tr.ass ((0 : Int) ≤ i ∧ i < (↑n2 : Int))
 (Tr.ass (eo2 + Int.toNat i < N)
 (Tr.ite
 (bif !decide (X.fitsP (List.getD l (eo2 + Int.toNat i) (Mic.mk (0 : Int) (0 : Int) (0 : Int) (0 : Int) (0 : Int) (0 : Int)))) then true
 else decide (Mic.c (List.getD l (eo2 + Int.toNat i) (Mic.mk (0 : Int) (0 : Int) (0 : Int) (0 : Int) (0 : Int) (0 : Int))) < t))
 (Tr.ret
 (X.ret,
 [SV.v (V1.c (Sc.sl (nat_lit 0) (nat_lit 0) (nat_lit 6) eo n cap)), SV.v (V1.c (Sc.b false)), SV.v (V1.c (Sc.i IntKind.i64 t)),
 SV.v (V1.c (Sc.sl (nat_lit 0) (nat_lit 0) (nat_lit 6) eo2 n2 cap2)), SV.v (V1.c (Sc.i IntKind.i64 m)),
 SV.v (V1.c (Sc.i IntKind.i64 i))],
 [Bk.mk (nat_lit 28) [Seg.arr (nat_lit 5) N l] wr]))
 (Tr.ret
 (X.nor,
 [SV.v (V1.c (Sc.sl (nat_lit 0) (nat_lit 0) (nat_lit 6) eo n cap)), SV.v (V1.c (Sc.b z)),
 SV.v (V1.c (Sc.i IntKind.i64 (Mic.c (List.getD l (eo2 + Int.toNat i) (Mic.mk (0 : Int) (0 : Int) (0 : Int) (0 : Int) (0 : Int) (0 : Int)))))),
 SV.v (V1.c (Sc.sl (nat_lit 0) (nat_lit 0) (nat_lit 6) eo2 n2 cap2)), SV.v (V1.c (Sc.i IntKind.i64 m)),
 SV.v (V1.c (Sc.i IntKind.i64 (IntKind.wrap IntKind.i64 (i + (1 : Int)))))],
 [Bk.mk (nat_lit 28) [Seg.arr (nat_lit 5) N l] wr])))))
 (Tr.ret
 (X.ex (nat_lit 0),
 [SV.v (V1.c (Sc.sl (nat_lit 0) (nat_lit 0) (nat_lit 6) eo n cap)), SV.v (V1.c (Sc.b z)), SV.v (V1.c (Sc.i IntKind.i64 t)),
 SV.v (V1.c (Sc.sl (nat_lit 0) (nat_lit 0) (nat_lit 6) eo2 n2 cap2)), SV.v (V1.c (Sc.i IntKind.i64 m)), SV.v (V1.c (Sc.i IntKind.i64 i))],
 [Bk.mk (nat_lit 28) [Seg.arr (nat_lit 5) N l] wr]))

theorem rnd_lp_May_2 (eo : Nat) (n : Nat) (cap : Nat) (z : Bool) (t : Int) (eo2 : Nat) (n2 : Nat) (cap2 : Nat) (m : Int) (i : Int) (wr : Bool) (N : Nat) (l : List (Sh 5)) (W : List Rw) : rnd cx_ir_May 27 W (loopC 3 (codeOf Try.f13)) [0, 2, 3, 6, 7, 8] 1 (zipE [0, 2, 3, 6, 7, 8] [(.v (.c (.sl 0 0 6 eo n cap))), (.v (.c (.b z))), (.v (.c (.i .i64 t))), (.v (.c (.sl 0 0 6 eo2 n2 cap2))), (.v (.c (.i .i64 m))), (.v (.c (.i .i64 i)))]) [⟨28, [.arr 5 N l], wr⟩] = outr_lp_May_2 eo n cap z t eo2 n2 cap2 m i wr N l := by kernel_rfl
noncomputable def outr_lp_May_3 (z : Bool) (t : Int) (m : Int) (i : Int) : Tr (X × List SV × List Bk) :=
Tr.ite (decide (i < m)) (Tr.stuck (nat_lit 126))
 (Tr.ret
 (X.ex (nat_lit 0),
 [SV.v (V1.c Sc.ns), SV.v (V1.c (Sc.b z)), SV.v (V1.c (Sc.i IntKind.i64 t)), SV.v (V1.c Sc.ns),
 SV.v (V1.c (Sc.i IntKind.i64 m)), SV.v (V1.c (Sc.i IntKind.i64 i))],
 []))

theorem rnd_lp_May_3 (z : Bool) (t : Int) (m : Int) (i : Int) (W : List Rw) : rnd cx_ir_May 27 W (loopC 3 (codeOf Try.f13)) [0, 2, 3, 6, 7, 8] 1 (zipE [0, 2, 3, 6, 7, 8] [(.v (.c .ns)), (.v (.c (.b z))), (.v (.c (.i .i64 t))), (.v (.c .ns)), (.v (.c (.i .i64 m))), (.v (.c (.i .i64 i)))]) [] = outr_lp_May_3 z t m i := by kernel_rfl
theorem lpp_lp_May {c0 : Z.Cx} {ρ0 : List Nat} (eo : Nat) (n : Nat) (cap : Nat) (A : Option Addr) (z : Bool) (t : Int) (eo2 : Nat) (n2 : Nat) (cap2 : Nat) (A2 : Option Addr) (m : Int) (i : Int) (l : List (Sh 5)) (W : List Rw) (hR : repR (⟨5, l⟩ :: W) c0.R) (hne : ρ0.length ≤ 1) {Q : Exit → Act → World → Prop} {e : Env} {H : List Bk} (hsel : canE 1 [0, 2, 3, 6, 7, 8] e H = some ([(.v (.c (.rs 0 6 eo n cap A))), (.v (.c (.b z))), (.v (.c (.i .i64 t))), (.v (.c (.rs 0 6 eo2 n2 cap2 A2))), (.v (.c (.i .i64 m))), (.v (.c (.i .i64 i)))], [])) (h : (.ass ((z = false ∧ t = lastC [] ∧ (eo = eo2 ∧ n = n2 ∧ cap = cap2 ∧ A = A2) ∧ m = (n : Int) ∧ i = ((0 : Nat) : Int)) ∧ (n ≤ 65536 ∧ eo + n ≤ l.length ∧ l.length ≤ l.length)) (.ite (mayL 0 (sub l eo n)) (.ret (.ex 0, [(0, .v (.c (.rs 0 6 eo n cap A)))], [])) (.ret (.ret, [(2, .v (.c (.b false)))], []))) : Tr (X × Env × List Bk)).all (fun y => YE c0 ρ0 Q 27 (toX y.1) y.2.1 y.2.2)) : YC Try.prog c0 ρ0 Q 27 (.loop (loopC 3 (codeOf Try.f13))) e H := by
  obtain ⟨hp, h⟩ := h
  replace h := h hp
  obtain ⟨⟨rfl, rfl, ⟨rfl, rfl, rfl, rfl⟩, rfl, rfl⟩, hN⟩ := hp
  have hle : eo + n ≤ l.length := by omega
  refine YC.canon hne hsel ?_
  have key := loop_sound (P := Try.prog) (c := c0) (ρ0 := ρ0) (N := 27) (Q := Q) cx_ir_May_ok hR (LpOK.no (by kernel_rfl)) [0, 2, 3, 6, 7, 8] 1 hne (σ := Nat) (body := (loopC 3 (codeOf Try.f13))) (fun s => [.v (.c (.rs 0 6 eo n cap A)), .v (.c (.b false)), .v (.c (.i .i64 (lastC ((sub l eo n).take s)))), .v (.c (.rs 0 6 eo n cap A)), .v (.c (.i .i64 ((n : Int)))), .v (.c (.i .i64 ((s : Int))))]) (fun _ => []) (fun s => s ≤ n ∧ mayL 0 ((sub l eo n).take s) = true) (fun s => n - s) (fun y => (mayL 0 (sub l eo n) = false ∧ ∃ x u, y = (.ret, [.v (.c (.rs 0 6 eo n cap A)), .v (.c (.b false)), .v (.c (.i .i64 (x))), .v (.c (.rs 0 6 eo n cap A)), .v (.c (.i .i64 ((n : Int)))), .v (.c (.i .i64 (u)))], [])) ∨ (mayL 0 (sub l eo n) = true ∧ ∃ x u, y = (.ex 0, [.v (.c (.rs 0 6 eo n cap A)), .v (.c (.b false)), .v (.c (.i .i64 (x))), .v (.c (.rs 0 6 eo n cap A)), .v (.c (.i .i64 ((n : Int)))), .v (.c (.i .i64 (u)))], []))) ?round ?post 0 ⟨by omega, rfl⟩
  case round =>
    intro s hI
    rw [rnd_lp_May]
    unfold outr_lp_May
    simp only [Tr.all]
    rw [show eo + ((s : Nat) : Int).toNat = eo + s by omega]
    obtain ⟨hI, hI2⟩ := hI
    refine ⟨fun hc => ?_, fun hc => Or.inr ⟨nofun, Or.inr ⟨?_, _, _, rfl⟩⟩⟩
    · have hc := of_decide_eq_true hc
      have hc : s < n := by omega
      have hs := sub_step (d := (⟨0, 0, 0, 0, 0, 0⟩ : Mic)) hle hc
      have hms := may_snoc ((sub l eo n).take s) (l.getD (eo + s) ⟨0, 0, 0, 0, 0, 0⟩)
      rw [← hs, hI2, Bool.true_and] at hms
      rw [Z.wI64 (z := (s : Int) + 1) (by omega)]
      refine ⟨by omega, fun _ => ⟨by omega, fun _ => ⟨fun h1 => Or.inr ⟨nofun, Or.inl ⟨?_, _, _, rfl⟩⟩, fun h1 => Or.inl ⟨trivial, s + 1, ⟨by omega, ?_⟩, by omega, ?_, trivial⟩⟩⟩⟩
      · rw [← List.take_append_drop (s + 1) (sub l eo n)]
        refine mayL_app_false _ ?_
        rw [hms]
        cases hf : decide (fitsP (l.getD (eo + s) ⟨0, 0, 0, 0, 0, 0⟩)) with
        | false => rfl
        | true =>
          have h1 : (bif !decide (fitsP (l.getD (eo + s) ⟨0, 0, 0, 0, 0, 0⟩)) then true else decide ((l.getD (eo + s) ⟨0, 0, 0, 0, 0, 0⟩).c < lastC ((sub l eo n).take s))) = true := h1
          rw [hf] at h1
          simpa using h1
      · rw [hms]
        have h1 : (bif !decide (fitsP (l.getD (eo + s) ⟨0, 0, 0, 0, 0, 0⟩)) then true else decide ((l.getD (eo + s) ⟨0, 0, 0, 0, 0, 0⟩).c < lastC ((sub l eo n).take s))) = false := h1
        cases hf : decide (fitsP (l.getD (eo + s) ⟨0, 0, 0, 0, 0, 0⟩)) with
        | false => rw [hf] at h1; cases h1
        | true =>
          rw [hf] at h1
          simpa using h1
      · rw [hs, lastC_snoc]; try rfl
    · have hc := of_decide_eq_false hc
      obtain rfl : s = n := by omega
      rwa [sub_take hle] at hI2
  case post =>
    intro y hy hp
    rcases hp with ⟨hf, x, u, rfl⟩ | ⟨hf, x, u, rfl⟩
    · exact YE.weaken (Sub.cons rfl Sub.nil) (h.2 hf)
    · exact YE.weaken (Sub.cons rfl Sub.nil) (h.1 hf)
  exact key
theorem lpp_lp_May_2 {c0 : Z.Cx} {ρ0 : List Nat} (eo : Nat) (n : Nat) (cap : Nat) (z : Bool) (t : Int) (eo2 : Nat) (n2 : Nat) (cap2 : Nat) (m : Int) (i : Int) (wr : Bool) (N : Nat) (l : List (Sh 5)) (W : List Rw) (hR : repR W c0.R) (hne : ρ0.length ≤ 1) {Q : Exit → Act → World → Prop} {e : Env} {H : List Bk} (hsel : canE 1 [0, 2, 3, 6, 7, 8] e H = some ([(.v (.c (.sl 0 0 6 eo n cap))), (.v (.c (.b z))), (.v (.c (.i .i64 t))), (.v (.c (.sl 0 0 6 eo2 n2 cap2))), (.v (.c (.i .i64 m))), (.v (.c (.i .i64 i)))], [⟨28, [.arr 5 N l], wr⟩])) (h : (.ass ((z = false ∧ t = lastC [] ∧ (eo = eo2 ∧ n = n2 ∧ cap = cap2) ∧ m = (n : Int) ∧ i = ((0 : Nat) : Int)) ∧ (n ≤ 65536 ∧ eo + n ≤ N ∧ N ≤ l.length ∧ l.length ≤ N)) (.ite (mayL 0 (sub l eo n)) (.ret (.ex 0, [(0, .v (.c (.sl 0 0 6 eo n cap)))], [⟨28, [.arr 5 N l], wr⟩])) (.ret (.ret, [(2, .v (.c (.b false)))], [⟨28, [.arr 5 N l], wr⟩]))) : Tr (X × Env × List Bk)).all (fun y => YE c0 ρ0 Q 27 (toX y.1) y.2.1 y.2.2)) : YC Try.prog c0 ρ0 Q 27 (.loop (loopC 3 (codeOf Try.f13))) e H := by
  obtain ⟨hp, h⟩ := h
  replace h := h hp
  obtain ⟨⟨rfl, rfl, ⟨rfl, rfl, rfl⟩, rfl, rfl⟩, hN⟩ := hp
  have hle : eo + n ≤ l.length := by omega
  refine YC.canon hne hsel ?_
  have key := loop_sound (P := Try.prog) (c := c0) (ρ0 := ρ0) (N := 27) (Q := Q) cx_ir_May_ok hR (LpOK.no (by kernel_rfl)) [0, 2, 3, 6, 7, 8] 1 hne (σ := Nat) (body := (loopC 3 (codeOf Try.f13))) (fun s => [.v (.c (.sl 0 0 6 eo n cap)), .v (.c (.b false)), .v (.c (.i .i64 (lastC ((sub l eo n).take s)))), .v (.c (.sl 0 0 6 eo n cap)), .v (.c (.i .i64 ((n : Int)))), .v (.c (.i .i64 ((s : Int))))]) (fun _ => [⟨28, [.arr 5 N l], wr⟩]) (fun s => s ≤ n ∧ mayL 0 ((sub l eo n).take s) = true) (fun s => n - s) (fun y => (mayL 0 (sub l eo n) = false ∧ ∃ x u, y = (.ret, [.v (.c (.sl 0 0 6 eo n cap)), .v (.c (.b false)), .v (.c (.i .i64 (x))), .v (.c (.sl 0 0 6 eo n cap)), .v (.c (.i .i64 ((n : Int)))), .v (.c (.i .i64 (u)))], [⟨28, [.arr 5 N l], wr⟩])) ∨ (mayL 0 (sub l eo n) = true ∧ ∃ x u, y = (.ex 0, [.v (.c (.sl 0 0 6 eo n cap)), .v (.c (.b false)), .v (.c (.i .i64 (x))), .v (.c (.sl 0 0 6 eo n cap)), .v (.c (.i .i64 ((n : Int)))), .v (.c (.i .i64 (u)))], [⟨28, [.arr 5 N l], wr⟩]))) ?round ?post 0 ⟨by omega, rfl⟩
  case round =>
    intro s hI
    rw [rnd_lp_May_2]
    unfold outr_lp_May_2
    simp only [Tr.all]
    rw [show eo + ((s : Nat) : Int).toNat = eo + s by omega]
    obtain ⟨hI, hI2⟩ := hI
    refine ⟨fun hc => ?_, fun hc => Or.inr ⟨nofun, Or.inr ⟨?_, _, _, rfl⟩⟩⟩
    · have hc := of_decide_eq_true hc
      have hc : s < n := by omega
      have hs := sub_step (d := (⟨0, 0, 0, 0, 0, 0⟩ : Mic)) hle hc
      have hms := may_snoc ((sub l eo n).take s) (l.getD (eo + s) ⟨0, 0, 0, 0, 0, 0⟩)
      rw [← hs, hI2, Bool.true_and] at hms
      rw [Z.wI64 (z := (s : Int) + 1) (by omega)]
      refine ⟨by omega, fun _ => ⟨by omega, fun _ => ⟨fun h1 => Or.inr ⟨nofun, Or.inl ⟨?_, _, _, rfl⟩⟩, fun h1 => Or.inl ⟨trivial, s + 1, ⟨by omega, ?_⟩, by omega, ?_, trivial⟩⟩⟩⟩
      · rw [← List.take_append_drop (s + 1) (sub l eo n)]
        refine mayL_app_false _ ?_
        rw [hms]
        cases hf : decide (fitsP (l.getD (eo + s) ⟨0, 0, 0, 0, 0, 0⟩)) with
        | false => rfl
        | true =>
          have h1 : (bif !decide (fitsP (l.getD (eo + s) ⟨0, 0, 0, 0, 0, 0⟩)) then true else decide ((l.getD (eo + s) ⟨0, 0, 0, 0, 0, 0⟩).c < lastC ((sub l eo n).take s))) = true := h1
          rw [hf] at h1
          simpa using h1
      · rw [hms]
        have h1 : (bif !decide (fitsP (l.getD (eo + s) ⟨0, 0, 0, 0, 0, 0⟩)) then true else decide ((l.getD (eo + s) ⟨0, 0, 0, 0, 0, 0⟩).c < lastC ((sub l eo n).take s))) = false := h1
        cases hf : decide (fitsP (l.getD (eo + s) ⟨0, 0, 0, 0, 0, 0⟩)) with
        | false => rw [hf] at h1; cases h1
        | true =>
          rw [hf] at h1
          simpa using h1
      · rw [hs, lastC_snoc]; try rfl
    · have hc := of_decide_eq_false hc
      obtain rfl : s = n := by omega
      rwa [sub_take hle] at hI2
  case post =>
    intro y hy hp
    rcases hp with ⟨hf, x, u, rfl⟩ | ⟨hf, x, u, rfl⟩
    · exact YE.weaken (Sub.cons rfl Sub.nil) (h.2 hf)
    · exact YE.weaken (Sub.cons rfl Sub.nil) (h.1 hf)
  exact key
theorem lpp_lp_May_3 {c0 : Z.Cx} {ρ0 : List Nat} (z : Bool) (t : Int) (m : Int) (i : Int) (W : List Rw) (hR : repR W c0.R) (hne : ρ0.length ≤ 1) {Q : Exit → Act → World → Prop} {e : Env} {H : List Bk} (hsel : canE 1 [0, 2, 3, 6, 7, 8] e H = some ([(.v (.c .ns)), (.v (.c (.b z))), (.v (.c (.i .i64 t))), (.v (.c .ns)), (.v (.c (.i .i64 m))), (.v (.c (.i .i64 i)))], [])) (h : (.ass (z = false ∧ t = 0 ∧ m = 0 ∧ i = 0) (.ret (.ex 0, [(0, .v (.c .ns))], [])) : Tr (X × Env × List Bk)).all (fun y => YE c0 ρ0 Q 27 (toX y.1) y.2.1 y.2.2)) : YC Try.prog c0 ρ0 Q 27 (.loop (loopC 3 (codeOf Try.f13))) e H := by
  obtain ⟨hp, h⟩ := h
  replace h := h hp
  obtain ⟨rfl, rfl, rfl, rfl⟩ := hp
  refine YC.canon hne hsel ?_
  have key := loop_sound (P := Try.prog) (c := c0) (ρ0 := ρ0) (N := 27) (Q := Q) cx_ir_May_ok hR (LpOK.no (by kernel_rfl)) [0, 2, 3, 6, 7, 8] 1 hne (σ := Unit) (body := (loopC 3 (codeOf Try.f13))) (fun _ => [.v (.c .ns), .v (.c (.b false)), .v (.c (.i .i64 (0))), .v (.c .ns), .v (.c (.i .i64 (0))), .v (.c (.i .i64 (0)))]) (fun _ => []) (fun _ => True) (fun _ => 0) (fun y => y = (.ex 0, [.v (.c .ns), .v (.c (.b false)), .v (.c (.i .i64 (0))), .v (.c .ns), .v (.c (.i .i64 (0))), .v (.c (.i .i64 (0)))], [])) ?round ?post () trivial
  case round =>
    intro s hI
    rw [rnd_lp_May_3]
    unfold outr_lp_May_3
    simp only [Tr.all]
    exact ⟨fun hc => absurd hc (by decide), fun _ => Or.inr ⟨nofun, trivial⟩⟩
  case post =>
    intro y hy hp
    subst hp
    exact YE.weaken (Sub.cons rfl Sub.nil) h
  exact key
theorem lpc_lp_May (c : Z.Cx) (ρ0 : List Nat) (W : List Rw) (hR : repR W c.R) (hne : ρ0.length ≤ 1) : ∀ Q e H, (lp_May e H W).all (fun y => YE c ρ0 Q 27 (toX y.1) y.2.1 y.2.2) → YC Try.prog c ρ0 Q 27 (.loop (loopC 3 (codeOf Try.f13))) e H := by
  intro Q e H h
  unfold lp_May at h
  (try simp only at h)
  split at h
  · rename_i heq
    exact lpp_lp_May _ _ _ _ _ _ _ _ _ _ _ _ _ _ hR hne (by assumption) h
  · rename_i heq
    exact lpp_lp_May_2 _ _ _ _ _ _ _ _ _ _ _ _ _ _ hR hne (by assumption) h
  · rename_i heq
    exact lpp_lp_May_3 _ _ _ _ _ hR hne (by assumption) h
  · exact h.elim
noncomputable def out_ir_May (eo : Nat) (n : Nat) (cap : Nat) (A : Option Addr) (l : List (Sh 5)) : Tr (SV × List Bk) :=
Tr.ass
 ((false = false ∧ (0 : Int) = X.lastC [] ∧ (eo = eo ∧ n = n ∧ cap = cap ∧ A = A) ∧ (↑n : Int) = (↑n : Int) ∧ (0 : Int) = (↑(0 : Nat) : Int)) ∧
 n ≤ (65536 : Nat) ∧ eo + n ≤ List.length l ∧ List.length l ≤ List.length l)
 (Tr.ite (X.mayL (0 : Int) (X.sub l eo n)) (Tr.ret (SV.v (V1.c (Sc.b (decide ((↑n : Int) ≤ (16 : Int))))), []))
 (Tr.ret (SV.v (V1.c (Sc.b false)), [])))

theorem run_ir_May (eo : Nat) (n : Nat) (cap : Nat) (A : Option Addr) (l : List (Sh 5)) (W : List Rw) : runF cx_ir_May 27 [.tmp 2] (codeOf Try.f13) [(.v (.c (.rs 0 6 eo n cap A)))] [] (⟨5, l⟩ :: W) = out_ir_May eo n cap A l := by kernel_rfl
theorem pf_ir_May (eo : Nat) (n : Nat) (cap : Nat) (A : Option Addr) (l : List (Sh 5)) (K : SV × List Bk → Prop) (h : (.ass ((n ≤ 65536 ∧ eo + n ≤ l.length ∧ l.length ≤ l.length)) (.ret (.v (.c (.b (mayOf (sub l eo n)))), [])) : Tr (SV × List Bk)).all K) : (out_ir_May eo n cap A l).all K := by
  obtain ⟨hN, h⟩ := h
  replace h := h hN
  replace h : K _ := h
  unfold out_ir_May
  simp only [Tr.all]
  have hle : eo + n ≤ l.length := by omega
  have hsl := sub_len hle
  refine ⟨⟨by (repeat' (first | apply And.intro | trivial)), hN⟩, fun _ => ⟨fun h1 => leafB h ?_, fun h1 => leafB h ?_⟩⟩
  · rw [mayOf, h1, hsl, Bool.true_and]; exact decide_eq_decide.2 (by omega)
  · rw [mayOf, h1, Bool.false_and]
noncomputable def out_ir_May_2 (eo : Nat) (n : Nat) (cap : Nat) (wr : Bool) (N : Nat) (l : List (Sh 5)) : Tr (SV × List Bk) :=
Tr.ass
 ((false = false ∧ (0 : Int) = X.lastC [] ∧ (eo = eo ∧ n = n ∧ cap = cap) ∧ (↑n : Int) = (↑n : Int) ∧ (0 : Int) = (↑(0 : Nat) : Int)) ∧
 n ≤ (65536 : Nat) ∧ eo + n ≤ N ∧ N ≤ List.length l ∧ List.length l ≤ N)
 (Tr.ite (X.mayL (0 : Int) (X.sub l eo n))
 (Tr.ret (SV.v (V1.c (Sc.b (decide ((↑n : Int) ≤ (16 : Int))))), [Bk.mk (nat_lit 28) [Seg.arr (nat_lit 5) N l] wr]))
 (Tr.ret (SV.v (V1.c (Sc.b false)), [Bk.mk (nat_lit 28) [Seg.arr (nat_lit 5) N l] wr])))

theorem run_ir_May_2 (eo : Nat) (n : Nat) (cap : Nat) (wr : Bool) (N : Nat) (l : List (Sh 5)) (W : List Rw) : runF cx_ir_May 27 [.tmp 2] (codeOf Try.f13) [(.v (.c (.sl 0 0 6 eo n cap)))] [⟨28, [.arr 5 N l], wr⟩] W = out_ir_May_2 eo n cap wr N l := by kernel_rfl
theorem pf_ir_May_2 (eo : Nat) (n : Nat) (cap : Nat) (wr : Bool) (N : Nat) (l : List (Sh 5)) (K : SV × List Bk → Prop) (h : (.ass ((n ≤ 65536 ∧ eo + n ≤ N ∧ N ≤ l.length ∧ l.length ≤ N)) (.ret (.v (.c (.b (mayOf (sub l eo n)))), [⟨28, [.arr 5 N l], wr⟩])) : Tr (SV × List Bk)).all K) : (out_ir_May_2 eo n cap wr N l).all K := by
  obtain ⟨hN, h⟩ := h
  replace h := h hN
  replace h : K _ := h
  unfold out_ir_May_2
  simp only [Tr.all]
  have hle : eo + n ≤ l.length := by omega
  have hsl := sub_len hle
  refine ⟨⟨by (repeat' (first | apply And.intro | trivial)), hN⟩, fun _ => ⟨fun h1 => leafB h ?_, fun h1 => leafB h ?_⟩⟩
  · rw [mayOf, h1, hsl, Bool.true_and]; exact decide_eq_decide.2 (by omega)
  · rw [mayOf, h1, Bool.false_and]
noncomputable def out_ir_May_3  : Tr (SV × List Bk) :=
Tr.ass (false = false ∧ (0 : Int) = (0 : Int) ∧ (0 : Int) = (0 : Int) ∧ (0 : Int) = (0 : Int))
 (Tr.ret (SV.v (V1.c (Sc.b (decide ((0 : Int) ≤ (16 : Int))))), []))

theorem run_ir_May_3  (W : List Rw) : runF cx_ir_May 27 [.tmp 2] (codeOf Try.f13) [(.v (.c .ns))] [] W = out_ir_May_3  := by kernel_rfl
theorem pf_ir_May_3  (K : SV × List Bk → Prop) (h : (.ret (.v (.c (.b true)), []) : Tr (SV × List Bk)).all K) : (out_ir_May_3 ).all K := by
  replace h : K _ := h
  unfold out_ir_May_3
  simp only [Tr.all]
  exact ⟨by (repeat' (first | apply And.intro | trivial)), fun _ => leafB h rfl⟩
noncomputable def con_ir_May : Con := ⟨true, fun args H W => match args, H, W with
  | [(.v (.c (.rs 0 6 eo n cap A)))], [], ⟨5, l⟩ :: W => .ass ((n ≤ 65536 ∧ eo + n ≤ l.length ∧ l.length ≤ l.length)) (.ret (.v (.c (.b (mayOf (sub l eo n)))), []))
  | [(.v (.c (.sl 0 0 6 eo n cap)))], [⟨28, [.arr 5 N l], wr⟩], _ => .ass ((n ≤ 65536 ∧ eo + n ≤ N ∧ N ≤ l.length ∧ l.length ≤ N)) (.ret (.v (.c (.b (mayOf (sub l eo n)))), [⟨28, [.arr 5 N l], wr⟩]))
  | [(.v (.c .ns))], [], _ => .ret (.v (.c (.b true)), [])
  | _, _, _ => .stuck 900⟩
theorem lpok_ir_May (c : Z.Cx) (ρ0 : List Nat) (W : List Rw) (hR : repR W c.R) (hne : ρ0.length ≤ 1) : LpOK Try.prog cx_ir_May c ρ0 27 W (codeOf Try.f13) := LpOK.all (ls := [((loopC 3 (codeOf Try.f13)), lp_May)]) (by kernel_rfl) ⟨⟨(by kernel_rfl), lpc_lp_May c ρ0 W hR hne⟩, trivial⟩
theorem ok_ir_May : ConOK Try.prog 13 con_ir_May := con_ok (code := (codeOf Try.f13)) (N := 27) (rs := [.tmp 2]) cx_ir_May_ok 1 Try.func13 rfl rfl rfl lpok_ir_May (by
  intro args H W K h hro
  unfold con_ir_May at h
  simp only at h
  split at h
  · refine ⟨rfl, ?_⟩
    rw [run_ir_May]
    exact pf_ir_May _ _ _ _ _ K h
  · refine ⟨rfl, ?_⟩
    rw [run_ir_May_2]
    exact pf_ir_May_2 _ _ _ _ _ _ K h
  · refine ⟨rfl, ?_⟩
    rw [run_ir_May_3]
    exact pf_ir_May_3  K h
  · exact h.elim)
noncomputable def cx_decode_rows : Ctx := mkCtx tys eqs [] []
theorem cx_decode_rows_ok : CtxOK Try.prog cx_decode_rows := mkCtx_ok _ mixed tys_ok eqs_ok trivial
noncomputable def out_decode_rows  : Tr (SV × List Bk) :=
Tr.ret
 (SV.v
 (V1.agg
 [Seg.arr (nat_lit 8) (nat_lit 69)
 [Tbl.mk [(115 : UInt8), (108 : UInt8), (108 : UInt8)] (0 : Int) (0 : Int) (0 : Int), Tbl.mk [(115 : UInt8), (114 : UInt8), (108 : UInt8)] (0 : Int) (0 : Int) (2 : Int),
 Tbl.mk [(115 : UInt8), (114 : UInt8), (97 : UInt8)] (0 : Int) (0 : Int) (3 : Int),
 Tbl.mk [(115 : UInt8), (108 : UInt8), (108 : UInt8), (118 : UInt8)] (1 : Int) (0 : Int) (4 : Int),
 Tbl.mk [(115 : UInt8), (114 : UInt8), (108 : UInt8), (118 : UInt8)] (1 : Int) (0 : Int) (6 : Int),
 Tbl.mk [(115 : UInt8), (114 : UInt8), (97 : UInt8), (118 : UInt8)] (1 : Int) (0 : Int) (7 : Int), Tbl.mk [(106 : UInt8), (114 : UInt8)] (2 : Int) (0 : Int) (8 : Int),
 Tbl.mk [(106 : UInt8), (97 : UInt8), (108 : UInt8), (114 : UInt8)] (3 : Int) (0 : Int) (9 : Int),
 Tbl.mk [(109 : UInt8), (111 : UInt8), (118 : UInt8), (122 : UInt8)] (4 : Int) (0 : Int) (10 : Int),
 Tbl.mk [(109 : UInt8), (111 : UInt8), (118 : UInt8), (110 : UInt8)] (4 : Int) (0 : Int) (11 : Int),
 Tbl.mk [(115 : UInt8), (121 : UInt8), (115 : UInt8), (99 : UInt8), (97 : UInt8), (108 : UInt8), (108 : UInt8)] (5 : Int) (0 : Int) (12 : Int),
 Tbl.mk [(98 : UInt8), (114 : UInt8), (101 : UInt8), (97 : UInt8), (107 : UInt8)] (5 : Int) (0 : Int) (13 : Int),
 Tbl.mk [(109 : UInt8), (102 : UInt8), (104 : UInt8), (105 : UInt8)] (6 : Int) (0 : Int) (16 : Int),
 Tbl.mk [(109 : UInt8), (116 : UInt8), (104 : UInt8), (105 : UInt8)] (7 : Int) (0 : Int) (17 : Int),
 Tbl.mk [(109 : UInt8), (102 : UInt8), (108 : UInt8), (111 : UInt8)] (6 : Int) (0 : Int) (18 : Int),
 Tbl.mk [(109 : UInt8), (116 : UInt8), (108 : UInt8), (111 : UInt8)] (7 : Int) (0 : Int) (19 : Int),
 Tbl.mk [(109 : UInt8), (117 : UInt8), (108 : UInt8), (116 : UInt8)] (8 : Int) (0 : Int) (24 : Int),
 Tbl.mk [(109 : UInt8), (117 : UInt8), (108 : UInt8), (116 : UInt8), (117 : UInt8)] (8 : Int) (0 : Int) (25 : Int),
 Tbl.mk [(100 : UInt8), (105 : UInt8), (118 : UInt8)] (8 : Int) (0 : Int) (26 : Int),
 Tbl.mk [(100 : UInt8), (105 : UInt8), (118 : UInt8), (117 : UInt8)] (8 : Int) (0 : Int) (27 : Int),
 Tbl.mk [(97 : UInt8), (100 : UInt8), (100 : UInt8)] (4 : Int) (0 : Int) (32 : Int),
 Tbl.mk [(97 : UInt8), (100 : UInt8), (100 : UInt8), (117 : UInt8)] (4 : Int) (0 : Int) (33 : Int),
 Tbl.mk [(115 : UInt8), (117 : UInt8), (98 : UInt8)] (4 : Int) (0 : Int) (34 : Int),
 Tbl.mk [(115 : UInt8), (117 : UInt8), (98 : UInt8), (117 : UInt8)] (4 : Int) (0 : Int) (35 : Int),
 Tbl.mk [(97 : UInt8), (110 : UInt8), (100 : UInt8)] (4 : Int) (0 : Int) (36 : Int), Tbl.mk [(111 : UInt8), (114 : UInt8)] (4 : Int) (0 : Int) (37 : Int),
 Tbl.mk [(120 : UInt8), (111 : UInt8), (114 : UInt8)] (4 : Int) (0 : Int) (38 : Int), Tbl.mk [(110 : UInt8), (111 : UInt8), (114 : UInt8)] (4 : Int) (0 : Int) (39 : Int),
 Tbl.mk [(115 : UInt8), (108 : UInt8), (116 : UInt8)] (4 : Int) (0 : Int) (42 : Int),
 Tbl.mk [(115 : UInt8), (108 : UInt8), (116 : UInt8), (117 : UInt8)] (4 : Int) (0 : Int) (43 : Int),
 Tbl.mk [(116 : UInt8), (101 : UInt8), (113 : UInt8)] (8 : Int) (0 : Int) (52 : Int), Tbl.mk [(116 : UInt8), (110 : UInt8), (101 : UInt8)] (8 : Int) (0 : Int) (54 : Int),
 Tbl.mk [(109 : UInt8), (117 : UInt8), (108 : UInt8)] (4 : Int) (28 : Int) (2 : Int), Tbl.mk [(99 : UInt8), (108 : UInt8), (122 : UInt8)] (9 : Int) (28 : Int) (32 : Int),
 Tbl.mk [(99 : UInt8), (108 : UInt8), (111 : UInt8)] (9 : Int) (28 : Int) (33 : Int),
 Tbl.mk [(98 : UInt8), (108 : UInt8), (116 : UInt8), (122 : UInt8)] (10 : Int) (1 : Int) (0 : Int),
 Tbl.mk [(98 : UInt8), (103 : UInt8), (101 : UInt8), (122 : UInt8)] (10 : Int) (1 : Int) (1 : Int),
 Tbl.mk [(98 : UInt8), (108 : UInt8), (116 : UInt8), (122 : UInt8), (97 : UInt8), (108 : UInt8)] (10 : Int) (1 : Int) (16 : Int),
 Tbl.mk [(98 : UInt8), (103 : UInt8), (101 : UInt8), (122 : UInt8), (97 : UInt8), (108 : UInt8)] (10 : Int) (1 : Int) (17 : Int),
 Tbl.mk [(106 : UInt8)] (11 : Int) (2 : Int) (0 : Int), Tbl.mk [(106 : UInt8), (97 : UInt8), (108 : UInt8)] (11 : Int) (3 : Int) (0 : Int),
 Tbl.mk [(98 : UInt8), (101 : UInt8), (113 : UInt8)] (12 : Int) (4 : Int) (0 : Int), Tbl.mk [(98 : UInt8), (110 : UInt8), (101 : UInt8)] (12 : Int) (5 : Int) (0 : Int),
 Tbl.mk [(98 : UInt8), (108 : UInt8), (101 : UInt8), (122 : UInt8)] (10 : Int) (6 : Int) (0 : Int),
 Tbl.mk [(98 : UInt8), (103 : UInt8), (116 : UInt8), (122 : UInt8)] (10 : Int) (7 : Int) (0 : Int),
 Tbl.mk [(97 : UInt8), (100 : UInt8), (100 : UInt8), (105 : UInt8)] (13 : Int) (8 : Int) (0 : Int),
 Tbl.mk [(97 : UInt8), (100 : UInt8), (100 : UInt8), (105 : UInt8), (117 : UInt8)] (13 : Int) (9 : Int) (0 : Int),
 Tbl.mk [(115 : UInt8), (108 : UInt8), (116 : UInt8), (105 : UInt8)] (13 : Int) (10 : Int) (0 : Int),
 Tbl.mk [(115 : UInt8), (108 : UInt8), (116 : UInt8), (105 : UInt8), (117 : UInt8)] (13 : Int) (11 : Int) (0 : Int),
 Tbl.mk [(97 : UInt8), (110 : UInt8), (100 : UInt8), (105 : UInt8)] (14 : Int) (12 : Int) (0 : Int),
 Tbl.mk [(111 : UInt8), (114 : UInt8), (105 : UInt8)] (14 : Int) (13 : Int) (0 : Int),
 Tbl.mk [(120 : UInt8), (111 : UInt8), (114 : UInt8), (105 : UInt8)] (14 : Int) (14 : Int) (0 : Int),
 Tbl.mk [(108 : UInt8), (117 : UInt8), (105 : UInt8)] (15 : Int) (15 : Int) (0 : Int),
 Tbl.mk [(109 : UInt8), (102 : UInt8), (99 : UInt8), (48 : UInt8)] (16 : Int) (16 : Int) (0 : Int),
 Tbl.mk [(109 : UInt8), (116 : UInt8), (99 : UInt8), (48 : UInt8)] (16 : Int) (16 : Int) (4 : Int),
 Tbl.mk [(116 : UInt8), (108 : UInt8), (98 : UInt8), (114 : UInt8)] (17 : Int) (16 : Int) (1 : Int),
 Tbl.mk [(116 : UInt8), (108 : UInt8), (98 : UInt8), (119 : UInt8), (105 : UInt8)] (17 : Int) (16 : Int) (2 : Int),
 Tbl.mk [(116 : UInt8), (108 : UInt8), (98 : UInt8), (112 : UInt8)] (17 : Int) (16 : Int) (8 : Int),
 Tbl.mk [(101 : UInt8), (114 : UInt8), (101 : UInt8), (116 : UInt8)] (17 : Int) (16 : Int) (24 : Int), Tbl.mk [(108 : UInt8), (98 : UInt8)] (18 : Int) (32 : Int) (0 : Int),
 Tbl.mk [(108 : UInt8), (104 : UInt8)] (18 : Int) (33 : Int) (0 : Int), Tbl.mk [(108 : UInt8), (119 : UInt8)] (18 : Int) (35 : Int) (0 : Int),
 Tbl.mk [(108 : UInt8), (98 : UInt8), (117 : UInt8)] (18 : Int) (36 : Int) (0 : Int), Tbl.mk [(108 : UInt8), (104 : UInt8), (117 : UInt8)] (18 : Int) (37 : Int) (0 : Int),
 Tbl.mk [(115 : UInt8), (98 : UInt8)] (18 : Int) (40 : Int) (0 : Int), Tbl.mk [(115 : UInt8), (104 : UInt8)] (18 : Int) (41 : Int) (0 : Int),
 Tbl.mk [(115 : UInt8), (119 : UInt8)] (18 : Int) (43 : Int) (0 : Int), Tbl.mk [(108 : UInt8), (108 : UInt8)] (18 : Int) (48 : Int) (0 : Int),
 Tbl.mk [(115 : UInt8), (99 : UInt8)] (18 : Int) (56 : Int) (0 : Int)]]),
 [])

theorem run_decode_rows  (W : List Rw) : runF cx_decode_rows 71 [.cell 0 66] (codeOf Try.f41) [] [] W = out_decode_rows  := by kernel_rfl
theorem pf_decode_rows  (K : SV × List Bk → Prop) (h : (.ret (.v (.agg [.arr 8 69 tabT]), []) : Tr (SV × List Bk)).all K) : (out_decode_rows ).all K := by
  exact leafE h (by kernel_rfl)
noncomputable def con_decode_rows : Con := ⟨true, fun args H W => match args, H, W with
  | [], [], _ => .ret (.v (.agg [.arr 8 69 tabT]), [])
  | _, _, _ => .stuck 900⟩
theorem ok_decode_rows : ConOK Try.prog 41 con_decode_rows := con_ok (code := (codeOf Try.f41)) (N := 71) (rs := [.cell 0 66]) cx_decode_rows_ok 0 Try.func41 rfl rfl rfl (fun _ _ _ _ _ => LpOK.no (by kernel_rfl)) (by
  intro args H W K h hro
  unfold con_decode_rows at h
  simp only at h
  split at h
  · refine ⟨rfl, ?_⟩
    rw [run_decode_rows]
    exact pf_decode_rows  K h
  · exact h.elim)
noncomputable def cx_decode_forms : Ctx := mkCtx tys eqs [] []
theorem cx_decode_forms_ok : CtxOK Try.prog cx_decode_forms := mkCtx_ok _ mixed tys_ok eqs_ok trivial
noncomputable def out_decode_forms  : Tr (SV × List Bk) :=
Tr.ret
 (SV.v (V1.c (Sc.sl (nat_lit 0) (nat_lit 0) (nat_lit 1) (nat_lit 0) (nat_lit 19) (nat_lit 19))),
 [Bk.mk (nat_lit 9)
 [Seg.arr (nat_lit 4) (nat_lit 19)
 [[(83 : UInt8), (72 : UInt8)], [(83 : UInt8), (86 : UInt8)], [(74 : UInt8), (82 : UInt8)], [(74 : UInt8), (65 : UInt8), (76 : UInt8), (82 : UInt8)], [(82 : UInt8)], [(78 : UInt8)],
 [(77 : UInt8), (70 : UInt8)], [(77 : UInt8), (84 : UInt8)], [(77 : UInt8), (68 : UInt8)], [(67 : UInt8), (76 : UInt8)], [(66 : UInt8), (90 : UInt8)], [(74 : UInt8)],
 [(66 : UInt8), (50 : UInt8)], [(73 : UInt8)], [(73 : UInt8), (85 : UInt8)], [(76 : UInt8), (85 : UInt8), (73 : UInt8)], [(67 : UInt8), (48 : UInt8)], [(67 : UInt8), (79 : UInt8)],
 [(77 : UInt8)]]]
 true])

theorem run_decode_forms  (W : List Rw) : runF cx_decode_forms 2 [.tmp 0] (codeOf Try.f57) [] [] W = out_decode_forms  := by kernel_rfl
theorem pf_decode_forms  (K : SV × List Bk → Prop) (h : (.ret (.v (.c (.sl 0 0 1 0 19 19)), [⟨9, [.arr 4 19 formsT], true⟩]) : Tr (SV × List Bk)).all K) : (out_decode_forms ).all K := by
  exact leafE h (by kernel_rfl)
noncomputable def con_decode_forms : Con := ⟨false, fun args H W => match args, H, W with
  | [], [], _ => .ret (.v (.c (.sl 0 0 1 0 19 19)), [⟨9, [.arr 4 19 formsT], true⟩])
  | _, _, _ => .stuck 900⟩
theorem ok_decode_forms : ConOK Try.prog 57 con_decode_forms := con_ok (code := (codeOf Try.f57)) (N := 2) (rs := [.tmp 0]) cx_decode_forms_ok 0 Try.func57 rfl rfl rfl (fun _ _ _ _ _ => LpOK.no (by kernel_rfl)) (by
  intro args H W K h hro
  unfold con_decode_forms at h
  simp only at h
  split at h
  · refine ⟨rfl, ?_⟩
    rw [run_decode_forms]
    exact pf_decode_forms  K h
  · exact h.elim)
end Go.Y
