/- Operations that hand back a value: each gives what the reckoner says. Generic in the program. -/
import Derived.Test.YtfckbimkdjcncaaYOps
set_option linter.unusedSimpArgs false
set_option linter.unusedVariables false
namespace Go.Y
open Go.Z (Row Blk plainV Keep RowAt Fits runsTo Pre)
section
variable {P : Program} {ρ : List Nat} {R : List Row} {Φ : SV → Prop}
theorem rI_sound {k : IntKind} {n : Int} (h : (rI k n).all Φ) : Φ (.v (.c (.i k n))) := h
theorem binI_sound {op : BinOp} {t : Nat} {k : IntKind} {m n : Int} (hs : isShift op = false) (h : (binI op k m n).all Φ) :
    ∃ sv r, Φ sv ∧ repV ρ R sv r ∧ ∀ (x y : Operand) w, (do eqGuard op t x y (.int k m) (.int k n); Go.binOp op t (.int k m) (.int k n) : Sem Value).run P w = .ok r w := by
  cases op
  case shl => cases hs
  case shr => cases hs
  case add => exact ⟨_, .int k _, h, rfl, fun x y w => by simp [eqGuard, Go.binOp, Op.intArith]⟩
  case sub => exact ⟨_, .int k _, h, rfl, fun x y w => by simp [eqGuard, Go.binOp, Op.intArith]⟩
  case mul => exact ⟨_, .int k _, h, rfl, fun x y w => by simp [eqGuard, Go.binOp, Op.intArith]⟩
  case quo => obtain ⟨h0, h1⟩ := h; exact ⟨_, .int k _, h1 h0, rfl, fun x y w => by simp [eqGuard, Go.binOp, Op.intDiv, h0]⟩
  case rem => obtain ⟨h0, h1⟩ := h; exact ⟨_, .int k _, h1 h0, rfl, fun x y w => by simp [eqGuard, Go.binOp, Op.intDiv, h0]⟩
  case and => exact ⟨_, .int k _, h, rfl, fun x y w => by simp [eqGuard, Go.binOp, Op.intBits, bits]⟩
  case or => exact ⟨_, .int k _, h, rfl, fun x y w => by simp [eqGuard, Go.binOp, Op.intBits, bits]⟩
  case xor => exact ⟨_, .int k _, h, rfl, fun x y w => by simp [eqGuard, Go.binOp, Op.intBits, bits]⟩
  case andNot => exact ⟨_, .int k _, h, rfl, fun x y w => by simp [eqGuard, Go.binOp, Op.intBits, bits]⟩
  case eql => exact ⟨_, .bool (m == n), h, rfl, fun x y w => by simp [eqGuard, Go.binOp, Op.intCmp]⟩
  case neq => exact ⟨_, .bool (m != n), h, rfl, fun x y w => by simp [eqGuard, Go.binOp, Op.intCmp]⟩
  case lss => exact ⟨_, .bool (decide (m < n)), h, rfl, fun x y w => by simp [eqGuard, Go.binOp, Op.intCmp]⟩
  case leq => exact ⟨_, .bool (decide (m ≤ n)), h, rfl, fun x y w => by simp [eqGuard, Go.binOp, Op.intCmp]⟩
  case gtr => exact ⟨_, .bool (decide (m > n)), h, rfl, fun x y w => by simp [eqGuard, Go.binOp, Op.intCmp]⟩
  case geq => exact ⟨_, .bool (decide (m ≥ n)), h, rfl, fun x y w => by simp [eqGuard, Go.binOp, Op.intCmp]⟩
theorem shf_sound {op : BinOp} {t : Nat} {k ky : IntKind} {m n : Int} (hs : isShift op = true) (h : (shf op k m n).all Φ) :
    ∃ sv r, Φ sv ∧ repV ρ R sv r ∧ ∀ (x y : Operand) w, (do eqGuard op t x y (.int k m) (.int ky n); Go.binOp op t (.int k m) (.int ky n) : Sem Value).run P w = .ok r w := by
  cases op <;> first | (cases hs; done) | skip
  all_goals
    obtain ⟨h0, h1⟩ := h
    exact ⟨_, .int k _, h1 h0, rfl, fun x y w => by simp [eqGuard, Go.binOp, Op.shift, Int.not_lt.mpr h0]⟩
theorem str_app (l m : List UInt8) : (⟨l.toArray⟩ : ByteArray) ++ ⟨m.toArray⟩ = ⟨(l ++ m).toArray⟩ := by
  apply ByteArray.ext
  simp [ByteArray.data_append]
theorem str_size (l : List UInt8) : (⟨l.toArray⟩ : ByteArray).size = l.length := by simp [ByteArray.size]
theorem binS_sound {op : BinOp} {t : Nat} {l m : List UInt8} (h : (binS op l m).all Φ) :
    ∃ sv r, Φ sv ∧ repV ρ R sv r ∧ ∀ (x y : Operand) w, (do eqGuard op t x y (.string ⟨l.toArray⟩) (.string ⟨m.toArray⟩); Go.binOp op t (.string ⟨l.toArray⟩) (.string ⟨m.toArray⟩) : Sem Value).run P w = .ok r w := by
  unfold binS at h
  split at h
  · obtain ⟨h0, h1⟩ := h
    exact ⟨_, .string (⟨l.toArray⟩ ++ ⟨m.toArray⟩), h1 h0, congrArg Value.string (str_app l m), fun x y w => by simp [eqGuard, Go.binOp, Op.stringOp, str_size]; omega⟩
  · exact ⟨_, .bool (l == m), h, by simp only [repV, rep1, repS, Value.bool.injEq]; rw [Bool.eq_iff_iff]; simp, fun x y w => by simp [eqGuard, Go.binOp, Op.stringOp, ByteArray.toList_eq]⟩
  · exact ⟨_, .bool (!(l == m)), h, by simp only [repV, rep1, repS, Value.bool.injEq]; rw [Bool.eq_iff_iff]; simp, fun x y w => by simp [eqGuard, Go.binOp, Op.stringOp, ByteArray.toList_eq]⟩
  · exact h.elim
theorem ptr_rep {x y : Sc} {b : Bool} {u v : Value} (h : ptrEq x y = some b) (hu : repS ρ R x u) (hv : repS ρ R y v) : ∃ a c, u = .pointer a ∧ v = .pointer c ∧ ((a = none ∧ b = c.isNone) ∨ ∃ a', a = some a' ∧ c = none ∧ b = false) := by
  unfold ptrEq at h
  split at h
  · cases h; exact ⟨_, _, hu, hv, .inl ⟨rfl, rfl⟩⟩
  · cases h; obtain ⟨_, _, hv⟩ := hv; exact ⟨_, _, hu, hv, .inl ⟨rfl, rfl⟩⟩
  · cases h; obtain ⟨_, _, hu⟩ := hu; exact ⟨_, _, hu, hv, .inr ⟨_, rfl, rfl, rfl⟩⟩
  · cases h; obtain ⟨_, _, hv⟩ := hv; exact ⟨_, _, hu, hv, .inl ⟨rfl, rfl⟩⟩
  · cases h; obtain ⟨_, _, hu⟩ := hu; exact ⟨_, _, hu, hv, .inr ⟨_, rfl, rfl, rfl⟩⟩
  · cases h
variable {cx : Ctx} (hcx : CtxOK P cx)
include hcx
theorem eqO_sound {t : Nat} {ss qs : List Seg} {us vs : List Value} {b : Bool} (h : eqO cx t ss qs = some b) (hu : repG ρ R ss us) (hv : repG ρ R qs vs) :
    P.eqGuardType P.depth t = false ∧ ∀ w, (Op.equalIn 10000 t (.agg us.toArray) (.agg vs.toArray)).run P w = .ok b w := by
  unfold eqO at h
  rw [Option.bind_eq_some_iff] at h
  obtain ⟨ks, hk, h⟩ := h
  obtain ⟨hE, hg⟩ := hcx.eqs _ _ hk
  cases hb : (fits ks ss && fits ks qs) with
  | false => simp [hb] at h
  | true =>
    simp only [hb, cond_true] at h
    simp only [Bool.and_eq_true] at hb
    refine ⟨hg, fun w => ?_⟩
    obtain ⟨b', h1, h2⟩ := hE w us vs (fits_rep hb.1 hu) (fits_rep hb.2 hv)
    have h3 := (eqSegs_rep h hu hv).1
    have : b' = b := by rw [Bool.eq_iff_iff, h2, h3]
    rw [← this]
    exact h1
theorem eq1_sound {t : Nat} {x y z : Sc} {u v : Value} (h : eq1 cx t x y = some z) (hu : repS ρ R x u) (hv : repS ρ R y v) :
    ∃ b, repS ρ R z (.bool b) ∧ repS ρ R (notS z) (.bool (!b)) ∧ (∀ op w (p q : Operand), (eqGuard op t p q u v).run P w = .ok () w) ∧ ∀ w, (Go.binOp .eql t u v).run P w = .ok (.bool b) w ∧ (Go.binOp .neq t u v).run P w = .ok (.bool (!b)) w := by
  unfold eq1 at h
  split at h
  · rename_i ti hti
    have hund := (hcx.ty _ _ hti).und
    split at h
    · rename_i hd
      rw [hd] at hund
      split at h
      · rename_i a c h1 h2
        cases h
        have e1 := bo_rep h1 hu
        have e2 := bo_rep h2 hv
        subst e1 e2
        refine ⟨a == c, rfl, rfl, fun op w p q => by cases op <;> simp [eqGuard], fun w => ?_⟩
        have := Z.run_eqBool (P := P) (w := w) (u := a) (v := c) hund
        exact ⟨by simp [Go.binOp, this], by simp [Go.binOp, this]⟩
      · cases h
    · rename_i el hd
      rw [hd] at hund
      rw [Option.map_eq_some_iff] at h
      obtain ⟨b, hb, rfl⟩ := h
      have key : (∀ op w (p q : Operand), (eqGuard op t p q u v).run P w = .ok () w) ∧ ∀ w, (Op.equal t u v).run P w = .ok b w ∧ (∃ a c, u = .pointer a ∧ v = .pointer c) := by
        obtain ⟨a, c, rfl, rfl, hh⟩ := ptr_rep hb hu hv
        refine ⟨fun op w p q => by cases op <;> simp [eqGuard], fun w => ⟨?_, _, _, rfl, rfl⟩⟩
        have key : ∀ dd, (Op.equalIn (dd + 1) t (.pointer a) (.pointer c)).run P w = .ok b w := fun dd => by
          rcases hh with ⟨rfl, rfl⟩ | ⟨a', rfl, rfl, rfl⟩
          · simp [Op.equalIn, underlying, hund]
          · simp [Op.equalIn, underlying, hund]
        exact key 9999
      refine ⟨b, rfl, rfl, key.1, fun w => ?_⟩
      obtain ⟨hk, a, c, rfl, rfl⟩ := key.2 w
      exact ⟨by simp [Go.binOp, hk], by simp [Go.binOp, hk]⟩
    · cases h
  · cases h
theorem binV_sound {op : BinOp} {t : Nat} {u v : V1} {a b : Value} (h : (binV cx op t u v).all Φ) (hu : rep1 ρ R u a) (hv : rep1 ρ R v b) :
    ∃ sv r, Φ sv ∧ repV ρ R sv r ∧ ∀ (x y : Operand) w, (do eqGuard op t x y a b; Go.binOp op t a b : Sem Value).run P w = .ok r w := by
  unfold binV at h
  split at h
  · rename_i k m k' n
    simp only [rep1, repS] at hu hv
    subst hu hv
    cases hs : isShift op with
    | true => simp only [hs, cond_true] at h; exact shf_sound hs h
    | false =>
      simp only [hs, cond_false] at h
      cases hk : Nat.beq (kc k) (kc k') with
      | false => simp only [hk, cond_false] at h; exact h.elim
      | true =>
        simp only [hk, cond_true] at h
        rw [← kc_inj hk]
        exact binI_sound hs h
  · simp only [rep1, repS] at hu hv
    subst hu hv
    exact binS_sound h
  · rename_i ss qs
    obtain ⟨us, rfl, hu⟩ := hu
    obtain ⟨vs, rfl, hv⟩ := hv
    cases op <;> first | exact h.elim | skip
    · obtain ⟨b, hb, h⟩ := peel h
      obtain ⟨hg, hrun⟩ := eqO_sound hcx hb hu hv
      exact ⟨_, .bool b, h, rfl, fun x y w => by simp [run_eqGuard_agg w _ _ _ _ _ _ hg, run_eql_struct, hrun]⟩
    · obtain ⟨b, hb, h⟩ := peel h
      obtain ⟨hg, hrun⟩ := eqO_sound hcx hb hu hv
      exact ⟨_, .bool (!b), h, rfl, fun x y w => by simp [run_eqGuard_agg w _ _ _ _ _ _ hg, run_neq_struct, hrun]⟩
  · rename_i x y _ _
    cases op <;> first | exact h.elim | skip
    · obtain ⟨z, hz, h⟩ := peel h
      obtain ⟨b, h1, h2, h3, h4⟩ := eq1_sound hcx hz hu hv
      exact ⟨_, .bool b, h, h1, fun p q w => by simp [h3, (h4 w).1]⟩
    · obtain ⟨z, hz, h⟩ := peel h
      obtain ⟨b, h1, h2, h3, h4⟩ := eq1_sound hcx hz hu hv
      exact ⟨_, .bool (!b), h, h2, fun p q w => by simp [h3, (h4 w).2]⟩
  · exact h.elim
omit hcx in
theorem unV_sound {op : UnOp} {x : Sc} {u : Value} (h : (unV op x).all Φ) (hu : repS ρ R x u) : ∃ sv r, Φ sv ∧ repV ρ R sv r ∧ ∀ w, (Op.unary op u).run P w = .ok r w := by
  unfold unV at h
  split at h
  · simp only [repS] at hu
    subst hu
    split at h
    · exact ⟨_, _, h, rfl, fun w => by simp [Op.unary]⟩
    · exact h.elim
  · simp only [repS] at hu
    subst hu
    split at h
    · exact ⟨_, _, h, rfl, fun w => by simp [Op.unary]⟩
    · exact h.elim
  · simp only [repS] at hu
    subst hu
    split at h
    · exact ⟨_, _, h, rfl, fun w => by simp [Op.unary, Op.intArith]⟩
    · exact ⟨_, _, h, rfl, fun w => by simp [Op.unary, Op.intBits, bits]⟩
    · exact h.elim
  · exact h.elim
omit hcx in
theorem convV_sound {s d : Nat} {ts td : TyI} {x : Sc} {u : Value} (hs : TyOK P s ts) (hd : TyOK P d td) (h : (convV ts.d td.d x).all Φ) (hu : repS ρ R x u) : ∃ sv r, Φ sv ∧ repV ρ R sv r ∧ ∀ w, (Go.convert s d u).run P w = .ok r w := by
  have h1 := hs.und
  have h2 := hd.und
  unfold convV at h
  split at h
  · rename_i k n
    simp only [repS] at hu
    subst hu
    split at h
    · rename_i k1 k2 e1 e2
      rw [e1] at h1
      rw [e2] at h2
      exact ⟨_, _, h, rfl, fun w => by simp [convert, h1, h2, underlying, Conv.intToInt]⟩
    · exact h.elim
  · exact h.elim
omit hcx in
theorem mrgV_rep {x : Bool} {u v z : V1} {a b : Value} (h : mrgV x u v = some z) (hu : rep1 ρ R u a) (hv : rep1 ρ R v b) : rep1 ρ R z (if x then a else b) := by
  unfold mrgV at h
  split at h
  · rename_i k m k' n
    cases hb : Nat.beq (kc k) (kc k') with
    | false => simp [hb] at h
    | true =>
      simp only [hb, cond_true, Option.some.injEq] at h
      have := kc_inj hb
      subst this h
      simp only [rep1, repS] at hu hv ⊢
      subst hu hv
      cases x <;> rfl
  · cases h
    simp only [rep1, repS] at hu hv ⊢
    subst hu hv
    cases x <;> rfl
  · split at h
    · rename_i c d h1 h2
      cases h
      have e1 := bo_rep h1 hu
      have e2 := bo_rep h2 hv
      subst e1 e2
      simp only [rep1, repS]
      cases x <;> rfl
    · cases h
  · cases h
end
end Go.Y
