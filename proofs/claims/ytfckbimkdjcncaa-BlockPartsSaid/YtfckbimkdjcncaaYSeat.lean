/- Contexts out of lists; types' zero values checked. Generic in the program. -/
import Derived.Test.YtfckbimkdjcncaaYLoop
set_option linter.unusedSimpArgs false
set_option linter.unusedVariables false
namespace Go.Y
open Go.Z (Row Blk Kd)
def codeOf (f : Func) : Code := match f.body with
  | some c => c
  | none => .skip
def lkC : List (Nat × Con) → Nat → Option Con
  | [], _ => none
  | (k, c) :: r, f => bif Nat.beq k f then some c else lkC r f
def okC (P : Program) : List (Nat × Con) → Prop
  | [] => True
  | (f, c) :: r => (ConOK P f c ∧ ∀ args w, (callFunc f args).run P w = .ok (.enter f args) w) ∧ okC P r
def lkE : List (Nat × List Kd) → Nat → Option (List Kd)
  | [], _ => none
  | (k, c) :: r, f => bif Nat.beq k f then some c else lkE r f
def okE (P : Program) : List (Nat × List Kd) → Prop
  | [] => True
  | (t, ks) :: r => (Z.AggEq P 10000 t ks ∧ P.eqGuardType P.depth t = false) ∧ okE P r
abbrev LpT := Env → List Bk → List Rw → Tr (X × Env × List Bk)
def lkL : List (Nat × LpT) → Nat → Option LpT
  | [], _ => none
  | (k, c) :: r, f => bif Nat.beq k f then some c else lkL r f
def okTm (P : Program) : Tm → Prop
  | .leaf => True
  | .node l k v r => okTm P l ∧ TyOK P k v ∧ okTm P r
theorem okTm_get {P : Program} : ∀ {m : Tm} {t : Nat} {ti : TyI}, okTm P m → m.get t = some ti → TyOK P t ti
  | .leaf, _, _, _, h => by cases h
  | .node l k v r, t, ti, ⟨h1, h2, h3⟩, h => by
    simp only [Tm.get] at h
    cases hb : Nat.beq t k with
    | true =>
      simp only [hb, cond_true, Option.some.injEq] at h
      subst h
      rw [Nat.eq_of_beq_eq_true hb]
      exact h2
    | false =>
      simp only [hb, cond_false] at h
      cases hl : Nat.blt t k with
      | true => simp only [hl, cond_true] at h; exact okTm_get h1 h
      | false => simp only [hl, cond_false] at h; exact okTm_get h3 h
def mkCtx (ty : Tm) (eqs : List (Nat × List Kd)) (cs : List (Nat × Con)) (ls : List (Nat × LpT)) : Ctx := ⟨ty, lkC cs, lkE eqs, lkL ls⟩
theorem okC_get {P : Program} : ∀ {cs : List (Nat × Con)} {f : Nat} {con : Con}, okC P cs → lkC cs f = some con → ConOK P f con ∧ ∀ args w, (callFunc f args).run P w = .ok (.enter f args) w
  | [], _, _, _, h => by cases h
  | (k, l) :: r, f, con, hc, h => by
    simp only [lkC] at h
    cases hb : Nat.beq k f with
    | true =>
      simp only [hb, cond_true, Option.some.injEq] at h
      subst h
      rw [← Nat.eq_of_beq_eq_true hb]
      exact hc.1
    | false => simp only [hb, cond_false] at h; exact okC_get hc.2 h
theorem okE_get {P : Program} : ∀ {eqs : List (Nat × List Kd)} {t : Nat} {ks : List Kd}, okE P eqs → lkE eqs t = some ks → Z.AggEq P 10000 t ks ∧ P.eqGuardType P.depth t = false
  | [], _, _, _, h => by cases h
  | (k, l) :: r, t, ks, he, h => by
    simp only [lkE] at h
    cases hb : Nat.beq k t with
    | true =>
      simp only [hb, cond_true, Option.some.injEq] at h
      subst h
      rw [← Nat.eq_of_beq_eq_true hb]
      exact he.1
    | false => simp only [hb, cond_false] at h; exact okE_get he.2 h
theorem mkCtx_ok {P : Program} {ty : Tm} {eqs : List (Nat × List Kd)} {cs : List (Nat × Con)} (ls : List (Nat × LpT)) (hm : P.follows .mixedOrders = true) (ht : okTm P ty) (he : okE P eqs) (hc : okC P cs) : CtxOK P (mkCtx ty eqs cs ls) where
  mixed := hm
  ty := fun _ _ h => okTm_get ht h
  eqs := fun t ks h => okE_get he h
  con := fun f con h => okC_get hc h
/-- a cell's value, told apart by looking -/
def eqI : Int → Int → Bool
  | .ofNat m, .ofNat n => Nat.beq m n
  | .negSucc m, .negSucc n => Nat.beq m n
  | _, _ => false
def chk1 : Sc → Value → Bool
  | .kb x, .bool y => x == y
  | .b x, .bool y => x == y
  | .i k n, .int k' m => Nat.beq (kc k) (kc k') && eqI n m
  | .s [], .string ⟨⟨[]⟩⟩ => true
  | .np, .pointer none => true
  | .ns, .slice none n m => Nat.beq n 0 && Nat.beq m 0
  | .o .nilIface, .nilIface => true
  | .o .nilFunc, .nilFunc => true
  | _, _ => false
def chkL : List Sc → List Value → Bool
  | [], [] => true
  | x :: r, y :: q => chk1 x y && chkL r q
  | _, _ => false
theorem eqI_eq : ∀ {a b : Int}, eqI a b = true → a = b
  | .ofNat m, .ofNat n, h => by rw [Nat.eq_of_beq_eq_true h]
  | .negSucc m, .negSucc n, h => by rw [Nat.eq_of_beq_eq_true h]
  | .ofNat _, .negSucc _, h => by cases h
  | .negSucc _, .ofNat _, h => by cases h
theorem chk1_rep {ρ : List Nat} {R : List Row} {x : Sc} {v : Value} (h : chk1 x v = true) : repS ρ R x v := by
  unfold chk1 at h
  split at h
  · simp only [repS]; rw [eq_of_beq h]
  · simp only [repS]; rw [eq_of_beq h]
  · simp only [Bool.and_eq_true] at h
    simp only [repS]
    rw [kc_inj h.1, eqI_eq h.2]
  · rfl
  · rfl
  · simp only [Bool.and_eq_true] at h
    simp only [repS]
    rw [Nat.eq_of_beq_eq_true h.1, Nat.eq_of_beq_eq_true h.2]
  · exact ⟨rfl, rfl⟩
  · exact ⟨rfl, rfl⟩
  · cases h
theorem chkL_rep {ρ : List Nat} {R : List Row} : ∀ {xs : List Sc} {vs : List Value}, chkL xs vs = true → A2 (repS ρ R) xs vs
  | [], [], _ => .nil
  | x :: r, y :: q, h => by
    simp only [chkL, Bool.and_eq_true] at h
    exact .cons (chk1_rep h.1) (chkL_rep h.2)
  | [], _ :: _, h => by cases h
  | _ :: _, [], h => by cases h
def wfB : List Seg → Bool
  | [] => true
  | .one _ :: r => wfB r
  | .arr _ n l :: r => Nat.beq (Y.len l) n && wfB r
theorem wfB_wf : ∀ {ss : List Seg}, wfB ss = true → wfG ss
  | [], _ => trivial
  | .one _ :: r, h => wfB_wf (ss := r) h
  | .arr _ n l :: r, h => by
    simp only [wfB, Bool.and_eq_true] at h
    exact ⟨by rw [← len_eq]; exact Nat.eq_of_beq_eq_true h.1, wfB_wf h.2⟩
def chkBy (P : Program) (t n : Nat) : Bool := match P.info? t with
  | some i => Nat.ble i.bytes (32 * n)
  | none => true
theorem chkBy_ok {P : Program} {t n : Nat} (h : chkBy P t n = true) : ∀ i, P.info? t = some i → i.bytes ≤ 32 * n := fun i hi => by
  unfold chkBy at h
  rw [hi] at h
  exact Nat.le_of_ble_eq_true h
theorem TyOK.scalar {P : Program} {t : Nat} {d : TypeDesc} {sh : Option Nat} {x : Sc} {v : Value} (hu : P.underlying t = some d) (ha : ∀ w, (isAgg t).run P w = .ok false w) (hs : ∀ w, (sizeOf t).run P w = .ok 1 w) (hz : ∀ w, (zeroValue t).run P w = .ok v w) (hc : chk1 x v = true) (hb : chkBy P t 1 = true) : TyOK P t ⟨d, false, 1, some (.c x), sh⟩ :=
  ⟨hu, ha, hs, fun _ => rfl, fun z hz' => by cases hz'; exact ⟨v, hz, fun _ _ => chk1_rep hc⟩, chkBy_ok hb⟩
theorem TyOK.agg' {P : Program} {t n : Nat} {d : TypeDesc} {sh : Option Nat} {ss : List Seg} {cs : List Value} (hu : P.underlying t = some d) (ha : ∀ w, (isAgg t).run P w = .ok true w) (hs : ∀ w, (sizeOf t).run P w = .ok n w) (hz : ∀ w, (zeroValue t).run P w = .ok (.agg cs.toArray) w) (hc : (wfB ss && chkL (cellsOf ss) cs) = true) (hb : chkBy P t n = true) : TyOK P t ⟨d, true, n, some (.agg ss), sh⟩ :=
  ⟨hu, ha, hs, (fun h => by cases h), fun z hz' => by
    cases hz'
    simp only [Bool.and_eq_true] at hc
    exact ⟨_, hz, fun _ _ => ⟨cs, rfl, wfB_wf hc.1, chkL_rep hc.2⟩⟩, chkBy_ok hb⟩
theorem TyOK.noZero {P : Program} {t n : Nat} {d : TypeDesc} {ag : Bool} {sh : Option Nat} (hu : P.underlying t = some d) (ha : ∀ w, (isAgg t).run P w = .ok ag w) (hs : ∀ w, (sizeOf t).run P w = .ok n w) (h1 : ag = false → n = 1) (hb : chkBy P t n = true) : TyOK P t ⟨d, ag, n, none, sh⟩ :=
  ⟨hu, ha, hs, h1, (fun _ h => by cases h), chkBy_ok hb⟩
end Go.Y
