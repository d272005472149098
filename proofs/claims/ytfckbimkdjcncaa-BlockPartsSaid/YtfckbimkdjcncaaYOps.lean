/- Each operation gives what the reckoner says. Generic in the program. -/
import Derived.Test.YtfckbimkdjcncaaYRep
set_option linter.unusedSimpArgs false
set_option linter.unusedVariables false
namespace Go.Y
open Go.Z (Row Blk plainV Keep RowAt Fits runsTo Pre)
theorem kc_inj {k k' : IntKind} (h : Nat.beq (kc k) (kc k') = true) : k = k' := by
  revert h
  cases k <;> cases k' <;> intro h <;> first | rfl | exact absurd h (by decide)
section
variable {α β : Type} {n : Nat} {K : β → Prop}
theorem peel {x : Option α} {g : α → Tr β} (h : ((ofO n x).bind g).all K) : ∃ y, x = some y ∧ (g y).all K := by
  cases x with
  | none => exact h.elim
  | some y => exact ⟨y, rfl, h⟩
theorem peelO {x : Option β} (h : (ofO n x).all K) : ∃ y, x = some y ∧ K y := by
  cases x with
  | none => exact h.elim
  | some y => exact ⟨y, rfl, h⟩
end
structure TyOK (P : Program) (t : Nat) (ti : TyI) : Prop where
  und : P.underlying t = some ti.d
  agg : ∀ w, (isAgg t).run P w = .ok ti.ag w
  size : ∀ w, (sizeOf t).run P w = .ok ti.sz w
  one : ti.ag = false → ti.sz = 1
  zero : ∀ z, ti.z = some z → ∃ v, (∀ w, (zeroValue t).run P w = .ok v w) ∧ ∀ ρ R, rep1 ρ R z v
  bytes : ∀ i, P.info? t = some i → i.bytes ≤ 32 * ti.sz
/-- a contract: of what the tree says one thing comes -/
def ConOK (P : Program) (f : FuncId) (con : Con) : Prop :=
  ∀ (args : List SV) (H : List Bk) (W : List Rw) (K : SV × List Bk → Prop), (con.run args H W).all K → (con.ro = true → ∀ B ∈ H, B.wr = false) →
    ∀ (ρ : List Nat) (R : List Row) (args' : List Value) (H' : List Blk), A2 (repV ρ R) args args' → repH ρ R H H' → repR W R →
      Z.Spec P f args' H' R fun v H1' => ∃ sv H1 ρ', K (sv, H1) ∧ (∀ (n b : Nat), ρ[n]? = some b → ρ'[n]? = some b) ∧ repV ρ' R sv v ∧ repH ρ' R H1 H1'
structure CtxOK (P : Program) (cx : Ctx) : Prop where
  mixed : P.follows .mixedOrders = true
  ty : ∀ t ti, cx.ty.get t = some ti → TyOK P t ti
  eqs : ∀ t ks, cx.eqs t = some ks → Z.AggEq P 10000 t ks ∧ P.eqGuardType P.depth t = false
  con : ∀ f con, cx.con f = some con → ConOK P f con ∧ ∀ args w, (callFunc f args).run P w = .ok (.enter f args) w
/-- what an operation finds in memory -/
structure Mem (H' : List Blk) (R : List Row) (rd : List Nat) (rr : Bool) (w : World) : Prop where
  blk : ∀ n ∈ rd, ∀ B, H'[n]? = some B → w.heap[B.b]? = some (.cells B.cs.toArray B.t B.fz)
  row : rr = true → ∀ r ∈ R, RowAt w r
def Runs (P : Program) (op : Op) (N : Nat) (e' : Z.Env) (v : Value) (mem : World → Prop) : Prop :=
  ∀ (o : Oper) (a : Act) (w : World), o.op = op → Fits N a e' → mem w → runsTo P o a w fun v' w' => v' = v ∧ Keep [] w w'
theorem Runs.val {P : Program} {op : Op} {N : Nat} {e' : Z.Env} {v : Value} {mem : World → Prop} (h : ∀ (o : Oper) (a : Act) (w : World), o.op = op → Fits N a e' → mem w → (execOp a.eval o).run P w = .ok (.value v) w) : Runs P op N e' v mem :=
  fun o a w ho ha hm => by
    unfold runsTo
    rw [h o a w ho ha hm]
    exact ⟨rfl, Keep.refl _ _⟩
/-! ### Values equal -/
theorem bo_rep {ρ : List Nat} {R : List Row} {x : Sc} {v : Value} {b : Bool} (h : bo x = some b) (hx : repS ρ R x v) : v = .bool b := by
  cases x <;> simp [bo] at h
  · subst h; exact hx
  · subst h; exact hx
theorem bo_of {ρ : List Nat} {R : List Row} {x : Sc} {b : Bool} (hx : repS ρ R x (.bool b)) (h : ∃ c, bo x = some c) : bo x = some b := by
  obtain ⟨c, hc⟩ := h
  have := bo_rep hc hx
  cases this
  exact hc
theorem eqSc_rep {ρ : List Nat} {R : List Row} {x y : Sc} {u v : Value} {b : Bool} (h : eqSc x y = some b) (hx : repS ρ R x u) (hy : repS ρ R y v) : b = true ↔ u = v := by
  unfold eqSc at h
  split at h
  · rename_i k m k' n
    cases hb : Nat.beq (kc k) (kc k') with
    | false => simp [hb] at h
    | true =>
      simp only [hb, cond_true, Option.some.injEq] at h
      have := kc_inj hb
      subst this h
      simp only [repS] at hx hy
      subst hx hy
      simp
  · simp only [Option.some.injEq] at h
    subst h
    simp only [repS] at hx hy
    subst hx hy
    simp
  · split at h
    · rename_i a c h1 h2
      simp only [Option.some.injEq] at h
      subst h
      have e1 := bo_rep h1 hx
      have e2 := bo_rep h2 hy
      subst e1 e2
      simp
    · cases h
theorem A2.eq {α : Type} {xs ys : List α} (h : A2 (fun x y => x = y) xs ys) : xs = ys := by
  induction h with
  | nil => rfl
  | cons h _ ih => rw [h, ih]
theorem Sh.inj {ρ : List Nat} {R : List Row} : ∀ (id : Nat) {x y : Sh id} {vs : List Value}, A2 (repS ρ R) (Sh.f id x) vs → A2 (repS ρ R) (Sh.f id y) vs → id < 8 → x = y := by
  intro id x y vs h1 h2 hid
  match id, hid, x, y, h1, h2 with
  | 0, _, x, y, .cons a .nil, .cons b .nil => simp only [repS] at a b; subst a; cases b; rfl
  | 1, _, x, y, .cons a .nil, .cons b .nil => simp only [repS] at a b; subst a; cases b; rfl
  | 2, _, x, y, .cons a .nil, .cons b .nil => simp only [repS] at a b; subst a; cases b; rfl
  | 3, _, x, y, .cons a .nil, .cons b .nil => simp only [repS] at a b; subst a; cases b; rfl
  | 4, _, x, y, .cons a .nil, .cons b .nil =>
    simp only [repS] at a b
    subst a
    simp only [Value.string.injEq, ByteArray.mk.injEq] at b
    have := congrArg Array.toList b
    simpa using this
  | 5, _, ⟨_, _, _, _, _, _⟩, ⟨_, _, _, _, _, _⟩, .cons a1 (.cons a2 (.cons a3 (.cons a4 (.cons a5 (.cons a6 .nil))))), .cons b1 (.cons b2 (.cons b3 (.cons b4 (.cons b5 (.cons b6 .nil))))) =>
    simp only [repS] at *
    subst a1 a2 a3 a4 a5 a6
    cases b1; cases b2; cases b3; cases b4; cases b5; cases b6
    rfl
  | 6, _, ⟨_, _⟩, ⟨_, _⟩, .cons a1 (.cons a2 .nil), .cons b1 (.cons b2 .nil) =>
    simp only [repS] at *
    subst a1 a2
    cases b1; cases b2
    rfl
  | 7, _, ⟨_, _, _⟩, ⟨_, _, _⟩, .cons a1 (.cons a2 (.cons a3 .nil)), .cons b1 (.cons b2 (.cons b3 .nil)) =>
    simp only [repS] at *
    subst a1 a2 a3
    cases b1; cases b2; cases b3
    rfl
theorem flat_inj {ρ : List Nat} {R : List Row} {id : Nat} (hid : id < 8) : ∀ {l l' : List (Sh id)} {vs vs' : List Value}, l.length = l'.length → A2 (repS ρ R) (l.flatMap (Sh.f id)) vs → A2 (repS ρ R) (l'.flatMap (Sh.f id)) vs' → (l = l' ↔ vs = vs')
  | [], [], vs, vs', _, h, h' => by
    have h := A2.nil' h
    have h' := A2.nil' h'
    subst h h'
    simp
  | x :: r, y :: r', vs, vs', hl, h, h' => by
    simp only [List.flatMap_cons] at h h'
    obtain ⟨c1, c2, rfl, a1, a2⟩ := h.split
    obtain ⟨d1, d2, rfl, b1, b2⟩ := h'.split
    have hcd : c1.length = d1.length := by rw [← a1.len, ← b1.len, Sh.f_len, Sh.f_len]
    have ih := flat_inj hid (by simpa using hl) a2 b2
    have hhead : x = y ↔ c1 = d1 := by
      constructor
      · rintro rfl
        have : ∀ {xs : List Sc} {us us' : List Value}, (∀ z ∈ xs, bare z = true) → A2 (repS ρ R) xs us → A2 (repS ρ R) xs us' → us = us' := by
          intro xs us us' hb h1
          induction h1 generalizing us' with
          | nil => intro h2; exact (A2.nil' h2).symm
          | @cons z u zs us hz _ ih =>
            intro h2
            obtain ⟨u', us'', rfl, hz', h3⟩ := A2.cons_inv h2
            have hzb := hb z List.mem_cons_self
            have : u = u' := by
              cases z <;> first | (cases hzb; done) | (simp only [repS] at hz hz'; rw [hz, hz'])
            rw [this, ih (fun z hz => hb z (List.mem_cons_of_mem _ hz)) h3]
        exact this (Sh.f_bare id x) a1 b1
      · rintro rfl
        exact Sh.inj id a1 b1 hid
    rw [List.cons.injEq, hhead, ih]
    constructor
    · rintro ⟨rfl, rfl⟩; rfl
    · intro he
      exact List.append_inj he hcd
theorem eqSeg_rep {ρ : List Nat} {R : List Row} {x y : Seg} {us vs : List Value} {b : Bool} (h : eqSeg x y = some b) (hx : repG ρ R [x] us) (hy : repG ρ R [y] vs) : (b = true ↔ us = vs) ∧ us.length = vs.length := by
  unfold eqSeg at h
  split at h
  · obtain ⟨_, h1⟩ := hx
    obtain ⟨_, h2⟩ := hy
    obtain ⟨u, us', rfl, hu, hn⟩ := A2.cons_inv h1
    obtain ⟨v, vs', rfl, hv, hm⟩ := A2.cons_inv h2
    have hn := A2.nil' hn
    have hm := A2.nil' hm
    subst hn hm
    rw [eqSc_rep h hu hv]
    simp
  · rename_i id n l id' n' l'
    split at h
    · rename_i hid
      subst hid
      cases hb : (Nat.blt id 8 && Nat.beq n n') with
      | false => simp [hb] at h
      | true =>
        simp only [hb, cond_true, Option.some.injEq] at h
        simp only [Bool.and_eq_true] at hb
        have := Nat.eq_of_beq_eq_true hb.2
        subst this h
        obtain ⟨⟨e1, _⟩, h1⟩ := hx
        obtain ⟨⟨e2, _⟩, h2⟩ := hy
        simp only [cellsOf, List.append_nil] at h1 h2
        have := flat_inj (blt_lt hb.1) (by rw [e1, e2]) h1 h2
        refine ⟨by unfold eqL; exact decide_eq_true_iff.trans this, ?_⟩
        rw [← h1.len, ← h2.len, flat_len, flat_len, e1, e2]
    · cases h
  · cases h
theorem eqSegs_rep {ρ : List Nat} {R : List Row} : ∀ {ss qs : List Seg} {us vs : List Value} {b : Bool}, eqSegs ss qs = some b → repG ρ R ss us → repG ρ R qs vs → (b = true ↔ us = vs) ∧ us.length = vs.length
  | [], [], us, vs, b, h, hx, hy => by
    cases h
    have h1 := A2.nil' hx.2
    have h2 := A2.nil' hy.2
    subst h1 h2
    simp
  | x :: r, y :: q, us, vs, b, h, hx, hy => by
    simp only [eqSegs] at h
    obtain ⟨hxw, hxr⟩ := hx
    obtain ⟨hyw, hyr⟩ := hy
    rw [cellsOf_cons] at hxr hyr
    obtain ⟨c1, c2, rfl, a1, a2⟩ := hxr.split
    obtain ⟨d1, d2, rfl, b1, b2⟩ := hyr.split
    split at h
    · rename_i p p' h1 h2
      have g1 := eqSeg_rep h1 ⟨wfG_head hxw, a1⟩ ⟨wfG_head hyw, b1⟩
      have g2 := eqSegs_rep h2 ⟨wfG_tail hxw, a2⟩ ⟨wfG_tail hyw, b2⟩
      have key : (p && p') = true ↔ c1 ++ c2 = d1 ++ d2 := by
        rw [Bool.and_eq_true, g1.1, g2.1]
        exact ⟨fun ⟨e1, e2⟩ => by rw [e1, e2], fun e => List.append_inj e g1.2⟩
      refine ⟨?_, by simp [g1.2, g2.2]⟩
      cases r with
      | nil =>
        cases h
        cases q with
        | nil =>
          have h3 := A2.nil' a2
          have h4 := A2.nil' b2
          subst h3 h4
          simpa using g1.1
        | cons _ _ => cases h2
      | cons _ _ => cases h; exact key
    · cases h
  | [], _ :: _, _, _, _, h, _, _ => by cases h
  | _ :: _, [], _, _, _, h, _, _ => by cases h
theorem eqK_eq {x y : Z.Kd} (h : eqK x y = true) : x = y := by
  cases x <;> cases y <;> first | (cases h; done) | rfl | (rw [kc_inj h])
theorem preK_eq : ∀ {k0 ks r : List Z.Kd}, preK k0 ks = some r → ks = k0 ++ r
  | [], ks, r, h => by cases h; rfl
  | x :: q, [], r, h => by cases h
  | x :: q, y :: p, r, h => by
    simp only [preK] at h
    cases hb : eqK x y with
    | false => simp [hb] at h
    | true =>
      simp only [hb, cond_true] at h
      rw [eqK_eq hb, preK_eq h, List.cons_append]
theorem FitsK_app : ∀ {ks ks' : List Z.Kd} {us vs : List Value}, Z.FitsK ks us → Z.FitsK ks' vs → Z.FitsK (ks ++ ks') (us ++ vs)
  | [], _, [], _, _, h => h
  | [], _, _ :: _, _, h, _ => h.elim
  | _ :: _, _, [], _, h, _ => h.elim
  | _ :: _, _, _ :: _, _, h, h' => ⟨h.1, FitsK_app h.2 h'⟩
theorem kdS_rep {ρ : List Nat} {R : List Row} {x : Sc} {k : Z.Kd} {v : Value} (h : kdS x = some k) (hx : repS ρ R x v) : k.fits v := by
  cases x <;> simp only [kdS] at h <;> first | (cases h; done) | (cases h; exact ⟨_, hx⟩)
theorem Sh.fitsK {ρ : List Nat} {R : List Row} : ∀ (id : Nat) {x : Sh id} {vs : List Value}, A2 (repS ρ R) (Sh.f id x) vs → Z.FitsK (ksOf id) vs
  | 0, _, _, .cons a .nil => ⟨⟨_, a⟩, trivial⟩
  | 1, _, _, .cons a .nil => ⟨⟨_, a⟩, trivial⟩
  | 2, _, _, .cons a .nil => ⟨⟨_, a⟩, trivial⟩
  | 3, _, _, .cons a .nil => ⟨⟨_, a⟩, trivial⟩
  | 4, _, _, .cons a .nil => ⟨⟨_, a⟩, trivial⟩
  | 5, _, _, .cons a1 (.cons a2 (.cons a3 (.cons a4 (.cons a5 (.cons a6 .nil))))) => ⟨⟨_, a1⟩, ⟨_, a2⟩, ⟨_, a3⟩, ⟨_, a4⟩, ⟨_, a5⟩, ⟨_, a6⟩, trivial⟩
  | 6, _, _, .cons a1 (.cons a2 .nil) => ⟨⟨_, a1⟩, ⟨_, a2⟩, trivial⟩
  | 7, _, _, .cons a1 (.cons a2 (.cons a3 .nil)) => ⟨⟨_, a1⟩, ⟨_, a2⟩, ⟨_, a3⟩, trivial⟩
  | 8, _, _, .cons a1 (.cons a2 (.cons a3 (.cons a4 .nil))) => ⟨⟨_, a1⟩, ⟨_, a2⟩, ⟨_, a3⟩, ⟨_, a4⟩, trivial⟩
  | _ + 9, _, _, .nil => trivial
theorem strip_rep {ρ : List Nat} {R : List Row} {id : Nat} {r q : List Z.Kd} {vs2 : List Value} (hq : Z.FitsK r vs2) : ∀ {l : List (Sh id)} {ks : List Z.Kd} {vs : List Value}, strip (ksOf id) l.length ks = some r → A2 (repS ρ R) (l.flatMap (Sh.f id)) vs → Z.FitsK ks (vs ++ vs2)
  | [], ks, vs, h, hr => by
    have := A2.nil' hr
    subst this
    cases h
    exact hq
  | x :: l, ks, vs, h, hr => by
    simp only [List.flatMap_cons] at hr
    obtain ⟨c1, c2, rfl, a1, a2⟩ := hr.split
    simp only [List.length_cons, strip, Option.bind_eq_some_iff] at h
    obtain ⟨ks', h1, h2⟩ := h
    rw [preK_eq h1, List.append_assoc]
    exact FitsK_app (Sh.fitsK id a1) (strip_rep hq (q := q) h2 a2)
theorem fits_rep {ρ : List Nat} {R : List Row} : ∀ {ks : List Z.Kd} {ss : List Seg} {cs : List Value}, fits ks ss = true → repG ρ R ss cs → Z.FitsK ks cs
  | [], [], cs, _, h => by have := A2.nil' h.2; subst this; trivial
  | _ :: _, [], _, h, _ => by cases h
  | [], .one _ :: _, _, h, _ => by cases h
  | k :: r, .one x :: q, cs, h, hr => by
    obtain ⟨hw, hr⟩ := hr
    obtain ⟨v, vs, rfl, h1, h2⟩ := A2.cons_inv hr
    simp only [fits] at h
    split at h
    · rename_i k' hk
      simp only [Bool.and_eq_true] at h
      rw [eqK_eq h.1]
      exact ⟨kdS_rep hk h1, fits_rep h.2 ⟨hw, h2⟩⟩
    · cases h
  | ks, .arr id n l :: q, cs, h, hr => by
    obtain ⟨⟨hl, hw⟩, hr⟩ := hr
    simp only [cellsOf] at hr
    obtain ⟨c1, c2, rfl, a1, a2⟩ := hr.split
    have hu : fits ks (.arr id n l :: q) = (match strip (ksOf id) n ks with
      | some r => fits r q
      | none => false) := by cases ks <;> rfl
    rw [hu] at h
    split at h
    · rename_i r hs
      rw [← hl] at hs
      exact strip_rep (q := []) (fits_rep h ⟨hw, a2⟩) hs a1
    · cases h
end Go.Y
