/- Loops. Generic in the program. -/
import Derived.Test.YtfckbimkdjcncaaYTop
set_option linter.unusedSimpArgs false
set_option linter.unusedVariables false
namespace Go.Y
open Go.Z (Row Blk plainV Keep KeepP RowAt Fits runsTo Pre Cx TL TC TE cxOf)
abbrev LpFn := Env → List Bk → List Rw → Tr (X × Env × List Bk)
theorem selE_sub {e : Env} : ∀ {ks : List Nat} {vs : List SV}, selE e ks = some vs → Sub (zipE ks vs) e
  | [], vs, h => by cases h; intro t v hv; cases hv
  | k :: r, vs, h => by
    simp only [selE] at h
    split at h
    · rename_i v us h1 h2
      cases h
      intro t u hu
      simp only [zipE, lk_cons] at hu
      by_cases hk : k = t
      · subst hk
        rw [if_pos rfl] at hu
        cases hu
        exact ⟨_, h1, Same.refl _⟩
      · rw [if_neg hk] at hu
        exact selE_sub h2 t u hu
    · cases h
theorem Sub.nil {e : Env} : Sub [] e := by intro t u hu; cases hu
theorem Sub.cons {k : Nat} {v : SV} {r e : Env} (h : lk e k = some v) (hr : Sub r e) : Sub ((k, v) :: r) e := by
  intro t u hu
  rw [lk_cons] at hu
  by_cases hk : k = t
  · subst hk
    rw [if_pos rfl] at hu
    cases hu
    exact ⟨_, h, Same.refl _⟩
  · rw [if_neg hk] at hu
    exact hr t u hu
section
variable {P : Program} {cx : Ctx} (hcx : CtxOK P cx) {c : Cx} {ρ0 : List Nat} {N : Nat} {W : List Rw}
/-- the slots of a list, told anew -/
theorem zipE_rn {ρa ρb : List Nat} {R : List Row} {g : Nat → Nat} {a : Z.Env} : ∀ {ks : List Nat} {vs : List SV}, (∀ n ∈ nmA vs, ∀ b : Nat, ρa[n]? = some b → ρb[g n]? = some b) → (∀ (t : Nat) (x : SV), (t, x) ∈ ks.zip vs → ∃ v, Z.lk a t = some v ∧ repV ρa R x v) → repE ρb R (zipE ks (vs.map (rnV g))) a
  | [], vs, _, _ => by intro t x hx; cases vs <;> cases hx
  | k :: r, [], _, _ => by intro t x hx; cases hx
  | k :: r, v :: vs, hg, h => by
    intro t x hx
    simp only [List.map_cons, zipE, lk_cons] at hx
    by_cases hk : k = t
    · subst hk
      rw [if_pos rfl] at hx
      cases hx
      obtain ⟨u, h1, h2⟩ := h k v (by simp)
      exact ⟨u, h1, rnV_rep (fun n hn => hg n (by simp [nmA, hn])) h2⟩
    · rw [if_neg hk] at hx
      exact zipE_rn (ks := r) (vs := vs) (fun n hn => hg n (by simp [nmA, hn])) (fun t x hm => h t x (by simp [hm])) t x hx
theorem selE_mem {e : Env} {ρ : List Nat} {R : List Row} {e' : Z.Env} (he : repE ρ R e e') : ∀ {ks : List Nat} {vs : List SV}, selE e ks = some vs → ∀ (t : Nat) (x : SV), (t, x) ∈ ks.zip vs → ∃ v, Z.lk e' t = some v ∧ repV ρ R x v
  | [], vs, h, t, x, hm => by simp at hm
  | k :: r, vs, h, t, x, hm => by
    simp only [selE] at h
    split at h
    · rename_i v us h1 h2
      cases h
      simp only [List.zip_cons_cons, List.mem_cons, Prod.mk.injEq] at hm
      rcases hm with ⟨rfl, rfl⟩ | hm
      · exact he _ _ h1
      · exact selE_mem he h2 t x hm
    · cases h
theorem neO_le {ρa ρb : List Nat} {ne : Nat} {H : List Bk} (h : ρa.length ≤ ne) (hx : Ext ρa ρb) (hl : ρb.length = H.length) : ρa.length ≤ neO ne H := by
  have h1 : ρa.length ≤ H.length := by
    rw [← hl]
    cases hn : ρa.length with
    | zero => omega
    | succ n =>
      have := hx n ρa[n] (List.getElem?_eq_getElem (by omega))
      have := (List.getElem?_eq_some_iff.1 this).1
      omega
  unfold neO
  rw [len_eq]
  cases Nat.ble ne H.length <;> simp only [cond_true, cond_false] <;> assumption
theorem finE_sound {ρ ρs : List Nat} {e : Env} {e' : Z.Env} {H H1 : List Bk} {H' : List Blk} {ks keep : List Nat} {vs us : List SV} {n0 : Nat} (he : repE ρ c.R e e') (hH : repH ρ c.R H H') (hs : selE e ks = some vs) (hf : finE n0 keep vs H = some (us, H1)) (hx : Ext ρs ρ) (hn : ρs.length ≤ n0) {w : World} (hw : Z.Good c w H') :
    ∃ ρ' T, Ext ρs ρ' ∧ repE ρ' c.R (zipE ks us) e' ∧ repH ρ' c.R H1 T ∧ Z.Good c w T := by
  unfold finE at hf
  simp only at hf
  split at hf
  · rename_i Bs hBs
    cases hq : (nodupB (upto n0 ++ keep) && (allIn (upto n0 ++ keep) (nmA vs) && allIn (upto n0 ++ keep) (nmBs Bs))) with
    | false => simp [hq] at hf
    | true =>
      simp only [hq, cond_true, Option.some.injEq, Prod.mk.injEq] at hf
      obtain ⟨rfl, rfl⟩ := hf
      simp only [Bool.and_eq_true] at hq
      have hnd := nodupB_nodup hq.1
      have ha1 := allIn_iff.1 hq.2.1
      have ha2 := allIn_iff.1 hq.2.2
      obtain ⟨Bs', p1, p2⟩ := pickB_rep hH hBs
      have hg : ∀ n, n ∈ upto n0 ++ keep → ∀ b : Nat, ρ[n]? = some b → (Bs'.map Blk.b)[idx n (upto n0 ++ keep)]? = some b := fun n hn b hb => pick_ids p1 hH hn hb
      refine ⟨Bs'.map Blk.b, Bs', fun n b hb => ?_, zipE_rn (fun n hn => hg n (ha1 n hn)) (selE_mem he hs), ⟨rfl, rnBs_rep (fun n hn => hg n (ha2 n hn)) p2⟩, good_sub hw (fun x hx => ?_) (pick_nodup hw.nodup hnd p1)⟩
      · have hlt : n < n0 := Nat.lt_of_lt_of_le (List.getElem?_eq_some_iff.1 hb).1 hn
        have hnn : (upto n0 ++ keep)[n]? = some n := by
          have := upto_get hlt
          rw [List.getElem?_append_left (List.getElem?_eq_some_iff.1 this).1]
          exact this
        obtain ⟨B', h1, h2⟩ := p1.get hnn
        have h3 := hx n b hb
        rw [hH.ids, List.getElem?_map, h2] at h3
        rw [List.getElem?_map, h1]
        exact h3
      · obtain ⟨n, _, hB⟩ := pick_mem p1 x hx
        exact List.mem_of_getElem? hB
  · cases hf
def LpAt (c : Cx) (ρ0 : List Nat) (N : Nat) {σ : Type} (ks : List Nat) (E : σ → List SV) (HH : σ → List Bk) (J : σ → Prop) : Act → World → Prop := fun a w =>
  ∃ s ρ e' H', J s ∧ Ext ρ0 ρ ∧ repE ρ c.R (zipE ks (E s)) e' ∧ repH ρ c.R (HH s) H' ∧ Fits N a e' ∧ Z.Good c w H'
include hcx in
theorem loop_sound (hR : repR W c.R) {σ : Type} {body : Code} (hlp : LpOK P cx c ρ0 N W body) (ks : List Nat) (ne : Nat) (hne : ρ0.length ≤ ne) (E : σ → List SV) (HH : σ → List Bk) (I : σ → Prop) (μ : σ → Nat) (Post : X × List SV × List Bk → Prop)
    (round : ∀ s, I s → (rnd cx N W body ks ne (zipE ks (E s)) (HH s)).all fun y => (y.1 = .nor ∧ ∃ s', I s' ∧ μ s' < μ s ∧ y.2.1 = E s' ∧ y.2.2 = HH s') ∨ (y.1 ≠ .nor ∧ Post y)) {Q : Exit → Act → World → Prop}
    (hQ : ∀ y, y.1 ≠ .nor → Post y → YE c ρ0 Q N (toX y.1) (zipE ks y.2.1) y.2.2) (s0 : σ) (hI : I s0) : YC P c ρ0 Q N (.loop body) (zipE ks (E s0)) (HH s0) := fun ρ e' H' hx he hH a w ha hw => by
  let p : Act → World → Nat → Prop := fun a w n => LpAt c ρ0 N ks E HH (fun s => I s ∧ μ s = n) a w
  have hp : ∀ a w, (∃ n, p a w n) → p a w (Classical.epsilon fun n => p a w n ∧ ∀ m, p a w m → n ≤ m) ∧ ∀ m, p a w m → (Classical.epsilon fun n => p a w n ∧ ∀ m, p a w m → n ≤ m) ≤ m :=
    fun a w h => Classical.epsilon_spec (Z.least h)
  refine wp_loop (fun a w => ∃ n, p a w n) (fun a w => Classical.epsilon fun n => p a w n ∧ ∀ m, p a w m → n ≤ m) ⟨_, s0, ρ, e', H', ⟨hI, rfl⟩, hx, he, hH, ha, hw⟩ (fun a w hIa => ?_)
  obtain ⟨s, ρ1, e1, H1, ⟨hs, hm⟩, hx1, he1, hH1, ha1, hw1⟩ := (hp a w hIa).1
  have hround := round s hs
  unfold rnd at hround
  have hround := Tr.all_bind hround
  have hc := runC_sound (c := c) (ρ0 := ρ0) hcx hR body (Exit.then (LpAt c ρ0 N ks E HH fun s' => I s' ∧ μ s' < μ s) Q) (zipE ks (E s)) (HH s) hlp (Tr.all_mono (fun y hy => ?_) hround) ρ1 e1 H1 hx1 he1 hH1 a w ha1 hw1
  · refine wp_mono hc (fun ex a1 w1 hq => ?_)
    cases ex with
    | normal =>
      obtain ⟨s', ρ2, e2, H2, ⟨hI', hlt⟩, k1, k2, k3, k4, k5⟩ := hq
      have hx : p a1 w1 (μ s') := ⟨s', ρ2, e2, H2, ⟨hI', rfl⟩, k1, k2, k3, k4, k5⟩
      exact ⟨⟨_, hx⟩, Nat.lt_of_le_of_lt ((hp a1 w1 ⟨_, hx⟩).2 _ hx) (hm ▸ hlt)⟩
    | _ => exact hq
  · obtain ⟨x, e2, H2⟩ := y
    obtain ⟨vs, hvs, hy⟩ := peel hy
    obtain ⟨⟨us, H3⟩, hfin, hy⟩ := peel hy
    intro ρ2 e2' H2' hx2 he2 hH2 a2 w2 ha2 hw2
    obtain ⟨ρ3, T, t1, t2, t3, t4⟩ := finE_sound he2 hH2 hvs hfin hx2 (neO_le hne hx1 (repH.len hH1)) hw2
    have hx3 : Ext ρ0 ρ3 := t1
    rcases hy with ⟨hn, s', h1, h2, h3, h4⟩ | ⟨hn, hpost⟩
    · simp only at hn h3 h4
      subst hn
      exact ⟨s', ρ3, e2', T, ⟨h1, h2⟩, hx3, h3 ▸ t2, h4 ▸ t3, ha2, t4⟩
    · have := hQ _ hn hpost ρ3 e2' T hx3 t2 t3 a2 w2 ha2 t4
      cases x with
      | nor => exact absurd rfl hn
      | ret => exact this
      | ex id => exact this
/-- a code told anew: these slots, the blocks that are left -/
theorem YC.canon {Q : Exit → Act → World → Prop} {code : Code} {e : Env} {H H1 : List Bk} {ks : List Nat} {ne : Nat} {us : List SV} (hne : ρ0.length ≤ ne) (h1 : canE ne ks e H = some (us, H1)) (h : YC P c ρ0 Q N code (zipE ks us) H1) : YC P c ρ0 Q N code e H := fun ρ e' H' hx he hH a w ha hw => by
  unfold canE at h1
  rw [Option.bind_eq_some_iff] at h1
  obtain ⟨vs, hvs, hf⟩ := h1
  obtain ⟨ρ', T, t1, t2, t3, t4⟩ := finE_sound he hH hvs hf hx (neO_le hne hx (repH.len hH)) hw
  exact h ρ' e' T t1 t2 t3 a w ha t4
/-- a code's loops, the outermost ones -/
def loopsC : Code → List Code
  | .seq a b => loopsC a ++ loopsC b
  | .cond _ a b => loopsC a ++ loopsC b
  | .block _ a => loopsC a
  | .loop a => [a]
  | _ => []
theorem LpOK.of : ∀ {code : Code}, (∀ a ∈ loopsC code, ∀ g, cx.lp (firstR a) = some g → ∀ Q e H, (g e H W).all (fun y => YE c ρ0 Q N (toX y.1) y.2.1 y.2.2) → YC P c ρ0 Q N (.loop a) e H) → LpOK P cx c ρ0 N W code
  | .seq a b, h => ⟨LpOK.of fun x hx => h x (List.mem_append_left _ hx), LpOK.of fun x hx => h x (List.mem_append_right _ hx)⟩
  | .cond _ a b, h => ⟨LpOK.of fun x hx => h x (List.mem_append_left _ hx), LpOK.of fun x hx => h x (List.mem_append_right _ hx)⟩
  | .block _ a, h => LpOK.of (code := a) h
  | .loop a, h => h a (by simp [loopsC])
  | .skip, _ => trivial
  | .region .., _ => trivial
  | .rangeFunc .., _ => trivial
  | .exit _, _ => trivial
  | .scope _, _ => trivial
  | .label _, _ => trivial
  | .goto _, _ => trivial
  | .ret, _ => trivial
  | .refuse _, _ => trivial
/-- the loop that begins with this region -/
def loopB (r : Nat) : Code → Option Code
  | .seq a b => match loopB r a with
    | some x => some x
    | none => loopB r b
  | .cond _ a b => match loopB r a with
    | some x => some x
    | none => loopB r b
  | .block _ a => loopB r a
  | .loop a => bif Nat.beq (firstR a) r then some a else loopB r a
  | _ => none
def loopC (r : Nat) (code : Code) : Code := match loopB r code with
  | some a => a
  | none => .skip
/-- one loop alone -/
theorem LpOK.one {code body : Code} {g : LpFn} (hl : loopsC code = [body]) (hg : cx.lp (firstR body) = some g) (h : ∀ Q e H, (g e H W).all (fun y => YE c ρ0 Q N (toX y.1) y.2.1 y.2.2) → YC P c ρ0 Q N (.loop body) e H) : LpOK P cx c ρ0 N W code :=
  LpOK.of fun a ha g' hg' => by
    rw [hl, List.mem_singleton] at ha
    subst ha
    rw [hg] at hg'
    cases hg'
    exact h
/-- several loops -/
def LpAll (P : Program) (cx : Ctx) (c : Cx) (ρ0 : List Nat) (N : Nat) (W : List Rw) : List (Code × LpFn) → Prop
  | [] => True
  | (b, g) :: r => (cx.lp (firstR b) = some g ∧ ∀ Q e H, (g e H W).all (fun y => YE c ρ0 Q N (toX y.1) y.2.1 y.2.2) → YC P c ρ0 Q N (.loop b) e H) ∧ LpAll P cx c ρ0 N W r
theorem LpAll.get {ls : List (Code × LpFn)} (h : LpAll P cx c ρ0 N W ls) : ∀ a ∈ ls.map (·.1), ∀ g, cx.lp (firstR a) = some g → ∀ Q e H, (g e H W).all (fun y => YE c ρ0 Q N (toX y.1) y.2.1 y.2.2) → YC P c ρ0 Q N (.loop a) e H := by
  induction ls with
  | nil => intro a ha; cases ha
  | cons x r ih =>
    obtain ⟨b, g0⟩ := x
    obtain ⟨⟨h1, h2⟩, h3⟩ := h
    intro a ha g hg
    simp only [List.map_cons, List.mem_cons] at ha
    rcases ha with rfl | ha
    · rw [h1] at hg
      cases hg
      exact h2
    · exact ih h3 a ha g hg
theorem LpOK.all {code : Code} {ls : List (Code × LpFn)} (hl : loopsC code = ls.map (·.1)) (h : LpAll P cx c ρ0 N W ls) : LpOK P cx c ρ0 N W code := LpOK.of fun a ha => h.get a (hl ▸ ha)
theorem leafI {K : SV × List Bk → Prop} {k : IntKind} {m n : Int} {H : List Bk} (h : K (.v (.c (.i k m)), H)) (e : m = n) : K (.v (.c (.i k n)), H) := e ▸ h
theorem leafB {K : SV × List Bk → Prop} {m n : Bool} {H : List Bk} (h : K (.v (.c (.b m)), H)) (e : m = n) : K (.v (.c (.b n)), H) := e ▸ h
theorem leafE {K : SV × List Bk → Prop} {x y : SV × List Bk} (h : K x) (e : x = y) : K y := e ▸ h
end
end Go.Y
