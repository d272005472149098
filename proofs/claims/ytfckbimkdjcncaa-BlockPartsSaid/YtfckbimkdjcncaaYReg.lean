/- Regions in the text's order. Generic in the program. -/
import Derived.Test.YtfckbimkdjcncaaYGo
set_option linter.unusedSimpArgs false
set_option linter.unusedVariables false
namespace Go.Y
open Go.Z (Row Blk plainV Keep KeepP RowAt Fits runsTo Pre Cx TL TC TE Ends cxOf)
section
variable {P : Program} {cx : Ctx} (hcx : CtxOK P cx) {c : Cx} {ρ0 : List Nat} {N : Nat} {W : List Rw}
theorem cons_rep {ρ : List Nat} {R : List Row} {e : Env} {e' : Z.Env} (he : repE ρ R e e') {d : Nat} {x : SV} {v : Value} (hx : repV ρ R x v) : repE ρ R ((d, x) :: e) ((d, v) :: e') := fun t y hy => by
  simp only [lk, Z.lk] at hy ⊢
  cases hb : Nat.beq d t with
  | true => simp only [hb, cond_true, Option.some.injEq] at hy ⊢; subst hy; exact ⟨v, rfl, hx⟩
  | false => simp only [hb, cond_false] at hy ⊢; exact he t y hy
theorem updO_rep {ρ : List Nat} {R : List Row} {e : Env} {e' : Z.Env} (he : repE ρ R e e') {d : Option Nat} {x : SV} {v : Value} (hx : repV ρ R x v) : repE ρ R (updO e d x) (Z.updO e' d v) := by
  cases d with
  | none => exact he
  | some d => exact cons_rep he hx
theorem mem_of_good {w : World} {H' : List Blk} (hw : Z.Good c w H') (rd : List Nat) (rr : Bool) : Mem H' c.R rd rr w :=
  ⟨fun _ _ B hB => hw.has B (List.mem_of_getElem? hB), fun _ r hr => (hw.rows r hr).1⟩
def Ext (ρ ρ' : List Nat) : Prop := ∀ (n b : Nat), ρ[n]? = some b → ρ'[n]? = some b
theorem Ext.refl (ρ : List Nat) : Ext ρ ρ := fun _ _ h => h
theorem Ext.trans {a b c : List Nat} (h : Ext a b) (k : Ext b c) : Ext a c := fun n x hx => k n x (h n x hx)
def After (c : Cx) (ρ : List Nat) (Φ : St → Prop) (e' : Z.Env) (d : Option Nat) (v : Value) (w' : World) : Prop :=
  ∃ (st : St) (ρ' : List Nat) (H1' : List Blk), Φ st ∧ Ext ρ ρ' ∧ repE ρ' c.R st.1 (Z.updO e' d v) ∧ repH ρ' c.R st.2 H1' ∧ Z.Good c w' H1'
include hcx in
theorem step_sound {ρ : List Nat} {e : Env} {e' : Z.Env} {H : List Bk} {H' : List Blk} (he : repE ρ c.R e e') (hH : repH ρ c.R H H') (hR : repR W c.R) {o : Oper} {Φ : St → Prop} (h : (step cx o e H W).all Φ) {a : Act} {w : World} (ha : Fits N a e') (hw : Z.Good c w H') :
    runsTo P o a w fun v w' => After c ρ Φ e' o.dst v w' := by
  unfold step at h
  cases hq : quiet cx o.op with
  | true =>
    simp only [hq, cond_true] at h
    have h := Tr.all_bind h
    obtain ⟨sv, v, h1, h2, h3⟩ := opV_sound hcx he hH hR hw.nodup h ha (mem_of_good hw _ _)
    refine (h3 o a w rfl ha (mem_of_good hw _ _)).mono fun v' w' ⟨e1, hk⟩ => ?_
    subst e1
    exact ⟨_, ρ, H', h1, Ext.refl _, updO_rep he h2, hH, hw.ext hk⟩
  | false =>
    simp only [hq, cond_false] at h
    have h := Tr.all_bind h
    refine (opE_sound hcx he hH hR h rfl ha hw).mono fun v w' ⟨rs, ρ', H1', h1, h2, h3, h4, h5, _, _⟩ => ?_
    exact ⟨_, ρ', H1', h1, h2, updO_rep (he.mono h2) h3, h4, h5⟩
theorem wp_of_runs {o : Oper} {a : Act} {w : World} {K' : Value → World → Prop} {K : Act → World → Prop} {Q : Exit → Act → World → Prop} (h : runsTo P o a w K') (hk : ∀ v w', K' v w' → K (a.put o.dst v) w') : o.wp P a w K Q := by
  unfold Oper.wp
  unfold runsTo at h
  generalize (execOp a.eval o).run P w = r at h
  cases r with
  | ok n w' =>
    cases n <;> simp only [Oper.upon] at h ⊢ <;> first | exact h.elim | exact hk _ _ h | skip
    · exact h.mono fun en w'' ⟨v, he, hv⟩ => by subst he; exact hk _ _ hv
    · exact h.mono fun v w'' hv => hk _ _ hv
  | halt x w' => exact h.elim
variable {ops : Array Oper} {Q : Exit → Act → World → Prop}
/-- operations from known slots and blocks on -/
def YL (P : Program) (c : Cx) (ρ0 : List Nat) (ops : Array Oper) (Q : Exit → Act → World → Prop) (N : Nat) (l : List Oper) (e : Env) (H : List Bk) : Prop :=
  ∀ (ρ : List Nat) (e' : Z.Env) (H' : List Blk), Ext ρ0 ρ → repE ρ c.R e e' → repH ρ c.R H H' → TL P c ops Q N l e' H'
theorem dOk_spec {d : Option Nat} (h : dOk N d = true) : ∀ t, d = some t → Nat.blt t N = true := fun t e => by subst e; exact h
include hcx in
theorem YL.step (hR : repR W c.R) {o : Oper} {r : List Oper} {e : Env} {H : List Bk} (hd : dOk N o.dst = true) (hg : o.guard = none) (h : (step cx o e H W).all fun st => YL P c ρ0 ops Q N r st.1 st.2) : YL P c ρ0 ops Q N (o :: r) e H := fun ρ e' H' hx0 he hH a w ha hw =>
  wpList_plain hg fun K hK => wp_of_runs (step_sound hcx he hH hR h ha hw) fun v w' ⟨st, ρ', H1', h1, hx1, h2, h3, h4⟩ => hK _ _ (h1 ρ' _ H1' (hx0.trans hx1) h2 h3 _ _ (ha.putO v (dOk_spec hd)) h4)
/-- one value says what another one says -/
def Same (x y : SV) : Prop := ∀ (ρ : List Nat) (R : List Row) (u : Value), repV ρ R x u → repV ρ R y u
theorem Same.refl (x : SV) : Same x x := fun _ _ _ h => h
def Sub (e1 e : Env) : Prop := ∀ t v, lk e1 t = some v → ∃ v', lk e t = some v' ∧ Same v' v
theorem YL.weaken {l : List Oper} {e e1 : Env} {H : List Bk} (hs : Sub e1 e) (h : YL P c ρ0 ops Q N l e1 H) : YL P c ρ0 ops Q N l e H := fun ρ e' H' hx0 he hH =>
  h ρ e' H' hx0 (fun t x hx => by
    obtain ⟨x', h1, h2⟩ := hs t x hx
    obtain ⟨v, h3, h4⟩ := he t x' h1
    exact ⟨v, h3, h2 _ _ _ h4⟩) hH
theorem lk_cons (k t : Nat) (v : SV) (e : Env) : lk ((k, v) :: e) t = if k = t then some v else lk e t := by
  simp only [lk]
  by_cases h : k = t
  · subst h; simp [Nat.beq_refl]
  · rw [if_neg h, Z.beq_ne h]; rfl
theorem lk_dropD (ds : List Nat) (t : Nat) : ∀ (e : Env), lk (dropD ds e) t = if t ∈ ds then none else lk e t
  | [] => by simp [dropD, lk]
  | (k, v) :: r => by
    simp only [dropD]
    cases hm : mem k ds with
    | true =>
      simp only [cond_true, lk_dropD ds t r, lk_cons]
      have hk := mem_iff.1 hm
      by_cases ht : t ∈ ds
      · rw [if_pos ht, if_pos ht]
      · rw [if_neg ht, if_neg ht, if_neg (fun he => by subst he; exact ht hk)]
    | false =>
      simp only [cond_false, lk_cons, lk_dropD ds t r]
      by_cases h : k = t
      · subst h
        have : k ∉ ds := fun h => by rw [mem_iff.2 h] at hm; cases hm
        simp [this]
      · simp [h]
theorem yielded_of' {ops : Array Oper} {a : Act} {j s : Nat} {b : Bool} {e' : Z.Env} (hj : gslot ops.toList j = some s) : (ops[j]?).bind (·.dst) = some s := by
  unfold gslot at hj
  rw [nth_eq] at hj
  simpa using hj
theorem mrgF_all {b x : Bool} {Ψ : Bool → Prop} : ∀ {u : Tr Bool}, (mrgF b x u).all Ψ → (b = true → Ψ x) ∧ (b = false → u.all Ψ)
  | .ret y, h => by
    cases b
    · exact ⟨fun e => (by cases e), fun _ => h⟩
    · exact ⟨fun _ => h, fun e => (by cases e)⟩
  | .ass p u, h => by
    obtain ⟨h1, h2⟩ := h
    obtain ⟨h3, h4⟩ := mrgF_all (h2 h1)
    exact ⟨h3, fun hb => ⟨h1 hb, fun _ => h4 hb⟩⟩
  | .ite _ _ _, h => h
  | .both _ _, h => h
  | .hyp _ _, h => h
  | .any _ _, h => h
  | .stuck _, h => h
theorem mrgT_all {b : Bool} {Ψ : Bool → Prop} : ∀ {t u : Tr Bool}, (mrgT b t u).all Ψ → (b = true → t.all Ψ) ∧ (b = false → u.all Ψ)
  | .ret x, u, h => mrgF_all h
  | .ass p t, u, h => by
    obtain ⟨h1, h2⟩ := h
    obtain ⟨h3, h4⟩ := mrgT_all (h2 h1)
    exact ⟨fun hb => ⟨h1 hb, fun _ => h3 hb⟩, h4⟩
  | .ite _ _ _, _, h => h
  | .both _ _, _, h => h
  | .hyp _ _, _, h => h
  | .any _ _, _, h => h
  | .stuck _, _, h => h
/-- what a calm row of operations leaves -/
def Inv (H : List Bk) (ds : List Nat) (e : Env) (st : St) : Prop := st.2 = H ∧ ∀ t v, t ∉ ds → lk e t = some v → ∃ v', lk st.1 t = some v' ∧ Same v' v
theorem all_map {α : Type} {K K' : α → Prop} (hk : ∀ x, K x → K' x) {t : Tr α} (h : t.all K) : t.all K' := Tr.all_mono hk h
theorem lk_updO {e : Env} {d : Option Nat} {v : SV} {t : Nat} (h : ∀ k, d = some k → k ≠ t) : lk (updO e d v) t = lk e t := by
  cases d with
  | none => rfl
  | some d => rw [updO, lk_cons, if_neg (h d rfl)]
theorem dsts_cons {n : Nat} {o : Oper} {r : List Oper} {t : Nat} (h : t ∉ dsts (n + 1) (o :: r)) : (∀ k, o.dst = some k → k ≠ t) ∧ t ∉ dsts n r := by
  simp only [dsts] at h
  split at h
  · rename_i d hd
    simp only [List.mem_cons, not_or] at h
    exact ⟨(fun k hk => by rw [hd] at hk; cases hk; exact fun e => h.1 e.symm), h.2⟩
  · rename_i hd
    exact ⟨(fun k hk => by rw [hd] at hk; cases hk), h⟩
theorem dsts_sub {t : Nat} : ∀ {k n : Nat} {l : List Oper}, k ≤ n → t ∉ dsts n l → t ∉ dsts k l
  | 0, _, _, _, _ => by simp [dsts]
  | k + 1, n + 1, [], _, h => by simp [dsts]
  | k + 1, n + 1, o :: r, hk, h => by
    have h1 := dsts_cons h
    simp only [dsts]
    split
    · rename_i d hd
      simp only [List.mem_cons, not_or]
      exact ⟨fun e => h1.1 d hd e.symm, dsts_sub (by omega) h1.2⟩
    · exact dsts_sub (by omega) h1.2
  | k + 1, 0, _, hk, _ => by omega
theorem dsts_at {t : Nat} : ∀ {k n : Nat} {l : List Oper} {d : Nat}, k < n → (nth l k).bind (·.dst) = some d → t ∉ dsts n l → d ≠ t
  | 0, n + 1, o :: r, d, _, hd, h => (dsts_cons h).1 d hd
  | k + 1, n + 1, o :: r, d, hk, hd, h => dsts_at (k := k) (l := r) (by omega) hd (dsts_cons h).2
  | k, n, [], d, _, hd, _ => by cases k <;> cases hd
  | _, 0, _, _, hk, _, _ => by omega
theorem dsts_drop {t : Nat} : ∀ {k n : Nat} {l : List Oper}, t ∉ dsts (k + n) l → t ∉ dsts n (l.drop k)
  | 0, n, l, h => by simpa using h
  | k + 1, n, [], h => by cases n <;> simp [dsts]
  | k + 1, n, o :: r, h => by
    rw [show k + 1 + n = (k + n) + 1 by omega] at h
    exact dsts_drop (l := r) (dsts_cons h).2
theorem calm_drop {cx : Ctx} : ∀ {k n : Nat} {l : List Oper}, calm cx (k + n) l = true → calm cx n (l.drop k) = true
  | 0, n, l, h => by simpa using h
  | k + 1, n, [], h => by rw [show k + 1 + n = (k + n) + 1 by omega] at h; cases h
  | k + 1, n, o :: r, h => by
    rw [show k + 1 + n = (k + n) + 1 by omega] at h
    simp only [calm, Bool.and_eq_true] at h
    exact calm_drop (l := r) h.2
def _root_.Go.Y.Tr.wall {α : Type} (K : α → Prop) : Tr α → Prop
  | .ret x => K x
  | .ite b t f => (b = true → t.wall K) ∧ (b = false → f.wall K)
  | .ass p t => p → t.wall K
  | .both t f => t.wall K ∧ f.wall K
  | .hyp p t => p → t.wall K
  | .any _ h => ∀ x, (h x).wall K
  | .stuck _ => True
theorem all_wall {α : Type} {A B : α → Prop} : ∀ {t : Tr α}, t.all A → t.wall B → t.all fun x => A x ∧ B x
  | .ret _, h, h' => ⟨h, h'⟩
  | .ite _ _ _, h, h' => ⟨fun hb => all_wall (h.1 hb) (h'.1 hb), fun hb => all_wall (h.2 hb) (h'.2 hb)⟩
  | .ass _ _, h, h' => ⟨h.1, fun hp => all_wall (h.2 hp) (h' hp)⟩
  | .both _ _, h, h' => ⟨all_wall h.1 h'.1, all_wall h.2 h'.2⟩
  | .hyp _ _, h, h' => fun hp => all_wall (h hp) (h' hp)
  | .any _ _, h, h' => fun x => all_wall (h x) (h' x)
  | .stuck _, h, _ => h.elim
theorem wall_bind {α β : Type} {K : β → Prop} {g : α → Tr β} (h : ∀ x, (g x).wall K) : ∀ (t : Tr α), (t.bind g).wall K
  | .ret x => h x
  | .ite _ t f => ⟨fun _ => wall_bind h t, fun _ => wall_bind h f⟩
  | .ass _ t => fun _ => wall_bind h t
  | .both t f => ⟨wall_bind h t, wall_bind h f⟩
  | .hyp _ t => fun _ => wall_bind h t
  | .any _ f => fun x => wall_bind h (f x)
  | .stuck _ => trivial
theorem wall_assoc {α β γ : Type} {K : γ → Prop} {g : α → Tr β} {g' : β → Tr γ} (h : ∀ x, ((g x).bind g').wall K) : ∀ (t : Tr α), ((t.bind g).bind g').wall K
  | .ret x => h x
  | .ite _ t f => ⟨fun _ => wall_assoc h t, fun _ => wall_assoc h f⟩
  | .ass _ t => fun _ => wall_assoc h t
  | .both t f => ⟨wall_assoc h t, wall_assoc h f⟩
  | .hyp _ t => fun _ => wall_assoc h t
  | .any _ f => fun x => wall_assoc h (f x)
  | .stuck _ => trivial
theorem wall_mono {α : Type} {K K' : α → Prop} (hk : ∀ x, K x → K' x) : ∀ {t : Tr α}, t.wall K → t.wall K'
  | .ret _, h => hk _ h
  | .ite _ _ _, h => ⟨fun hb => wall_mono hk (h.1 hb), fun hb => wall_mono hk (h.2 hb)⟩
  | .ass _ _, h => fun hp => wall_mono hk (h hp)
  | .both _ _, h => ⟨wall_mono hk h.1, wall_mono hk h.2⟩
  | .hyp _ _, h => fun hp => wall_mono hk (h hp)
  | .any _ _, h => fun x => wall_mono hk (h x)
  | .stuck _, _ => trivial
theorem wall_step {o : Oper} {e : Env} {H : List Bk} {K : St → Prop} {g : St → Tr St} (hq : quiet cx o.op = true) (h : ∀ v, (g (updO e o.dst v, H)).wall K) : ((step cx o e H W).bind g).wall K := by
  unfold step
  simp only [hq, cond_true]
  exact wall_assoc (fun v => h v) _
theorem Inv.upd {H : List Bk} {n : Nat} {o : Oper} {r : List Oper} {e : Env} {v : SV} {st : St} (h : Inv H (dsts n r) (updO e o.dst v) st) : Inv H (dsts (n + 1) (o :: r)) e st := by
  refine ⟨h.1, fun t u ht hu => ?_⟩
  have h1 := dsts_cons ht
  exact h.2 t u h1.2 (by rw [lk_updO h1.1]; exact hu)
theorem Inv.known {H : List Bk} {ds : List Nat} {e : Env} {s : Nat} {x b : Bool} (hx : x = b) (hs : lk e s = some (.v (.c (.b x)))) {st : St} (h : Inv H ds ((s, .v (.c (.kb b))) :: e) st) : Inv H ds e st := by
  subst hx
  refine ⟨h.1, fun t u ht hu => ?_⟩
  by_cases hst : s = t
  · subst hst
    obtain ⟨v', h1, h2⟩ := h.2 s _ ht (by rw [lk_cons, if_pos rfl])
    rw [hs] at hu
    cases hu
    exact ⟨v', h1, fun ρ R u h => h2 ρ R u h⟩
  · exact h.2 t u ht (by rw [lk_cons, if_neg hst]; exact hu)
theorem runN_wall (ops : List Oper) : ∀ (f n : Nat) (l : List Oper) (e : Env) (H : List Bk), calm cx n l = true → (runN cx N ops W f n l e H).wall (Inv H (dsts n l) e) := by
  intro f
  induction f with
  | zero => intro n l e H _; exact trivial
  | succ f ih =>
    intro n l e H hc
    match n, l, hc with
    | 0, l, _ => exact ⟨rfl, fun t v _ hv => ⟨v, hv, Same.refl v⟩⟩
    | n + 1, [], _ => exact ⟨rfl, fun t v _ hv => ⟨v, hv, Same.refl v⟩⟩
    | n + 1, o :: r, hc =>
      have hc' := hc
      simp only [calm, Bool.and_eq_true] at hc
      obtain ⟨hq, hcr⟩ := hc
      have hskip : ∀ v, (runN cx N ops W f n r (updO e o.dst v) H).wall (Inv H (dsts (n + 1) (o :: r)) e) := fun v => wall_mono (fun _ h => h.upd) (ih n r (updO e o.dst v) H hcr)
      have hstep : ((step cx o e H W).bind fun st => runN cx N ops W f n r st.1 st.2).wall (Inv H (dsts (n + 1) (o :: r)) e) := wall_step hq hskip
      unfold runN
      cases hd : dOk N o.dst with
      | false => exact trivial
      | true =>
      simp only [cond_true]
      split
      · exact hstep
      · rename_i j want hg
        split
        · exact trivial
        · rename_i s hs
          split
          · exact hskip _
          · rename_i x hx
            cases hb : (x == want) with
            | true => exact hstep
            | false => exact hskip _
          · rename_i x hx
            have hite : (Tr.ite x (runN cx N ops W f (n + 1) (o :: r) ((s, .v (.c (.kb true))) :: e) H) (runN cx N ops W f (n + 1) (o :: r) ((s, .v (.c (.kb false))) :: e) H)).wall (Inv H (dsts (n + 1) (o :: r)) e) :=
              ⟨fun hb => wall_mono (fun _ h => h.known hb hx) (ih _ _ _ _ hc'), fun hb => wall_mono (fun _ h => h.known hb hx) (ih _ _ _ _ hc')⟩
            split
            · rename_i k hk
              cases hq2 : (Nat.ble (k + 1) (n + 1) && calm cx (k + 1) (o :: r)) with
              | false => exact hite
              | true =>
                simp only [cond_true]
                simp only [Bool.and_eq_true] at hq2
                have hkn := Nat.le_of_ble_eq_true hq2.1
                split
                · rename_i d hdk
                  cases hq3 : (Nat.blt d N && !mem s (dsts (k + 1) (o :: r))) with
                  | false => exact trivial
                  | true =>
                    simp only [cond_true]
                    refine wall_bind (fun z => ?_) _
                    have hcd : calm cx (n - k) ((o :: r).drop (k + 1)) = true := calm_drop (by rw [show k + 1 + (n - k) = n + 1 by omega]; exact hc')
                    refine wall_mono (fun st h => ⟨h.1, fun t v ht hv => ?_⟩) (ih _ _ _ _ hcd)
                    have ht1 : t ∉ dsts (n - k) ((o :: r).drop (k + 1)) := dsts_drop (by rw [show k + 1 + (n - k) = n + 1 by omega]; exact ht)
                    have ht2 : d ≠ t := dsts_at (by omega) hdk ht
                    refine h.2 t v ht1 ?_
                    rw [lk_cons, if_neg ht2, lk_cons]
                    by_cases hst : s = t
                    · subst hst
                      rw [if_pos rfl, ← hx, hv]
                    · rw [if_neg hst, lk_dropD, if_neg]
                      · exact hv
                      · simp only [List.mem_cons, not_or]
                        exact ⟨fun h => hst h.symm, dsts_sub hkn ht⟩
                · exact trivial
            · exact hite
          · exact trivial
include hcx in
theorem runN_sound (hR : repR W c.R) : ∀ (f n : Nat) (l : List Oper) (e : Env) (H : List Bk), (runN cx N ops.toList W f n l e H).all (fun st => YL P c ρ0 ops Q N (l.drop n) st.1 st.2) → YL P c ρ0 ops Q N l e H := by
  intro f
  induction f with
  | zero => intro n l e H h; exact h.elim
  | succ f ih =>
    intro n l e H h
    match n, l, h with
    | 0, l, h => unfold runN at h; exact h
    | n + 1, [], h => exact h
    | n + 1, o :: r, h =>
      unfold runN at h
      cases hd : dOk N o.dst with
      | false => simp only [hd, cond_false] at h; exact h.elim
      | true =>
      simp only [hd, cond_true] at h
      rw [List.drop_succ_cons] at h
      have hdo := dOk_spec hd
      have hstep : ∀ (o' : Oper), o'.op = o.op → o'.dst = o.dst → o'.guard = none → ((step cx o e H W).bind fun st => runN cx N ops.toList W f n r st.1 st.2).all (fun st => YL P c ρ0 ops Q N (r.drop n) st.1 st.2) → YL P c ρ0 ops Q N (o' :: r) e H := fun o' e1 e2 e3 h => by
        refine YL.step hcx hR (by rw [e2]; exact hd) e3 ?_
        have : step cx o' e H W = step cx o e H W := by unfold step; rw [e1, e2]
        rw [this]
        exact Tr.all_mono (fun st h => ih n r st.1 st.2 h) (Tr.all_bind h)
      split at h
      · rename_i hg
        exact hstep o rfl rfl hg h
      · rename_i j want hg
        obtain ⟨dst, op, ty, pos, af, gd⟩ := o
        simp only at hg
        subst hg
        split at h
        · exact h.elim
        · rename_i s hs
          have hj := yielded_of' (a := ⟨#[], []⟩) (b := true) (e' := []) hs
          have hskip : (lk e s = some .und ∨ ∃ x, (x == want) = false ∧ ((lk e s = some (.v (.c (.kb x)))) )) → (runN cx N ops.toList W f n r (updO e dst .und) H).all (fun st => YL P c ρ0 ops Q N (r.drop n) st.1 st.2) → YL P c ρ0 ops Q N (⟨dst, op, ty, pos, af, some (j, want)⟩ :: r) e H := fun hh h => by
            have h1 := ih n r _ _ h
            intro ρ e' H' hx0 he hH
            have h2 := h1 ρ _ H' hx0 (updO_rep he (d := dst) (x := .und) (v := undef) rfl) hH
            rcases hh with hu | ⟨x, hx, hu⟩
            · obtain ⟨v, hv, hr⟩ := he s _ hu
              simp only [repV] at hr
              subst hr
              exact Z.TL.guardU hj hv hdo h2
            · obtain ⟨v, hv, hr⟩ := he s _ hu
              simp only [repV, rep1, repS] at hr
              subst hr
              exact Z.TL.guardN hj hv rfl hx hdo h2
          split at h
          · rename_i hu
            exact hskip (.inl hu) h
          · rename_i x hx
            cases hw : (x == want) with
            | false =>
              simp only [hw, cond_false] at h
              exact hskip (.inr ⟨x, hw, hx⟩) h
            | true =>
              simp only [hw, cond_true] at h
              have h1 := hstep ⟨dst, op, ty, pos, af, none⟩ rfl rfl rfl h
              intro ρ e' H' hx0 he hH
              obtain ⟨v, hv, hr⟩ := he s _ hx
              simp only [repV, rep1, repS] at hr
              subst hr
              exact Z.TL.guardY hj hv (by simpa using hw) (h1 ρ e' H' hx0 he hH)
          · rename_i x hx
            have hknown : ∀ b, x = b → YL P c ρ0 ops Q N (⟨dst, op, ty, pos, af, some (j, want)⟩ :: r) ((s, .v (.c (.kb b))) :: e) H → YL P c ρ0 ops Q N (⟨dst, op, ty, pos, af, some (j, want)⟩ :: r) e H := fun b hb h => by
              subst hb
              refine YL.weaken (fun t v hv => ?_) h
              rw [lk_cons] at hv
              by_cases hst : s = t
              · subst hst
                rw [if_pos rfl] at hv
                cases hv
                exact ⟨_, hx, fun _ _ _ h => h⟩
              · rw [if_neg hst] at hv
                exact ⟨v, hv, Same.refl v⟩
            have hite : (Tr.ite x (runN cx N ops.toList W f (n + 1) (⟨dst, op, ty, pos, af, some (j, want)⟩ :: r) ((s, .v (.c (.kb true))) :: e) H) (runN cx N ops.toList W f (n + 1) (⟨dst, op, ty, pos, af, some (j, want)⟩ :: r) ((s, .v (.c (.kb false))) :: e) H)).all (fun st => YL P c ρ0 ops Q N (r.drop n) st.1 st.2) → YL P c ρ0 ops Q N (⟨dst, op, ty, pos, af, some (j, want)⟩ :: r) e H := fun h => by
              cases hb : x with
              | true => exact hknown true hb (ih (n + 1) _ _ _ (by rw [List.drop_succ_cons]; exact h.1 hb))
              | false => exact hknown false hb (ih (n + 1) _ _ _ (by rw [List.drop_succ_cons]; exact h.2 hb))
            split at h
            · rename_i k hk
              cases hq2 : (Nat.ble (k + 1) (n + 1) && calm cx (k + 1) (⟨dst, op, ty, pos, af, some (j, want)⟩ :: r)) with
              | false => simp only [hq2, cond_false] at h; exact hite h
              | true =>
                simp only [hq2, cond_true] at h
                simp only [Bool.and_eq_true] at hq2
                have hkn := Nat.le_of_ble_eq_true hq2.1
                split at h
                · rename_i d hdk
                  cases hq3 : (Nat.blt d N && !mem s (dsts (k + 1) (⟨dst, op, ty, pos, af, some (j, want)⟩ :: r))) with
                  | false => simp only [hq3, cond_false] at h; exact h.elim
                  | true =>
                    simp only [hq3, cond_true] at h
                    have h := Tr.all_bind h
                    have hJ : (mrgT x ((runN cx N ops.toList W f (k + 1) (⟨dst, op, ty, pos, af, some (j, want)⟩ :: r) ((s, .v (.c (.kb true))) :: e) H).bind (lastB d)) ((runN cx N ops.toList W f (k + 1) (⟨dst, op, ty, pos, af, some (j, want)⟩ :: r) ((s, .v (.c (.kb false))) :: e) H).bind (lastB d))).all fun z =>
                        YL P c ρ0 ops Q N (r.drop k) ((d, .v (.c (.b z))) :: (s, .v (.c (.b x))) :: dropD (s :: dsts (k + 1) (⟨dst, op, ty, pos, af, some (j, want)⟩ :: r)) e) H := Tr.all_mono (fun z hz => by
                      refine ih (n - k) _ _ _ ?_
                      rw [List.drop_succ_cons] at hz
                      rw [List.drop_drop, show k + (n - k) = n by omega]
                      exact hz) h
                    obtain ⟨hT, hF⟩ := mrgT_all hJ
                    have hway : ∀ b, x = b → ((runN cx N ops.toList W f (k + 1) (⟨dst, op, ty, pos, af, some (j, want)⟩ :: r) ((s, .v (.c (.kb b))) :: e) H).bind (lastB d)).all (fun z =>
                        YL P c ρ0 ops Q N (r.drop k) ((d, .v (.c (.b z))) :: (s, .v (.c (.b x))) :: dropD (s :: dsts (k + 1) (⟨dst, op, ty, pos, af, some (j, want)⟩ :: r)) e) H) → YL P c ρ0 ops Q N (⟨dst, op, ty, pos, af, some (j, want)⟩ :: r) e H := fun b hb h => by
                      refine hknown b hb (ih (k + 1) _ _ _ ?_)
                      refine Tr.all_mono (fun st hst => ?_) (all_wall (Tr.all_bind h) (runN_wall ops.toList f (k + 1) _ ((s, .v (.c (.kb b))) :: e) H hq2.2))
                      obtain ⟨hst, hinv⟩ := hst
                      rw [List.drop_succ_cons]
                      have hmem : s ∉ dsts (k + 1) (⟨dst, op, ty, pos, af, some (j, want)⟩ :: r) := fun hm => by
                        simp only [Bool.and_eq_true, Bool.not_eq_true'] at hq3
                        rw [mem_iff.2 hm] at hq3
                        cases hq3.2
                      unfold lastB at hst
                      split at hst
                      · rename_i y hy
                        obtain ⟨z, hz, hst⟩ := peelO hst
                        rw [hinv.1]
                        refine YL.weaken (fun t v hv => ?_) hst
                        rw [lk_cons] at hv
                        by_cases hdt : d = t
                        · subst hdt
                          rw [if_pos rfl] at hv
                          cases hv
                          exact ⟨_, hy, fun ρ R u hu => bo_rep hz hu⟩
                        · rw [if_neg hdt, lk_cons] at hv
                          by_cases hst2 : s = t
                          · subst hst2
                            rw [if_pos rfl] at hv
                            cases hv
                            obtain ⟨v', h1, h2⟩ := hinv.2 s _ hmem (by rw [lk_cons, if_pos rfl])
                            exact ⟨v', h1, fun ρ R u hu => by have := h2 ρ R u hu; rw [hb]; exact this⟩
                          · rw [if_neg hst2, lk_dropD] at hv
                            split at hv
                            · cases hv
                            · rename_i hnm
                              simp only [List.mem_cons, not_or] at hnm
                              obtain ⟨v', h1, h2⟩ := hinv.2 t v hnm.2 (by rw [lk_cons, if_neg hst2]; exact hv)
                              exact ⟨v', h1, h2⟩
                      · exact hst.elim
                    cases hb : x with
                    | true => exact hway true hb (hT hb)
                    | false => exact hway false hb (hF hb)
                · exact h.elim
            · exact hite h
          · exact h.elim
end
end Go.Y
