/- Code and functions. Generic in the program. -/
import Derived.Test.YtfckbimkdjcncaaYDraw
set_option linter.unusedSimpArgs false
set_option linter.unusedVariables false
namespace Go.Y
open Go.Z (Row Blk plainV Keep KeepP RowAt Fits runsTo Pre Cx TL TC TE Ends cxOf)
def toX : X → Exit
  | .nor => .normal
  | .ret => .ret
  | .ex id => .exit id
section
variable {P : Program} {cx : Ctx} (hcx : CtxOK P cx) {c : Cx} {ρ0 : List Nat} {N : Nat} {W : List Rw}
def YC (P : Program) (c : Cx) (ρ0 : List Nat) (Q : Exit → Act → World → Prop) (N : Nat) (code : Code) (e : Env) (H : List Bk) : Prop :=
  ∀ (ρ : List Nat) (e' : Z.Env) (H' : List Blk), Ext ρ0 ρ → repE ρ c.R e e' → repH ρ c.R H H' → TC P c Q N code e' H'
def YE (c : Cx) (ρ0 : List Nat) (Q : Exit → Act → World → Prop) (N : Nat) (x : Exit) (e : Env) (H : List Bk) : Prop :=
  ∀ (ρ : List Nat) (e' : Z.Env) (H' : List Blk), Ext ρ0 ρ → repE ρ c.R e e' → repH ρ c.R H H' → TE c Q N x e' H'
/-- what is told of the loops holds -/
def LpOK (P : Program) (cx : Ctx) (c : Cx) (ρ0 : List Nat) (N : Nat) (W : List Rw) : Code → Prop
  | .seq a b => LpOK P cx c ρ0 N W a ∧ LpOK P cx c ρ0 N W b
  | .cond _ a b => LpOK P cx c ρ0 N W a ∧ LpOK P cx c ρ0 N W b
  | .block _ a => LpOK P cx c ρ0 N W a
  | .loop a => ∀ g, cx.lp (firstR a) = some g → ∀ Q e H, (g e H W).all (fun y => YE c ρ0 Q N (toX y.1) y.2.1 y.2.2) → YC P c ρ0 Q N (.loop a) e H
  | _ => True
def noLoop : Code → Bool
  | .seq a b => noLoop a && noLoop b
  | .cond _ a b => noLoop a && noLoop b
  | .block _ a => noLoop a
  | .loop _ => false
  | _ => true
theorem LpOK.no : ∀ {code : Code}, noLoop code = true → LpOK P cx c ρ0 N W code
  | .seq a b, h => by simp only [noLoop, Bool.and_eq_true] at h; exact ⟨LpOK.no h.1, LpOK.no h.2⟩
  | .cond _ a b, h => by simp only [noLoop, Bool.and_eq_true] at h; exact ⟨LpOK.no h.1, LpOK.no h.2⟩
  | .block _ a, h => LpOK.no (code := a) h
  | .loop _, h => by cases h
  | .skip, _ => trivial
  | .region .., _ => trivial
  | .rangeFunc .., _ => trivial
  | .exit _, _ => trivial
  | .scope _, _ => trivial
  | .label _, _ => trivial
  | .goto _, _ => trivial
  | .ret, _ => trivial
  | .refuse _, _ => trivial
theorem evS_bool {ρ : List Nat} {R : List Row} {e : Env} {e' : Z.Env} (he : repE ρ R e e') {x : Operand} {b : Bool} {y : Sc} (h : evS e x = some y) (hb : bo y = some b) : Z.ev e' x = some (.bool b) := by
  obtain ⟨v, hv, hr⟩ := evS_rep he h
  rw [bo_rep hb hr] at hv
  exact hv
theorem YC.weaken {Q : Exit → Act → World → Prop} {code : Code} {e e1 : Env} {H : List Bk} (hs : Sub e1 e) (h : YC P c ρ0 Q N code e1 H) : YC P c ρ0 Q N code e H := fun ρ e' H' hx0 he hH =>
  h ρ e' H' hx0 (fun t x hx => by
    obtain ⟨x', h1, h2⟩ := hs t x hx
    obtain ⟨v, h3, h4⟩ := he t x' h1
    exact ⟨v, h3, h2 _ _ _ h4⟩) hH
theorem YE.weaken {Q : Exit → Act → World → Prop} {x : Exit} {e e1 : Env} {H : List Bk} (hs : Sub e1 e) (h : YE c ρ0 Q N x e1 H) : YE c ρ0 Q N x e H := fun ρ e' H' hx0 he hH =>
  h ρ e' H' hx0 (fun t x hx => by
    obtain ⟨x', h1, h2⟩ := hs t x hx
    obtain ⟨v, h3, h4⟩ := he t x' h1
    exact ⟨v, h3, h2 _ _ _ h4⟩) hH
theorem knowX_sub {e : Env} {x : Operand} {v b : Bool} (hv : evS e x = some (.b v)) (hb : v = b) : Sub (knowX x b e) e := by
  cases x with
  | tmp t =>
    refine Sub.known (x := v) ?_ hb
    simp only [evS, ev] at hv
    split at hv
    · rename_i y hy
      cases hv
      exact hy
    · cases hv
  | const _ => exact fun t v hv => ⟨v, hv, Same.refl v⟩
  | global _ => exact fun t v hv => ⟨v, hv, Same.refl v⟩
  | func _ => exact fun t v hv => ⟨v, hv, Same.refl v⟩
theorem joinX_spec {e : Env} {l r : Code} {t : Nat} {x : Bool} (h : joinX cx e t l r = some x) : lk e t = some (.v (.c (.b x))) ∧ flat cx l = true ∧ flat cx r = true ∧ t ∈ dsC l ++ dsC r := by
  unfold joinX at h
  split at h
  · rename_i x' hx
    cases hb : (flat cx l && flat cx r && mem t (dsC l ++ dsC r) && asgC t l && asgC t r) with
    | false => simp [hb] at h
    | true =>
      simp only [hb, cond_true, Option.some.injEq] at h
      subst h
      simp only [Bool.and_eq_true] at hb
      exact ⟨hx, hb.1.1.1.1, hb.1.1.1.2, mem_iff.1 hb.1.1.2⟩
  · cases h
theorem joinO_spec {e : Env} {y : Operand} {l r : Code} {t : Nat} {x : Bool} (h : joinO cx e y l r = some (t, x)) : y = .tmp t ∧ joinX cx e t l r = some x := by
  unfold joinO at h
  split at h
  · rw [Option.map_eq_some_iff] at h
    obtain ⟨x', h1, h2⟩ := h
    cases h2
    exact ⟨rfl, h1⟩
  · cases h
theorem Inv.trans {H : List Bk} {d1 d2 : List Nat} {e : Env} {st st' : St} (h : Inv H d1 e st) (h' : Inv st.2 d2 st.1 st') : Inv H (d1 ++ d2) e st' := by
  refine ⟨h'.1.trans h.1, fun t v ht hv => ?_⟩
  simp only [List.mem_append, not_or] at ht
  obtain ⟨v1, h1, h2⟩ := h.2 t v ht.1 hv
  obtain ⟨v2, h3, h4⟩ := h'.2 t v1 ht.2 h1
  exact ⟨v2, h3, fun ρ R u hu => h2 ρ R u (h4 ρ R u hu)⟩
theorem Inv.refl (H : List Bk) (ds : List Nat) (e : Env) : Inv H ds e (e, H) := ⟨rfl, fun t v _ hv => ⟨v, hv, Same.refl v⟩⟩
theorem Inv.mono {H : List Bk} {d1 d2 : List Nat} {e : Env} {st : St} (hd : ∀ t, t ∈ d1 → t ∈ d2) (h : Inv H d1 e st) : Inv H d2 e st := ⟨h.1, fun t v ht hv => h.2 t v (fun hm => ht (hd t hm)) hv⟩
theorem wall_bind' {α β : Type} {K : α → Prop} {K' : β → Prop} {g : α → Tr β} (hg : ∀ x, K x → (g x).wall K') : ∀ {t : Tr α}, t.wall K → (t.bind g).wall K'
  | .ret x, h => hg x h
  | .ite _ _ _, h => ⟨fun hb => wall_bind' hg (h.1 hb), fun hb => wall_bind' hg (h.2 hb)⟩
  | .ass _ _, h => fun hp => wall_bind' hg (h hp)
  | .both _ _, h => ⟨wall_bind' hg h.1, wall_bind' hg h.2⟩
  | .hyp _ _, h => fun hp => wall_bind' hg (h hp)
  | .any _ _, h => fun x => wall_bind' hg (h x)
  | .stuck _, _ => trivial
theorem Inv.know {H : List Bk} {ds : List Nat} {e : Env} {x : Operand} {v b : Bool} (hv : evS e x = some (.b v)) (hb : v = b) {st : St} (h : Inv H ds (knowX x b e) st) : ∀ t u, t ∉ ds → lk e t = some u → ∃ v', lk st.1 t = some v' ∧ Same v' u := by
  cases x with
  | tmp s =>
    have hs : lk e s = some (.v (.c (.b v))) := by
      simp only [evS, ev] at hv
      split at hv
      · rename_i y hy
        cases hv
        exact hy
      · cases hv
    exact (Inv.known hb hs h).2
  | const _ => exact h.2
  | global _ => exact h.2
  | func _ => exact h.2
/-- a flat code changes no block, and no slot but its own -/
theorem runC_wall : ∀ (code : Code) (e : Env) (H : List Bk), flat cx code = true → (runC cx N W code e H).wall fun y => y.1 = .nor ∧ Inv H (dsC code) e y.2
  | .skip, e, H, _ => ⟨rfl, Inv.refl _ _ _⟩
  | .region id ops draw, e, H, h => by
    simp only [flat, Bool.and_eq_true, Bool.not_eq_true'] at h
    rw [h.1]
    simp only [runC, cond_false]
    exact wall_bind' (K := Inv H (dsts (Y.len ops.toList) ops.toList) e) (K' := fun y => y.1 = X.nor ∧ Inv H (dsts (Y.len ops.toList) ops.toList) e y.2) (g := fun st => .ret (X.nor, st.1, st.2)) (fun st hst => ⟨rfl, hst⟩) (runN_wall ops.toList _ _ _ e H h.2)
  | .seq a b, e, H, h => by
    simp only [flat, Bool.and_eq_true] at h
    simp only [runC]
    refine wall_bind' (fun y hy => ?_) (runC_wall a e H h.1)
    obtain ⟨x, e1, H1⟩ := y
    obtain ⟨hx, hinv⟩ := hy
    simp only at hx
    subst hx
    simp only
    refine wall_mono (fun y2 hy2 => ⟨hy2.1, ?_⟩) (runC_wall b e1 H1 h.2)
    exact Inv.trans hinv hy2.2
  | .cond x a b, e, H, h => by
    simp only [flat, Bool.and_eq_true] at h
    simp only [runC]
    have hL : ∀ {e1 : Env} {st : St}, Inv H (dsC a) e1 st → Inv H (dsC a ++ dsC b) e1 st := fun h => h.mono fun t ht => List.mem_append_left _ ht
    have hRr : ∀ {e1 : Env} {st : St}, Inv H (dsC b) e1 st → Inv H (dsC a ++ dsC b) e1 st := fun h => h.mono fun t ht => List.mem_append_right _ ht
    split
    · rename_i t y hj
      obtain ⟨rfl, hj2⟩ := joinO_spec hj
      obtain ⟨hlk, _, _, hmem⟩ := joinX_spec hj2
      refine wall_bind (fun z => ?_) _
      show X.nor = X.nor ∧ Inv H (dsC a ++ dsC b) e ((t, .v (.c (.b z))) :: dropD (t :: (dsC a ++ dsC b)) e, H)
      refine ⟨rfl, rfl, fun t' v ht hv => ?_⟩
      have htt : t ≠ t' := fun e => by subst e; exact ht hmem
      refine ⟨v, ?_, Same.refl v⟩
      show lk ((t, .v (.c (.b z))) :: dropD (t :: (dsC a ++ dsC b)) e) t' = some v
      rw [lk_cons, if_neg htt, lk_dropD, if_neg]
      · exact hv
      · simp only [List.mem_cons, not_or]
        exact ⟨fun e => htt e.symm, ht⟩
    split
    · rename_i v hv
      cases v with
      | true => exact wall_mono (fun y hy => ⟨hy.1, hL hy.2⟩) (runC_wall a e H h.1)
      | false => exact wall_mono (fun y hy => ⟨hy.1, hRr hy.2⟩) (runC_wall b e H h.2)
    · rename_i v hv
      refine ⟨fun hb => wall_mono (fun y hy => ⟨hy.1, ?_⟩) (runC_wall a (knowX x true e) H h.1), fun hb => wall_mono (fun y hy => ⟨hy.1, ?_⟩) (runC_wall b (knowX x false e) H h.2)⟩
      · have h1 := hL hy.2
        refine ⟨h1.1, fun t u ht hu => ?_⟩
        exact Inv.know hv hb h1 t u ht hu
      · have h1 := hRr hy.2
        refine ⟨h1.1, fun t u ht hu => ?_⟩
        exact Inv.know hv hb h1 t u ht hu
    · exact trivial
  | .block .., _, _, h => by cases h
  | .loop _, _, _, h => by cases h
  | .exit _, _, _, h => by cases h
  | .ret, _, _, h => by cases h
  | .rangeFunc .., _, _, h => by cases h
  | .scope _, _, _, h => by cases h
  | .label _, _, _, h => by cases h
  | .goto _, _, _, h => by cases h
  | .refuse _, _, _, h => by cases h
include hcx in
theorem runC_sound (hR : repR W c.R) : ∀ (code : Code) (Q : Exit → Act → World → Prop) (e : Env) (H : List Bk), LpOK P cx c ρ0 N W code → (runC cx N W code e H).all (fun y => YE c ρ0 Q N (toX y.1) y.2.1 y.2.2) → YC P c ρ0 Q N code e H
  | .skip, Q, e, H, _, h => fun ρ e' H' hx0 he hH => TC.skipE (h ρ e' H' hx0 he hH)
  | .region id ops false, Q, e, H, _, h => fun ρ e' H' hx0 he hH => by
    simp only [runC, cond_false] at h
    have h := Tr.all_bind h
    unfold runL at h
    have : YL P c ρ0 ops Q N ops.toList e H := runN_sound hcx hR _ _ _ _ _ (Tr.all_mono (fun st hst => by
      rw [len_eq, List.drop_length]
      intro ρ e' H' hx0 he hH
      exact TL.nilE (hst ρ e' H' hx0 he hH)) h)
    exact TC.region (this ρ e' H' hx0 he hH)
  | .region id ops true, Q, e, H, _, h => by
    simp only [runC, cond_true] at h
    have h := Tr.all_bind h
    exact runDraw_sound hcx hcx.mixed hR h
  | .seq a b, Q, e, H, hl, h => fun ρ e' H' hx0 he hH => by
    simp only [runC] at h
    have h := Tr.all_bind h
    have h1 := runC_sound hR a (Exit.then (fun a w => b.wp P Q a w) Q) e H hl.1 (Tr.all_mono (fun y hy => by
      obtain ⟨x, e1, H1⟩ := y
      cases x with
      | nor =>
        have h2 := runC_sound hR b Q e1 H1 hl.2 hy
        intro ρ e' H' hx0 he hH
        exact TE.thenN (h2 ρ e' H' hx0 he hH)
      | ret => exact hy
      | ex id => exact hy) h)
    exact TC.seq (h1 ρ e' H' hx0 he hH)
  | .cond x a b, Q, e, H, hl, h => fun ρ e' H' hx0 he hH => by
    simp only [runC] at h
    split at h
    · rename_i t x' hj
      obtain ⟨rfl, hj2⟩ := joinO_spec hj
      obtain ⟨hlk, hfl, hfr, _⟩ := joinX_spec hj2
      have h := Tr.all_bind h
      obtain ⟨hT, hF⟩ := mrgT_all h
      have hway : ∀ (y : Bool) (k : Code), x' = y → flat cx k = true → (∀ s, s ∈ dsC k → s ∈ dsC a ++ dsC b) → ((runC cx N W k ((t, .v (.c (.kb y))) :: e) H).bind (lastX t)).all (fun z => YE c ρ0 Q N .normal ((t, .v (.c (.b z))) :: dropD (t :: (dsC a ++ dsC b)) e) H) →
          (∀ e H, (runC cx N W k e H).all (fun y => YE c ρ0 Q N (toX y.1) y.2.1 y.2.2) → YC P c ρ0 Q N k e H) → YC P c ρ0 Q N k e H := fun y k hxy hfk hsub hh ihk => by
        subst hxy
        have h1 : YC P c ρ0 Q N k ((t, .v (.c (.kb x'))) :: e) H := by
          refine ihk _ _ (Tr.all_mono (fun st hst => ?_) (all_wall (Tr.all_bind hh) (runC_wall k ((t, .v (.c (.kb x'))) :: e) H hfk)))
          obtain ⟨hst, hn, hinv⟩ := hst
          obtain ⟨xx, e1, H1⟩ := st
          simp only at hn
          subst hn
          simp only [lastX, lastB] at hst
          split at hst
          · rename_i s hs
            obtain ⟨z, hz, hst⟩ := peelO hst
            have hH1 : H1 = H := hinv.1
            show YE c ρ0 Q N .normal e1 H1
            rw [hH1]
            refine YE.weaken (fun t' v hv => ?_) hst
            rw [lk_cons] at hv
            by_cases htt : t = t'
            · subst htt
              rw [if_pos rfl] at hv
              cases hv
              exact ⟨_, hs, fun ρ R u hu => bo_rep hz hu⟩
            · rw [if_neg htt, lk_dropD] at hv
              split at hv
              · cases hv
              · rename_i hnm
                simp only [List.mem_cons, not_or] at hnm
                obtain ⟨v', h3, h4⟩ := hinv.2 t' v (fun hm => hnm.2 (hsub _ hm)) (by rw [lk_cons, if_neg htt]; exact hv)
                exact ⟨v', h3, h4⟩
          · exact hst.elim
        exact YC.weaken (Sub.known hlk rfl) h1
      have hev : Z.ev e' (.tmp t) = some (.bool x') := evS_bool (x := .tmp t) (y := .b x') he (by simp [evS, ev, hlk]) rfl
      refine TC.cond hev (fun hb => ?_) (fun hb => ?_)
      · exact hway true a hb hfl (fun s hs => List.mem_append_left _ hs) (hT hb) (fun e H h => runC_sound hR a Q e H hl.1 h) ρ e' H' hx0 he hH
      · exact hway false b hb hfr (fun s hs => List.mem_append_right _ hs) (hF hb) (fun e H h => runC_sound hR b Q e H hl.2 h) ρ e' H' hx0 he hH
    split at h
    · rename_i v hv
      have hev := evS_bool he hv rfl
      cases v with
      | true => exact TC.condT hev (runC_sound hR a Q e H hl.1 h ρ e' H' hx0 he hH)
      | false => exact TC.condF hev (runC_sound hR b Q e H hl.2 h ρ e' H' hx0 he hH)
    · rename_i v hv
      have hev := evS_bool he hv rfl
      exact TC.cond hev (fun hb => YC.weaken (knowX_sub hv hb) (runC_sound hR a Q _ H hl.1 (h.1 hb)) ρ e' H' hx0 he hH) (fun hb => YC.weaken (knowX_sub hv hb) (runC_sound hR b Q _ H hl.2 (h.2 hb)) ρ e' H' hx0 he hH)
    · exact h.elim
  | .block id a, Q, e, H, hl, h => fun ρ e' H' hx0 he hH => by
    simp only [runC] at h
    have h := Tr.all_bind h
    refine TC.block (runC_sound hR a (Exit.inBlock id Q) e H hl (Tr.all_mono (fun y hy => ?_) h) ρ e' H' hx0 he hH)
    obtain ⟨x, e1, H1⟩ := y
    intro ρ e' H' hx0 he hH
    cases x with
    | nor => exact TE.inN (hy ρ e' H' hx0 he hH)
    | ret => exact TE.inRet (hy ρ e' H' hx0 he hH)
    | ex n =>
      simp only at hy
      cases hb : Nat.beq n id with
      | true =>
        simp only [hb, cond_true] at hy
        have := Nat.eq_of_beq_eq_true hb
        subst this
        exact TE.inExit (hy ρ e' H' hx0 he hH)
      | false =>
        simp only [hb, cond_false] at hy
        exact TE.inOther hb (hy ρ e' H' hx0 he hH)
  | .loop a, Q, e, H, hl, h => by
    simp only [runC] at h
    split at h
    · rename_i g hg
      exact hl g hg Q e H h
    · exact h.elim
  | .exit id, Q, e, H, _, h => fun ρ e' H' hx0 he hH => TC.exit (h ρ e' H' hx0 he hH)
  | .ret, Q, e, H, _, h => fun ρ e' H' hx0 he hH => TC.ret (h ρ e' H' hx0 he hH)
  | .rangeFunc .., _, _, _, _, h => h.elim
  | .scope _, _, _, _, _, h => h.elim
  | .label _, _, _, _, _, h => h.elim
  | .goto _, _, _, _, _, h => h.elim
  | .refuse _, _, _, _, _, h => h.elim
end
end Go.Y
