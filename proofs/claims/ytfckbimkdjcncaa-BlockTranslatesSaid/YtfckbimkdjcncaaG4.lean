/- Own texts, joined: YTop, YLoop, YSeat. -/
import Derived.Test.YtfckbimkdjcncaaG3
set_option linter.unusedSimpArgs false
set_option linter.unusedVariables false
namespace Go.Y
open Go.Z (Row Blk plainV Keep KeepP RowAt Fits runsTo Pre Cx TL TC TE cxOf)
section
variable {P : Program} {cx : Ctx} (hcx : CtxOK P cx)
theorem upto_get : ∀ {n i : Nat}, i < n → (upto n)[i]? = some i
  | n + 1, i, h => by
    simp only [upto]
    have hl : ∀ m, (upto m).length = m := fun m => by
      induction m with
      | zero => rfl
      | succ m ih => simp [upto, ih]
    by_cases h1 : i < n
    · rw [List.getElem?_append_left (by rw [hl]; exact h1), upto_get h1]
    · have : i = n := by omega
      subst this
      rw [List.getElem?_append_right (by rw [hl]; exact Nat.le_refl _), hl]
      simp
theorem arg_lk : ∀ (args : List SV) (i t : Nat) (x : SV), lk (argE i args) t = some x → i ≤ t ∧ args[t - i]? = some x
  | [], _, _, _, h => by cases h
  | u :: r, i, t, x, h => by
    simp only [argE, lk_cons] at h
    by_cases hit : i = t
    · subst hit; rw [if_pos rfl] at h; cases h; simp
    · rw [if_neg hit] at h
      obtain ⟨h1, h2⟩ := arg_lk r (i + 1) t x h
      refine ⟨by omega, ?_⟩
      rw [show t - i = (t - (i + 1)) + 1 by omega, List.getElem?_cons_succ]
      exact h2
theorem Zarg_lk : ∀ (vs : List Value) (i t : Nat) (v : Value), i ≤ t → vs[t - i]? = some v → Z.lk (Z.argsE i vs) t = some v
  | [], _, _, _, _, h => by simp at h
  | u :: r, i, t, v, hi, h => by
    simp only [Z.argsE, Z.lk]
    by_cases hit : i = t
    · subst hit; simp [Nat.beq_refl] at h ⊢; exact h
    · rw [Z.beq_ne hit]
      simp only [cond_false]
      refine Zarg_lk r (i + 1) t v (by omega) ?_
      rw [show t - i = (t - (i + 1)) + 1 by omega, List.getElem?_cons_succ] at h
      exact h
theorem arg_rep {ρ : List Nat} {R : List Row} {args : List SV} {args' : List Value} (h : A2 (repV ρ R) args args') : repE ρ R (argE 0 args) (Z.argsE 0 args') := fun t x hx => by
  obtain ⟨h1, h2⟩ := arg_lk args 0 t x hx
  obtain ⟨v, h3, h4⟩ := h.get h2
  exact ⟨v, Zarg_lk args' 0 t v h1 h3, h4⟩
include hcx in
theorem res1_sound {c : Cx} {ρ : List Nat} {e : Env} {e' : Z.Env} {H : List Bk} {H' : List Blk} (he : repE ρ c.R e e') (hH : repH ρ c.R H H') {rv : ResultVar} {x : V1} (h : res1 cx e H rv = some x) :
    ∃ v, rep1 ρ c.R x v ∧ ∀ N a w, Fits N a e' → Z.Good c w H' → (Z.resSem a.tmps rv).run P w = .ok v w := by
  cases rv with
  | tmp t =>
    simp only [res1] at h
    split at h
    · rename_i y hy
      cases h
      obtain ⟨v, h1, h2⟩ := he t _ hy
      refine ⟨v, h2, fun N a w ha hw => ?_⟩
      simp only [Z.resSem, ha.at_ _ _ h1]
      rfl
    · cases h
  | cell s t =>
    simp only [res1] at h
    split at h
    · rename_i n o ti hs hti
      have hT := hcx.ty _ _ hti
      obtain ⟨v, h1, h2⟩ := he s _ hs
      obtain ⟨b, hb, rfl⟩ := h2
      split at h
      · rename_i B hB
        obtain ⟨B', hB', hrep, hid⟩ := hH.nth hB
        rw [hb] at hid
        cases hid
        cases hag : ti.ag with
        | true =>
          simp only [hag, cond_true, Option.map_eq_some_iff] at h
          obtain ⟨ss, hss, rfl⟩ := h
          obtain ⟨g1, g2⟩ := getN_rep hrep.cs hss
          refine ⟨_, ⟨_, rfl, g1⟩, fun N a w ha hw => ?_⟩
          have := loadCells_of (P := P) (hw.has _ (List.mem_of_getElem? hB')) rfl g2
          simp only [Z.resSem, ha.at_ _ _ h1]
          simp [asAddr, loadVar, hT.agg w, hag, hT.size w, this]
        | false =>
          simp only [hag, cond_false, Option.map_eq_some_iff] at h
          obtain ⟨y, hy, rfl⟩ := h
          obtain ⟨u, hu, hr⟩ := getC_rep hrep.cs hy
          refine ⟨u, hr, fun N a w ha hw => ?_⟩
          simp only [Z.resSem, ha.at_ _ _ h1]
          simp [asAddr, loadVar, hT.agg w, hag, cell_of (hw.has _ (List.mem_of_getElem? hB')) hu]
      · cases h
    · cases h
include hcx in
theorem resL_sound {c : Cx} {ρ : List Nat} {e : Env} {e' : Z.Env} {H : List Bk} {H' : List Blk} (he : repE ρ c.R e e') (hH : repH ρ c.R H H') : ∀ {rs : List ResultVar} {xs : List V1}, resL cx e H rs = some xs →
    ∃ vs, A2 (rep1 ρ c.R) xs vs ∧ ∀ N a w, Fits N a e' → Z.Good c w H' → (rs.mapM (Z.resSem a.tmps)).run P w = .ok vs w
  | [], xs, h => by cases h; exact ⟨[], .nil, fun _ _ w _ _ => by simp⟩
  | r :: rs, xs, h => by
    simp only [resL] at h
    split at h
    · rename_i v vs h1 h2
      cases h
      obtain ⟨u, hu, hr⟩ := res1_sound hcx he hH h1
      obtain ⟨us, hus, hrs⟩ := resL_sound he hH h2
      refine ⟨u :: us, .cons hu hus, fun N a w ha hw => ?_⟩
      rw [List.mapM_cons]
      simp only [Sem.run_bind, hr N a w ha hw, Result.andThen_ok, hrs N a w ha hw, Sem.run_pure]
    · cases h
theorem resV_rep {ρ : List Nat} {R : List Row} {xs : List V1} {vs : List Value} (h : A2 (rep1 ρ R) xs vs) : repV ρ R (resV xs) (if h : vs.toArray.size = 1 then vs.toArray[0] else .tuple vs.toArray) := by
  cases h with
  | nil => exact ⟨[], by simp, .nil⟩
  | cons h0 t =>
    cases t with
    | nil => exact h0
    | cons h1 t => exact ⟨_, by simp, .cons h0 (.cons h1 t)⟩
theorem finB_sound {c : Cx} {ρ ρ0 : List Nat} {H : List Bk} {H' : List Blk} (hH : repH ρ c.R H H') {n0 : Nat} {keep : List Nat} {v sv : SV} {u : Value} {H1 : List Bk} {w : World} (hw : Z.Good c w H') (hx : Ext ρ0 ρ) (hn : ρ0.length = n0) (hv : repV ρ c.R v u) (h : finB n0 keep v H = some (sv, H1)) :
    ∃ ρ' T, Ext ρ0 ρ' ∧ repV ρ' c.R sv u ∧ repH ρ' c.R H1 T ∧ Z.Good c w T := by
  unfold finB at h
  simp only at h
  split at h
  · rename_i Bs hBs
    cases hq : (nodupB (upto n0 ++ keep) && (allIn (upto n0 ++ keep) (nmV v) && allIn (upto n0 ++ keep) (nmBs Bs))) with
    | false => simp [hq] at h
    | true =>
      simp only [hq, cond_true, Option.some.injEq, Prod.mk.injEq] at h
      obtain ⟨rfl, rfl⟩ := h
      simp only [Bool.and_eq_true] at hq
      have hnd := nodupB_nodup hq.1
      have ha1 := allIn_iff.1 hq.2.1
      have ha2 := allIn_iff.1 hq.2.2
      obtain ⟨Bs', p1, p2⟩ := pickB_rep hH hBs
      have hg : ∀ n, n ∈ upto n0 ++ keep → ∀ b : Nat, ρ[n]? = some b → (Bs'.map Blk.b)[idx n (upto n0 ++ keep)]? = some b := fun n hn b hb => pick_ids p1 hH hn hb
      refine ⟨Bs'.map Blk.b, Bs', fun n b hb => ?_, rnV_rep (fun n hn => hg n (ha1 n hn)) hv, ⟨rfl, rnBs_rep (fun n hn => hg n (ha2 n hn)) p2⟩, good_sub hw (fun x hx => ?_) (pick_nodup hw.nodup hnd p1)⟩
      · have hlt : n < n0 := by rw [← hn]; exact (List.getElem?_eq_some_iff.1 hb).1
        have hnn : (upto n0 ++ keep)[n]? = some n := by
          have := upto_get hlt
          rw [List.getElem?_append_left (List.getElem?_eq_some_iff.1 this).1]
          exact this
        obtain ⟨B', h1, h2⟩ := p1.get hnn
        have h3 := hx n b hb
        rw [hH.ids, List.getElem?_map, h2] at h3
        rw [List.getElem?_map, h1]
        exact h3
      · obtain ⟨n, _, hB⟩ := pick_mem p1 x hx
        exact List.mem_of_getElem? hB
  · cases h
omit hcx in
/-- one way to reckon a call, of several -/
structure Way (P : Program) (N : Nat) (rs : List ResultVar) (code : Code) (args : List SV) (H : List Bk) (W : List Rw) (K : SV × List Bk → Prop) : Prop where
  ex : ∃ (cx : Ctx) (NE : Nat), CtxOK P cx ∧ (∀ (c : Cx) (ρ0 : List Nat) (W : List Rw), repR W c.R → ρ0.length ≤ NE → LpOK P cx c ρ0 N W code) ∧ (Nat.ble args.length N && Nat.ble H.length NE) = true ∧ (runF cx N rs code args H W).all K
omit hcx in
theorem Way.mk' {P : Program} {cx : Ctx} (hcx : CtxOK P cx) (NE : Nat) {N : Nat} {rs : List ResultVar} {code : Code} {args : List SV} {H : List Bk} {W : List Rw} {K : SV × List Bk → Prop}
    (hlp : ∀ (c : Cx) (ρ0 : List Nat) (W : List Rw), repR W c.R → ρ0.length ≤ NE → LpOK P cx c ρ0 N W code) (h1 : (Nat.ble args.length N && Nat.ble H.length NE) = true) (h : (runF cx N rs code args H W).all K) : Way P N rs code args H W K := ⟨cx, NE, hcx, hlp, h1, h⟩
omit hcx in
theorem con_ok' {f : FuncId} {fn : Func} {code : Code} {N : Nat} {rs : List ResultVar} {con : Con} (hf : P.funcs[f]? = some fn) (hb : fn.body = some code) (hN : fn.ntmps = N) (hrs : fn.results.toList = rs)
    (h : ∀ (args : List SV) (H : List Bk) (W : List Rw) (K : SV × List Bk → Prop), (con.run args H W).all K → (con.ro = true → ∀ B ∈ H, B.wr = false) → Way P N rs code args H W K) : ConOK P f con := by
  intro args H W K hK hro ρ R args' H' hargs hH hR
  obtain ⟨cx, NE, hcx, hlp, hl, h⟩ := h args H W K hK hro
  rw [Bool.and_eq_true] at hl
  obtain ⟨hl, hne⟩ := hl
  refine Z.Spec.intro (N := N) hf hb hN (by rw [← hargs.len]; exact hl) (fun w hw => ?_)
  unfold runF at h
  have h := Tr.all_bind h
  have hc := runC_sound (c := cxOf w H' R) (ρ0 := ρ) hcx hR code (bodyPost P fn (Z.Ends (cxOf w H' R) fun v H1' => ∃ sv H1 ρ', K (sv, H1) ∧ (∀ (n b : Nat), ρ[n]? = some b → ρ'[n]? = some b) ∧ repV ρ' R sv v ∧ repH ρ' R H1 H1')) (argE 0 args) H (hlp _ _ _ hR (by rw [hH.len]; exact Nat.le_of_ble_eq_true hne)) (Tr.all_mono (fun y hy => ?_) h)
  · exact hc ρ _ H' (Ext.refl _) (arg_rep hargs) hH
  · obtain ⟨x, e, H1⟩ := y
    have key : ((ofO 272 (resL cx e H1 rs)).bind fun vs => ofO 273 (finB (Y.len H) (kpN (Y.len H) (nmV (resV vs)) H1) (resV vs) H1)).all K → (∀ (ρ' : List Nat) (e' : Z.Env) (H1' : List Blk), Ext ρ ρ' → repE ρ' R e e' → repH ρ' R H1 H1' → ∀ a w', Fits N a e' → Z.Good (cxOf w H' R) w' H1' →
        a.defers = [] ∧ ∃ v, (results fn a.tmps).run P w' = .ok v w' ∧ Z.Ends (cxOf w H' R) (fun v H1' => ∃ sv H1 ρ', K (sv, H1) ∧ (∀ (n b : Nat), ρ[n]? = some b → ρ'[n]? = some b) ∧ repV ρ' R sv v ∧ repH ρ' R H1 H1') (.returned v) w') := fun hk ρ' e' H1' hx he hH1 a w' ha hw' => by
      obtain ⟨vs, hvs, hk⟩ := peel hk
      obtain ⟨⟨sv, H2⟩, hfin, hk⟩ := peelO hk
      obtain ⟨us, hus, hrun⟩ := resL_sound (c := cxOf w H' R) hcx he hH1 hvs
      obtain ⟨ρ2, T, t1, t2, t3, t4⟩ := finB_sound (c := cxOf w H' R) hH1 hw' hx (by rw [len_eq, hH.len]) (resV_rep hus) hfin
      refine ⟨ha.defers, _, ?_, _, T, rfl, ⟨sv, H2, ρ2, hk, t1, t2, t3⟩, t4⟩
      have h1 := hrun N a w' ha hw'
      have h2 : (fn.results.mapM (Z.resSem a.tmps)).run P w' = .ok us.toArray w' := by
        rw [Array.mapM_eq_mapM_toList, hrs]
        simp only [map_eq_pure_bind, Sem.run_bind, h1, Result.andThen_ok, Sem.run_pure]
      have h4 : results fn a.tmps = (do let vs ← fn.results.mapM (Z.resSem a.tmps); pure (if h : vs.size = 1 then vs[0] else .tuple vs) : Sem Value) := by
        unfold results
        refine congrArg (fun g : ResultVar → Sem Value => (do let vs ← fn.results.mapM g; pure (if h : vs.size = 1 then vs[0] else .tuple vs) : Sem Value)) ?_
        funext x
        cases x <;> rfl
      rw [h4]
      simp only [Sem.run_bind, h2, Result.andThen_ok, Sem.run_pure]
    cases x with
    | ex id => exact hy.elim
    | nor => exact fun ρ' e' H1' hx he hH1 a w' ha hw' => key hy ρ' e' H1' hx he hH1 a w' ha hw'
    | ret => exact fun ρ' e' H1' hx he hH1 a w' ha hw' => key hy ρ' e' H1' hx he hH1 a w' ha hw'
include hcx in
theorem con_ok {f : FuncId} {fn : Func} {code : Code} {N : Nat} {rs : List ResultVar} (NE : Nat) {con : Con} (hf : P.funcs[f]? = some fn) (hb : fn.body = some code) (hN : fn.ntmps = N) (hrs : fn.results.toList = rs)
    (hlp : ∀ (c : Cx) (ρ0 : List Nat) (W : List Rw), repR W c.R → ρ0.length ≤ NE → LpOK P cx c ρ0 N W code)
    (h : ∀ (args : List SV) (H : List Bk) (W : List Rw) (K : SV × List Bk → Prop), (con.run args H W).all K → (con.ro = true → ∀ B ∈ H, B.wr = false) → (Nat.ble args.length N && Nat.ble H.length NE) = true ∧ (runF cx N rs code args H W).all K) : ConOK P f con :=
  con_ok' hf hb hN hrs fun args H W K hK hro => Way.mk' hcx NE hlp (h args H W K hK hro).1 (h args H W K hK hro).2
end
end Go.Y

set_option linter.unusedSimpArgs false
set_option linter.unusedVariables false
namespace Go.Y
open Go.Z (Row Blk plainV Keep KeepP RowAt Fits runsTo Pre Cx TL TC TE cxOf)
abbrev LpFn := Env → List Bk → List Rw → Tr (X × Env × List Bk)
theorem selE_sub {e : Env} : ∀ {ks : List Nat} {vs : List SV}, selE e ks = some vs → Sub (zipE ks vs) e
  | [], vs, h => by cases h; intro t v hv; cases hv
  | k :: r, vs, h => by
    simp only [selE] at h
    split at h
    · rename_i v us h1 h2
      cases h
      intro t u hu
      simp only [zipE, lk_cons] at hu
      by_cases hk : k = t
      · subst hk
        rw [if_pos rfl] at hu
        cases hu
        exact ⟨_, h1, Same.refl _⟩
      · rw [if_neg hk] at hu
        exact selE_sub h2 t u hu
    · cases h
theorem Sub.nil {e : Env} : Sub [] e := by intro t u hu; cases hu
theorem Sub.cons {k : Nat} {v : SV} {r e : Env} (h : lk e k = some v) (hr : Sub r e) : Sub ((k, v) :: r) e := by
  intro t u hu
  rw [lk_cons] at hu
  by_cases hk : k = t
  · subst hk
    rw [if_pos rfl] at hu
    cases hu
    exact ⟨_, h, Same.refl _⟩
  · rw [if_neg hk] at hu
    exact hr t u hu
section
variable {P : Program} {cx : Ctx} (hcx : CtxOK P cx) {c : Cx} {ρ0 : List Nat} {N : Nat} {W : List Rw}
/-- the slots of a list, told anew -/
theorem zipE_rn {ρa ρb : List Nat} {R : List Row} {g : Nat → Nat} {a : Z.Env} : ∀ {ks : List Nat} {vs : List SV}, (∀ n ∈ nmA vs, ∀ b : Nat, ρa[n]? = some b → ρb[g n]? = some b) → (∀ (t : Nat) (x : SV), (t, x) ∈ ks.zip vs → ∃ v, Z.lk a t = some v ∧ repV ρa R x v) → repE ρb R (zipE ks (vs.map (rnV g))) a
  | [], vs, _, _ => by intro t x hx; cases vs <;> cases hx
  | k :: r, [], _, _ => by intro t x hx; cases hx
  | k :: r, v :: vs, hg, h => by
    intro t x hx
    simp only [List.map_cons, zipE, lk_cons] at hx
    by_cases hk : k = t
    · subst hk
      rw [if_pos rfl] at hx
      cases hx
      obtain ⟨u, h1, h2⟩ := h k v (by simp)
      exact ⟨u, h1, rnV_rep (fun n hn => hg n (by simp [nmA, hn])) h2⟩
    · rw [if_neg hk] at hx
      exact zipE_rn (ks := r) (vs := vs) (fun n hn => hg n (by simp [nmA, hn])) (fun t x hm => h t x (by simp [hm])) t x hx
theorem selE_mem {e : Env} {ρ : List Nat} {R : List Row} {e' : Z.Env} (he : repE ρ R e e') : ∀ {ks : List Nat} {vs : List SV}, selE e ks = some vs → ∀ (t : Nat) (x : SV), (t, x) ∈ ks.zip vs → ∃ v, Z.lk e' t = some v ∧ repV ρ R x v
  | [], vs, h, t, x, hm => by simp at hm
  | k :: r, vs, h, t, x, hm => by
    simp only [selE] at h
    split at h
    · rename_i v us h1 h2
      cases h
      simp only [List.zip_cons_cons, List.mem_cons, Prod.mk.injEq] at hm
      rcases hm with ⟨rfl, rfl⟩ | hm
      · exact he _ _ h1
      · exact selE_mem he h2 t x hm
    · cases h
theorem neO_le {ρa ρb : List Nat} {ne : Nat} {H : List Bk} (h : ρa.length ≤ ne) (hx : Ext ρa ρb) (hl : ρb.length = H.length) : ρa.length ≤ neO ne H := by
  have h1 : ρa.length ≤ H.length := by
    rw [← hl]
    cases hn : ρa.length with
    | zero => omega
    | succ n =>
      have := hx n ρa[n] (List.getElem?_eq_getElem (by omega))
      have := (List.getElem?_eq_some_iff.1 this).1
      omega
  unfold neO
  rw [len_eq]
  cases Nat.ble ne H.length <;> simp only [cond_true, cond_false] <;> assumption
theorem finE_sound {ρ ρs : List Nat} {e : Env} {e' : Z.Env} {H H1 : List Bk} {H' : List Blk} {ks keep : List Nat} {vs us : List SV} {n0 : Nat} (he : repE ρ c.R e e') (hH : repH ρ c.R H H') (hs : selE e ks = some vs) (hf : finE n0 keep vs H = some (us, H1)) (hx : Ext ρs ρ) (hn : ρs.length ≤ n0) {w : World} (hw : Z.Good c w H') :
    ∃ ρ' T, Ext ρs ρ' ∧ repE ρ' c.R (zipE ks us) e' ∧ repH ρ' c.R H1 T ∧ Z.Good c w T := by
  unfold finE at hf
  simp only at hf
  split at hf
  · rename_i Bs hBs
    cases hq : (nodupB (upto n0 ++ keep) && (allIn (upto n0 ++ keep) (nmA vs) && allIn (upto n0 ++ keep) (nmBs Bs))) with
    | false => simp [hq] at hf
    | true =>
      simp only [hq, cond_true, Option.some.injEq, Prod.mk.injEq] at hf
      obtain ⟨rfl, rfl⟩ := hf
      simp only [Bool.and_eq_true] at hq
      have hnd := nodupB_nodup hq.1
      have ha1 := allIn_iff.1 hq.2.1
      have ha2 := allIn_iff.1 hq.2.2
      obtain ⟨Bs', p1, p2⟩ := pickB_rep hH hBs
      have hg : ∀ n, n ∈ upto n0 ++ keep → ∀ b : Nat, ρ[n]? = some b → (Bs'.map Blk.b)[idx n (upto n0 ++ keep)]? = some b := fun n hn b hb => pick_ids p1 hH hn hb
      refine ⟨Bs'.map Blk.b, Bs', fun n b hb => ?_, zipE_rn (fun n hn => hg n (ha1 n hn)) (selE_mem he hs), ⟨rfl, rnBs_rep (fun n hn => hg n (ha2 n hn)) p2⟩, good_sub hw (fun x hx => ?_) (pick_nodup hw.nodup hnd p1)⟩
      · have hlt : n < n0 := Nat.lt_of_lt_of_le (List.getElem?_eq_some_iff.1 hb).1 hn
        have hnn : (upto n0 ++ keep)[n]? = some n := by
          have := upto_get hlt
          rw [List.getElem?_append_left (List.getElem?_eq_some_iff.1 this).1]
          exact this
        obtain ⟨B', h1, h2⟩ := p1.get hnn
        have h3 := hx n b hb
        rw [hH.ids, List.getElem?_map, h2] at h3
        rw [List.getElem?_map, h1]
        exact h3
      · obtain ⟨n, _, hB⟩ := pick_mem p1 x hx
        exact List.mem_of_getElem? hB
  · cases hf
def LpAt (c : Cx) (ρ0 : List Nat) (N : Nat) {σ : Type} (ks : List Nat) (E : σ → List SV) (HH : σ → List Bk) (J : σ → Prop) : Act → World → Prop := fun a w =>
  ∃ s ρ e' H', J s ∧ Ext ρ0 ρ ∧ repE ρ c.R (zipE ks (E s)) e' ∧ repH ρ c.R (HH s) H' ∧ Fits N a e' ∧ Z.Good c w H'
include hcx in
theorem loop_sound (hR : repR W c.R) {σ : Type} {body : Code} (hlp : LpOK P cx c ρ0 N W body) (ks : List Nat) (ne : Nat) (hne : ρ0.length ≤ ne) (E : σ → List SV) (HH : σ → List Bk) (I : σ → Prop) (μ : σ → Nat) (Post : X × List SV × List Bk → Prop)
    (round : ∀ s, I s → (rnd cx N W body ks ne (zipE ks (E s)) (HH s)).all fun y => (y.1 = .nor ∧ ∃ s', I s' ∧ μ s' < μ s ∧ y.2.1 = E s' ∧ y.2.2 = HH s') ∨ (y.1 ≠ .nor ∧ Post y)) {Q : Exit → Act → World → Prop}
    (hQ : ∀ y, y.1 ≠ .nor → Post y → YE c ρ0 Q N (toX y.1) (zipE ks y.2.1) y.2.2) (s0 : σ) (hI : I s0) : YC P c ρ0 Q N (.loop body) (zipE ks (E s0)) (HH s0) := fun ρ e' H' hx he hH a w ha hw => by
  let p : Act → World → Nat → Prop := fun a w n => LpAt c ρ0 N ks E HH (fun s => I s ∧ μ s = n) a w
  have hp : ∀ a w, (∃ n, p a w n) → p a w (Classical.epsilon fun n => p a w n ∧ ∀ m, p a w m → n ≤ m) ∧ ∀ m, p a w m → (Classical.epsilon fun n => p a w n ∧ ∀ m, p a w m → n ≤ m) ≤ m :=
    fun a w h => Classical.epsilon_spec (Z.least h)
  refine wp_loop (fun a w => ∃ n, p a w n) (fun a w => Classical.epsilon fun n => p a w n ∧ ∀ m, p a w m → n ≤ m) ⟨_, s0, ρ, e', H', ⟨hI, rfl⟩, hx, he, hH, ha, hw⟩ (fun a w hIa => ?_)
  obtain ⟨s, ρ1, e1, H1, ⟨hs, hm⟩, hx1, he1, hH1, ha1, hw1⟩ := (hp a w hIa).1
  have hround := round s hs
  unfold rnd at hround
  have hround := Tr.all_bind hround
  have hc := runC_sound (c := c) (ρ0 := ρ0) hcx hR body (Exit.then (LpAt c ρ0 N ks E HH fun s' => I s' ∧ μ s' < μ s) Q) (zipE ks (E s)) (HH s) hlp (Tr.all_mono (fun y hy => ?_) hround) ρ1 e1 H1 hx1 he1 hH1 a w ha1 hw1
  · refine wp_mono hc (fun ex a1 w1 hq => ?_)
    cases ex with
    | normal =>
      obtain ⟨s', ρ2, e2, H2, ⟨hI', hlt⟩, k1, k2, k3, k4, k5⟩ := hq
      have hx : p a1 w1 (μ s') := ⟨s', ρ2, e2, H2, ⟨hI', rfl⟩, k1, k2, k3, k4, k5⟩
      exact ⟨⟨_, hx⟩, Nat.lt_of_le_of_lt ((hp a1 w1 ⟨_, hx⟩).2 _ hx) (hm ▸ hlt)⟩
    | _ => exact hq
  · obtain ⟨x, e2, H2⟩ := y
    obtain ⟨vs, hvs, hy⟩ := peel hy
    obtain ⟨⟨us, H3⟩, hfin, hy⟩ := peel hy
    intro ρ2 e2' H2' hx2 he2 hH2 a2 w2 ha2 hw2
    obtain ⟨ρ3, T, t1, t2, t3, t4⟩ := finE_sound he2 hH2 hvs hfin hx2 (neO_le hne hx1 (repH.len hH1)) hw2
    have hx3 : Ext ρ0 ρ3 := t1
    rcases hy with ⟨hn, s', h1, h2, h3, h4⟩ | ⟨hn, hpost⟩
    · simp only at hn h3 h4
      subst hn
      exact ⟨s', ρ3, e2', T, ⟨h1, h2⟩, hx3, h3 ▸ t2, h4 ▸ t3, ha2, t4⟩
    · have := hQ _ hn hpost ρ3 e2' T hx3 t2 t3 a2 w2 ha2 t4
      cases x with
      | nor => exact absurd rfl hn
      | ret => exact this
      | ex id => exact this
/-- a code told anew: these slots, the blocks that are left -/
theorem YC.canon {Q : Exit → Act → World → Prop} {code : Code} {e : Env} {H H1 : List Bk} {ks : List Nat} {ne : Nat} {us : List SV} (hne : ρ0.length ≤ ne) (h1 : canE ne ks e H = some (us, H1)) (h : YC P c ρ0 Q N code (zipE ks us) H1) : YC P c ρ0 Q N code e H := fun ρ e' H' hx he hH a w ha hw => by
  unfold canE at h1
  rw [Option.bind_eq_some_iff] at h1
  obtain ⟨vs, hvs, hf⟩ := h1
  obtain ⟨ρ', T, t1, t2, t3, t4⟩ := finE_sound he hH hvs hf hx (neO_le hne hx (repH.len hH)) hw
  exact h ρ' e' T t1 t2 t3 a w ha t4
/-- a code's loops, the outermost ones -/
def loopsC : Code → List Code
  | .seq a b => loopsC a ++ loopsC b
  | .cond _ a b => loopsC a ++ loopsC b
  | .block _ a => loopsC a
  | .loop a => [a]
  | _ => []
theorem LpOK.of : ∀ {code : Code}, (∀ a ∈ loopsC code, ∀ g, cx.lp (firstR a) = some g → ∀ Q e H, (g e H W).all (fun y => YE c ρ0 Q N (toX y.1) y.2.1 y.2.2) → YC P c ρ0 Q N (.loop a) e H) → LpOK P cx c ρ0 N W code
  | .seq a b, h => ⟨LpOK.of fun x hx => h x (List.mem_append_left _ hx), LpOK.of fun x hx => h x (List.mem_append_right _ hx)⟩
  | .cond _ a b, h => ⟨LpOK.of fun x hx => h x (List.mem_append_left _ hx), LpOK.of fun x hx => h x (List.mem_append_right _ hx)⟩
  | .block _ a, h => LpOK.of (code := a) h
  | .loop a, h => h a (by simp [loopsC])
  | .skip, _ => trivial
  | .region .., _ => trivial
  | .rangeFunc .., _ => trivial
  | .exit _, _ => trivial
  | .scope _, _ => trivial
  | .label _, _ => trivial
  | .goto _, _ => trivial
  | .ret, _ => trivial
  | .refuse _, _ => trivial
/-- the loop that begins with this region -/
def loopB (r : Nat) : Code → Option Code
  | .seq a b => match loopB r a with
    | some x => some x
    | none => loopB r b
  | .cond _ a b => match loopB r a with
    | some x => some x
    | none => loopB r b
  | .block _ a => loopB r a
  | .loop a => bif Nat.beq (firstR a) r then some a else loopB r a
  | _ => none
def loopC (r : Nat) (code : Code) : Code := match loopB r code with
  | some a => a
  | none => .skip
/-- one loop alone -/
theorem LpOK.one {code body : Code} {g : LpFn} (hl : loopsC code = [body]) (hg : cx.lp (firstR body) = some g) (h : ∀ Q e H, (g e H W).all (fun y => YE c ρ0 Q N (toX y.1) y.2.1 y.2.2) → YC P c ρ0 Q N (.loop body) e H) : LpOK P cx c ρ0 N W code :=
  LpOK.of fun a ha g' hg' => by
    rw [hl, List.mem_singleton] at ha
    subst ha
    rw [hg] at hg'
    cases hg'
    exact h
/-- several loops -/
def LpAll (P : Program) (cx : Ctx) (c : Cx) (ρ0 : List Nat) (N : Nat) (W : List Rw) : List (Code × LpFn) → Prop
  | [] => True
  | (b, g) :: r => (cx.lp (firstR b) = some g ∧ ∀ Q e H, (g e H W).all (fun y => YE c ρ0 Q N (toX y.1) y.2.1 y.2.2) → YC P c ρ0 Q N (.loop b) e H) ∧ LpAll P cx c ρ0 N W r
theorem LpAll.get {ls : List (Code × LpFn)} (h : LpAll P cx c ρ0 N W ls) : ∀ a ∈ ls.map (·.1), ∀ g, cx.lp (firstR a) = some g → ∀ Q e H, (g e H W).all (fun y => YE c ρ0 Q N (toX y.1) y.2.1 y.2.2) → YC P c ρ0 Q N (.loop a) e H := by
  induction ls with
  | nil => intro a ha; cases ha
  | cons x r ih =>
    obtain ⟨b, g0⟩ := x
    obtain ⟨⟨h1, h2⟩, h3⟩ := h
    intro a ha g hg
    simp only [List.map_cons, List.mem_cons] at ha
    rcases ha with rfl | ha
    · rw [h1] at hg
      cases hg
      exact h2
    · exact ih h3 a ha g hg
theorem LpOK.all {code : Code} {ls : List (Code × LpFn)} (hl : loopsC code = ls.map (·.1)) (h : LpAll P cx c ρ0 N W ls) : LpOK P cx c ρ0 N W code := LpOK.of fun a ha => h.get a (hl ▸ ha)
theorem leafI {K : SV × List Bk → Prop} {k : IntKind} {m n : Int} {H : List Bk} (h : K (.v (.c (.i k m)), H)) (e : m = n) : K (.v (.c (.i k n)), H) := e ▸ h
theorem leafB {K : SV × List Bk → Prop} {m n : Bool} {H : List Bk} (h : K (.v (.c (.b m)), H)) (e : m = n) : K (.v (.c (.b n)), H) := e ▸ h
theorem leafE {K : SV × List Bk → Prop} {x y : SV × List Bk} (h : K x) (e : x = y) : K y := e ▸ h
end
end Go.Y

set_option linter.unusedSimpArgs false
set_option linter.unusedVariables false
namespace Go.Y
open Go.Z (Row Blk Kd)
def codeOf (f : Func) : Code := match f.body with
  | some c => c
  | none => .skip
def lkC : List (Nat × Con) → Nat → Option Con
  | [], _ => none
  | (k, c) :: r, f => bif Nat.beq k f then some c else lkC r f
def okC (P : Program) : List (Nat × Con) → Prop
  | [] => True
  | (f, c) :: r => (ConOK P f c ∧ ∀ args w, (callFunc f args).run P w = .ok (.enter f args) w) ∧ okC P r
def lkE : List (Nat × List Kd) → Nat → Option (List Kd)
  | [], _ => none
  | (k, c) :: r, f => bif Nat.beq k f then some c else lkE r f
def okE (P : Program) : List (Nat × List Kd) → Prop
  | [] => True
  | (t, ks) :: r => (Z.AggEq P 10000 t ks ∧ P.eqGuardType P.depth t = false) ∧ okE P r
abbrev LpT := Env → List Bk → List Rw → Tr (X × Env × List Bk)
def lkL : List (Nat × LpT) → Nat → Option LpT
  | [], _ => none
  | (k, c) :: r, f => bif Nat.beq k f then some c else lkL r f
def okTm (P : Program) : Tm → Prop
  | .leaf => True
  | .node l k v r => okTm P l ∧ TyOK P k v ∧ okTm P r
theorem okTm_get {P : Program} : ∀ {m : Tm} {t : Nat} {ti : TyI}, okTm P m → m.get t = some ti → TyOK P t ti
  | .leaf, _, _, _, h => by cases h
  | .node l k v r, t, ti, ⟨h1, h2, h3⟩, h => by
    simp only [Tm.get] at h
    cases hb : Nat.beq t k with
    | true =>
      simp only [hb, cond_true, Option.some.injEq] at h
      subst h
      rw [Nat.eq_of_beq_eq_true hb]
      exact h2
    | false =>
      simp only [hb, cond_false] at h
      cases hl : Nat.blt t k with
      | true => simp only [hl, cond_true] at h; exact okTm_get h1 h
      | false => simp only [hl, cond_false] at h; exact okTm_get h3 h
def mkCtx (ty : Tm) (eqs : List (Nat × List Kd)) (cs : List (Nat × Con)) (ls : List (Nat × LpT)) : Ctx := ⟨ty, lkC cs, lkE eqs, lkL ls⟩
theorem okC_get {P : Program} : ∀ {cs : List (Nat × Con)} {f : Nat} {con : Con}, okC P cs → lkC cs f = some con → ConOK P f con ∧ ∀ args w, (callFunc f args).run P w = .ok (.enter f args) w
  | [], _, _, _, h => by cases h
  | (k, l) :: r, f, con, hc, h => by
    simp only [lkC] at h
    cases hb : Nat.beq k f with
    | true =>
      simp only [hb, cond_true, Option.some.injEq] at h
      subst h
      rw [← Nat.eq_of_beq_eq_true hb]
      exact hc.1
    | false => simp only [hb, cond_false] at h; exact okC_get hc.2 h
theorem okE_get {P : Program} : ∀ {eqs : List (Nat × List Kd)} {t : Nat} {ks : List Kd}, okE P eqs → lkE eqs t = some ks → Z.AggEq P 10000 t ks ∧ P.eqGuardType P.depth t = false
  | [], _, _, _, h => by cases h
  | (k, l) :: r, t, ks, he, h => by
    simp only [lkE] at h
    cases hb : Nat.beq k t with
    | true =>
      simp only [hb, cond_true, Option.some.injEq] at h
      subst h
      rw [← Nat.eq_of_beq_eq_true hb]
      exact he.1
    | false => simp only [hb, cond_false] at h; exact okE_get he.2 h
theorem mkCtx_ok {P : Program} {ty : Tm} {eqs : List (Nat × List Kd)} {cs : List (Nat × Con)} (ls : List (Nat × LpT)) (hm : P.follows .mixedOrders = true) (ht : okTm P ty) (he : okE P eqs) (hc : okC P cs) : CtxOK P (mkCtx ty eqs cs ls) where
  mixed := hm
  ty := fun _ _ h => okTm_get ht h
  eqs := fun t ks h => okE_get he h
  con := fun f con h => okC_get hc h
/-- a cell's value, told apart by looking -/
def eqI : Int → Int → Bool
  | .ofNat m, .ofNat n => Nat.beq m n
  | .negSucc m, .negSucc n => Nat.beq m n
  | _, _ => false
def chk1 : Sc → Value → Bool
  | .kb x, .bool y => x == y
  | .b x, .bool y => x == y
  | .i k n, .int k' m => Nat.beq (kc k) (kc k') && eqI n m
  | .s [], .string ⟨⟨[]⟩⟩ => true
  | .np, .pointer none => true
  | .ns, .slice none n m => Nat.beq n 0 && Nat.beq m 0
  | .o .nilIface, .nilIface => true
  | .o .nilFunc, .nilFunc => true
  | _, _ => false
def chkL : List Sc → List Value → Bool
  | [], [] => true
  | x :: r, y :: q => chk1 x y && chkL r q
  | _, _ => false
theorem eqI_eq : ∀ {a b : Int}, eqI a b = true → a = b
  | .ofNat m, .ofNat n, h => by rw [Nat.eq_of_beq_eq_true h]
  | .negSucc m, .negSucc n, h => by rw [Nat.eq_of_beq_eq_true h]
  | .ofNat _, .negSucc _, h => by cases h
  | .negSucc _, .ofNat _, h => by cases h
theorem chk1_rep {ρ : List Nat} {R : List Row} {x : Sc} {v : Value} (h : chk1 x v = true) : repS ρ R x v := by
  unfold chk1 at h
  split at h
  · simp only [repS]; rw [eq_of_beq h]
  · simp only [repS]; rw [eq_of_beq h]
  · simp only [Bool.and_eq_true] at h
    simp only [repS]
    rw [kc_inj h.1, eqI_eq h.2]
  · rfl
  · rfl
  · simp only [Bool.and_eq_true] at h
    simp only [repS]
    rw [Nat.eq_of_beq_eq_true h.1, Nat.eq_of_beq_eq_true h.2]
  · exact ⟨rfl, rfl⟩
  · exact ⟨rfl, rfl⟩
  · cases h
theorem chkL_rep {ρ : List Nat} {R : List Row} : ∀ {xs : List Sc} {vs : List Value}, chkL xs vs = true → A2 (repS ρ R) xs vs
  | [], [], _ => .nil
  | x :: r, y :: q, h => by
    simp only [chkL, Bool.and_eq_true] at h
    exact .cons (chk1_rep h.1) (chkL_rep h.2)
  | [], _ :: _, h => by cases h
  | _ :: _, [], h => by cases h
def wfB : List Seg → Bool
  | [] => true
  | .one _ :: r => wfB r
  | .arr _ n l :: r => Nat.beq (Y.len l) n && wfB r
theorem wfB_wf : ∀ {ss : List Seg}, wfB ss = true → wfG ss
  | [], _ => trivial
  | .one _ :: r, h => wfB_wf (ss := r) h
  | .arr _ n l :: r, h => by
    simp only [wfB, Bool.and_eq_true] at h
    exact ⟨by rw [← len_eq]; exact Nat.eq_of_beq_eq_true h.1, wfB_wf h.2⟩
def chkBy (P : Program) (t n : Nat) : Bool := match P.info? t with
  | some i => Nat.ble i.bytes (32 * n)
  | none => true
theorem chkBy_ok {P : Program} {t n : Nat} (h : chkBy P t n = true) : ∀ i, P.info? t = some i → i.bytes ≤ 32 * n := fun i hi => by
  unfold chkBy at h
  rw [hi] at h
  exact Nat.le_of_ble_eq_true h
theorem TyOK.scalar {P : Program} {t : Nat} {d : TypeDesc} {sh : Option Nat} {x : Sc} {v : Value} (hu : P.underlying t = some d) (ha : ∀ w, (isAgg t).run P w = .ok false w) (hs : ∀ w, (sizeOf t).run P w = .ok 1 w) (hz : ∀ w, (zeroValue t).run P w = .ok v w) (hc : chk1 x v = true) (hb : chkBy P t 1 = true) : TyOK P t ⟨d, false, 1, some (.c x), sh⟩ :=
  ⟨hu, ha, hs, fun _ => rfl, fun z hz' => by cases hz'; exact ⟨v, hz, fun _ _ => chk1_rep hc⟩, chkBy_ok hb⟩
theorem TyOK.agg' {P : Program} {t n : Nat} {d : TypeDesc} {sh : Option Nat} {ss : List Seg} {cs : List Value} (hu : P.underlying t = some d) (ha : ∀ w, (isAgg t).run P w = .ok true w) (hs : ∀ w, (sizeOf t).run P w = .ok n w) (hz : ∀ w, (zeroValue t).run P w = .ok (.agg cs.toArray) w) (hc : (wfB ss && chkL (cellsOf ss) cs) = true) (hb : chkBy P t n = true) : TyOK P t ⟨d, true, n, some (.agg ss), sh⟩ :=
  ⟨hu, ha, hs, (fun h => by cases h), fun z hz' => by
    cases hz'
    simp only [Bool.and_eq_true] at hc
    exact ⟨_, hz, fun _ _ => ⟨cs, rfl, wfB_wf hc.1, chkL_rep hc.2⟩⟩, chkBy_ok hb⟩
theorem TyOK.noZero {P : Program} {t n : Nat} {d : TypeDesc} {ag : Bool} {sh : Option Nat} (hu : P.underlying t = some d) (ha : ∀ w, (isAgg t).run P w = .ok ag w) (hs : ∀ w, (sizeOf t).run P w = .ok n w) (h1 : ag = false → n = 1) (hb : chkBy P t n = true) : TyOK P t ⟨d, ag, n, none, sh⟩ :=
  ⟨hu, ha, hs, h1, (fun _ h => by cases h), chkBy_ok hb⟩
end Go.Y
