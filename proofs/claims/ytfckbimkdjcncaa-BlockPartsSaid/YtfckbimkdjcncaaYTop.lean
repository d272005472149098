/- Functions: what the reckoner tells of a whole call is so. Generic in the program. -/
import Derived.Test.YtfckbimkdjcncaaYFun
set_option linter.unusedSimpArgs false
set_option linter.unusedVariables false
namespace Go.Y
open Go.Z (Row Blk plainV Keep KeepP RowAt Fits runsTo Pre Cx TL TC TE cxOf)
section
variable {P : Program} {cx : Ctx} (hcx : CtxOK P cx)
theorem upto_get : ∀ {n i : Nat}, i < n → (upto n)[i]? = some i
  | n + 1, i, h => by
    simp only [upto]
    have hl : ∀ m, (upto m).length = m := fun m => by
      induction m with
      | zero => rfl
      | succ m ih => simp [upto, ih]
    by_cases h1 : i < n
    · rw [List.getElem?_append_left (by rw [hl]; exact h1), upto_get h1]
    · have : i = n := by omega
      subst this
      rw [List.getElem?_append_right (by rw [hl]; exact Nat.le_refl _), hl]
      simp
theorem arg_lk : ∀ (args : List SV) (i t : Nat) (x : SV), lk (argE i args) t = some x → i ≤ t ∧ args[t - i]? = some x
  | [], _, _, _, h => by cases h
  | u :: r, i, t, x, h => by
    simp only [argE, lk_cons] at h
    by_cases hit : i = t
    · subst hit; rw [if_pos rfl] at h; cases h; simp
    · rw [if_neg hit] at h
      obtain ⟨h1, h2⟩ := arg_lk r (i + 1) t x h
      refine ⟨by omega, ?_⟩
      rw [show t - i = (t - (i + 1)) + 1 by omega, List.getElem?_cons_succ]
      exact h2
theorem Zarg_lk : ∀ (vs : List Value) (i t : Nat) (v : Value), i ≤ t → vs[t - i]? = some v → Z.lk (Z.argsE i vs) t = some v
  | [], _, _, _, _, h => by simp at h
  | u :: r, i, t, v, hi, h => by
    simp only [Z.argsE, Z.lk]
    by_cases hit : i = t
    · subst hit; simp [Nat.beq_refl] at h ⊢; exact h
    · rw [Z.beq_ne hit]
      simp only [cond_false]
      refine Zarg_lk r (i + 1) t v (by omega) ?_
      rw [show t - i = (t - (i + 1)) + 1 by omega, List.getElem?_cons_succ] at h
      exact h
theorem arg_rep {ρ : List Nat} {R : List Row} {args : List SV} {args' : List Value} (h : A2 (repV ρ R) args args') : repE ρ R (argE 0 args) (Z.argsE 0 args') := fun t x hx => by
  obtain ⟨h1, h2⟩ := arg_lk args 0 t x hx
  obtain ⟨v, h3, h4⟩ := h.get h2
  exact ⟨v, Zarg_lk args' 0 t v h1 h3, h4⟩
include hcx in
theorem res1_sound {c : Cx} {ρ : List Nat} {e : Env} {e' : Z.Env} {H : List Bk} {H' : List Blk} (he : repE ρ c.R e e') (hH : repH ρ c.R H H') {rv : ResultVar} {x : V1} (h : res1 cx e H rv = some x) :
    ∃ v, rep1 ρ c.R x v ∧ ∀ N a w, Fits N a e' → Z.Good c w H' → (Z.resSem a.tmps rv).run P w = .ok v w := by
  cases rv with
  | tmp t =>
    simp only [res1] at h
    split at h
    · rename_i y hy
      cases h
      obtain ⟨v, h1, h2⟩ := he t _ hy
      refine ⟨v, h2, fun N a w ha hw => ?_⟩
      simp only [Z.resSem, ha.at_ _ _ h1]
      rfl
    · cases h
  | cell s t =>
    simp only [res1] at h
    split at h
    · rename_i n o ti hs hti
      have hT := hcx.ty _ _ hti
      obtain ⟨v, h1, h2⟩ := he s _ hs
      obtain ⟨b, hb, rfl⟩ := h2
      split at h
      · rename_i B hB
        obtain ⟨B', hB', hrep, hid⟩ := hH.nth hB
        rw [hb] at hid
        cases hid
        cases hag : ti.ag with
        | true =>
          simp only [hag, cond_true, Option.map_eq_some_iff] at h
          obtain ⟨ss, hss, rfl⟩ := h
          obtain ⟨g1, g2⟩ := getN_rep hrep.cs hss
          refine ⟨_, ⟨_, rfl, g1⟩, fun N a w ha hw => ?_⟩
          have := loadCells_of (P := P) (hw.has _ (List.mem_of_getElem? hB')) rfl g2
          simp only [Z.resSem, ha.at_ _ _ h1]
          simp [asAddr, loadVar, hT.agg w, hag, hT.size w, this]
        | false =>
          simp only [hag, cond_false, Option.map_eq_some_iff] at h
          obtain ⟨y, hy, rfl⟩ := h
          obtain ⟨u, hu, hr⟩ := getC_rep hrep.cs hy
          refine ⟨u, hr, fun N a w ha hw => ?_⟩
          simp only [Z.resSem, ha.at_ _ _ h1]
          simp [asAddr, loadVar, hT.agg w, hag, cell_of (hw.has _ (List.mem_of_getElem? hB')) hu]
      · cases h
    · cases h
include hcx in
theorem resL_sound {c : Cx} {ρ : List Nat} {e : Env} {e' : Z.Env} {H : List Bk} {H' : List Blk} (he : repE ρ c.R e e') (hH : repH ρ c.R H H') : ∀ {rs : List ResultVar} {xs : List V1}, resL cx e H rs = some xs →
    ∃ vs, A2 (rep1 ρ c.R) xs vs ∧ ∀ N a w, Fits N a e' → Z.Good c w H' → (rs.mapM (Z.resSem a.tmps)).run P w = .ok vs w
  | [], xs, h => by cases h; exact ⟨[], .nil, fun _ _ w _ _ => by simp⟩
  | r :: rs, xs, h => by
    simp only [resL] at h
    split at h
    · rename_i v vs h1 h2
      cases h
      obtain ⟨u, hu, hr⟩ := res1_sound hcx he hH h1
      obtain ⟨us, hus, hrs⟩ := resL_sound he hH h2
      refine ⟨u :: us, .cons hu hus, fun N a w ha hw => ?_⟩
      rw [List.mapM_cons]
      simp only [Sem.run_bind, hr N a w ha hw, Result.andThen_ok, hrs N a w ha hw, Sem.run_pure]
    · cases h
theorem resV_rep {ρ : List Nat} {R : List Row} {xs : List V1} {vs : List Value} (h : A2 (rep1 ρ R) xs vs) : repV ρ R (resV xs) (if h : vs.toArray.size = 1 then vs.toArray[0] else .tuple vs.toArray) := by
  cases h with
  | nil => exact ⟨[], by simp, .nil⟩
  | cons h0 t =>
    cases t with
    | nil => exact h0
    | cons h1 t => exact ⟨_, by simp, .cons h0 (.cons h1 t)⟩
theorem finB_sound {c : Cx} {ρ ρ0 : List Nat} {H : List Bk} {H' : List Blk} (hH : repH ρ c.R H H') {n0 : Nat} {keep : List Nat} {v sv : SV} {u : Value} {H1 : List Bk} {w : World} (hw : Z.Good c w H') (hx : Ext ρ0 ρ) (hn : ρ0.length = n0) (hv : repV ρ c.R v u) (h : finB n0 keep v H = some (sv, H1)) :
    ∃ ρ' T, Ext ρ0 ρ' ∧ repV ρ' c.R sv u ∧ repH ρ' c.R H1 T ∧ Z.Good c w T := by
  unfold finB at h
  simp only at h
  split at h
  · rename_i Bs hBs
    cases hq : (nodupB (upto n0 ++ keep) && (allIn (upto n0 ++ keep) (nmV v) && allIn (upto n0 ++ keep) (nmBs Bs))) with
    | false => simp [hq] at h
    | true =>
      simp only [hq, cond_true, Option.some.injEq, Prod.mk.injEq] at h
      obtain ⟨rfl, rfl⟩ := h
      simp only [Bool.and_eq_true] at hq
      have hnd := nodupB_nodup hq.1
      have ha1 := allIn_iff.1 hq.2.1
      have ha2 := allIn_iff.1 hq.2.2
      obtain ⟨Bs', p1, p2⟩ := pickB_rep hH hBs
      have hg : ∀ n, n ∈ upto n0 ++ keep → ∀ b : Nat, ρ[n]? = some b → (Bs'.map Blk.b)[idx n (upto n0 ++ keep)]? = some b := fun n hn b hb => pick_ids p1 hH hn hb
      refine ⟨Bs'.map Blk.b, Bs', fun n b hb => ?_, rnV_rep (fun n hn => hg n (ha1 n hn)) hv, ⟨rfl, rnBs_rep (fun n hn => hg n (ha2 n hn)) p2⟩, good_sub hw (fun x hx => ?_) (pick_nodup hw.nodup hnd p1)⟩
      · have hlt : n < n0 := by rw [← hn]; exact (List.getElem?_eq_some_iff.1 hb).1
        have hnn : (upto n0 ++ keep)[n]? = some n := by
          have := upto_get hlt
          rw [List.getElem?_append_left (List.getElem?_eq_some_iff.1 this).1]
          exact this
        obtain ⟨B', h1, h2⟩ := p1.get hnn
        have h3 := hx n b hb
        rw [hH.ids, List.getElem?_map, h2] at h3
        rw [List.getElem?_map, h1]
        exact h3
      · obtain ⟨n, _, hB⟩ := pick_mem p1 x hx
        exact List.mem_of_getElem? hB
  · cases h
omit hcx in
/-- one way to reckon a call, of several -/
structure Way (P : Program) (N : Nat) (rs : List ResultVar) (code : Code) (args : List SV) (H : List Bk) (W : List Rw) (K : SV × List Bk → Prop) : Prop where
  ex : ∃ (cx : Ctx) (NE : Nat), CtxOK P cx ∧ (∀ (c : Cx) (ρ0 : List Nat) (W : List Rw), repR W c.R → ρ0.length ≤ NE → LpOK P cx c ρ0 N W code) ∧ (Nat.ble args.length N && Nat.ble H.length NE) = true ∧ (runF cx N rs code args H W).all K
omit hcx in
theorem Way.mk' {P : Program} {cx : Ctx} (hcx : CtxOK P cx) (NE : Nat) {N : Nat} {rs : List ResultVar} {code : Code} {args : List SV} {H : List Bk} {W : List Rw} {K : SV × List Bk → Prop}
    (hlp : ∀ (c : Cx) (ρ0 : List Nat) (W : List Rw), repR W c.R → ρ0.length ≤ NE → LpOK P cx c ρ0 N W code) (h1 : (Nat.ble args.length N && Nat.ble H.length NE) = true) (h : (runF cx N rs code args H W).all K) : Way P N rs code args H W K := ⟨cx, NE, hcx, hlp, h1, h⟩
omit hcx in
theorem con_ok' {f : FuncId} {fn : Func} {code : Code} {N : Nat} {rs : List ResultVar} {con : Con} (hf : P.funcs[f]? = some fn) (hb : fn.body = some code) (hN : fn.ntmps = N) (hrs : fn.results.toList = rs)
    (h : ∀ (args : List SV) (H : List Bk) (W : List Rw) (K : SV × List Bk → Prop), (con.run args H W).all K → (con.ro = true → ∀ B ∈ H, B.wr = false) → Way P N rs code args H W K) : ConOK P f con := by
  intro args H W K hK hro ρ R args' H' hargs hH hR
  obtain ⟨cx, NE, hcx, hlp, hl, h⟩ := h args H W K hK hro
  rw [Bool.and_eq_true] at hl
  obtain ⟨hl, hne⟩ := hl
  refine Z.Spec.intro (N := N) hf hb hN (by rw [← hargs.len]; exact hl) (fun w hw => ?_)
  unfold runF at h
  have h := Tr.all_bind h
  have hc := runC_sound (c := cxOf w H' R) (ρ0 := ρ) hcx hR code (bodyPost P fn (Z.Ends (cxOf w H' R) fun v H1' => ∃ sv H1 ρ', K (sv, H1) ∧ (∀ (n b : Nat), ρ[n]? = some b → ρ'[n]? = some b) ∧ repV ρ' R sv v ∧ repH ρ' R H1 H1')) (argE 0 args) H (hlp _ _ _ hR (by rw [hH.len]; exact Nat.le_of_ble_eq_true hne)) (Tr.all_mono (fun y hy => ?_) h)
  · exact hc ρ _ H' (Ext.refl _) (arg_rep hargs) hH
  · obtain ⟨x, e, H1⟩ := y
    have key : ((ofO 272 (resL cx e H1 rs)).bind fun vs => ofO 273 (finB (Y.len H) (kpN (Y.len H) (nmV (resV vs)) H1) (resV vs) H1)).all K → (∀ (ρ' : List Nat) (e' : Z.Env) (H1' : List Blk), Ext ρ ρ' → repE ρ' R e e' → repH ρ' R H1 H1' → ∀ a w', Fits N a e' → Z.Good (cxOf w H' R) w' H1' →
        a.defers = [] ∧ ∃ v, (results fn a.tmps).run P w' = .ok v w' ∧ Z.Ends (cxOf w H' R) (fun v H1' => ∃ sv H1 ρ', K (sv, H1) ∧ (∀ (n b : Nat), ρ[n]? = some b → ρ'[n]? = some b) ∧ repV ρ' R sv v ∧ repH ρ' R H1 H1') (.returned v) w') := fun hk ρ' e' H1' hx he hH1 a w' ha hw' => by
      obtain ⟨vs, hvs, hk⟩ := peel hk
      obtain ⟨⟨sv, H2⟩, hfin, hk⟩ := peelO hk
      obtain ⟨us, hus, hrun⟩ := resL_sound (c := cxOf w H' R) hcx he hH1 hvs
      obtain ⟨ρ2, T, t1, t2, t3, t4⟩ := finB_sound (c := cxOf w H' R) hH1 hw' hx (by rw [len_eq, hH.len]) (resV_rep hus) hfin
      refine ⟨ha.defers, _, ?_, _, T, rfl, ⟨sv, H2, ρ2, hk, t1, t2, t3⟩, t4⟩
      have h1 := hrun N a w' ha hw'
      have h2 : (fn.results.mapM (Z.resSem a.tmps)).run P w' = .ok us.toArray w' := by
        rw [Array.mapM_eq_mapM_toList, hrs]
        simp only [map_eq_pure_bind, Sem.run_bind, h1, Result.andThen_ok, Sem.run_pure]
      have h4 : results fn a.tmps = (do let vs ← fn.results.mapM (Z.resSem a.tmps); pure (if h : vs.size = 1 then vs[0] else .tuple vs) : Sem Value) := by
        unfold results
        refine congrArg (fun g : ResultVar → Sem Value => (do let vs ← fn.results.mapM g; pure (if h : vs.size = 1 then vs[0] else .tuple vs) : Sem Value)) ?_
        funext x
        cases x <;> rfl
      rw [h4]
      simp only [Sem.run_bind, h2, Result.andThen_ok, Sem.run_pure]
    cases x with
    | ex id => exact hy.elim
    | nor => exact fun ρ' e' H1' hx he hH1 a w' ha hw' => key hy ρ' e' H1' hx he hH1 a w' ha hw'
    | ret => exact fun ρ' e' H1' hx he hH1 a w' ha hw' => key hy ρ' e' H1' hx he hH1 a w' ha hw'
include hcx in
theorem con_ok {f : FuncId} {fn : Func} {code : Code} {N : Nat} {rs : List ResultVar} (NE : Nat) {con : Con} (hf : P.funcs[f]? = some fn) (hb : fn.body = some code) (hN : fn.ntmps = N) (hrs : fn.results.toList = rs)
    (hlp : ∀ (c : Cx) (ρ0 : List Nat) (W : List Rw), repR W c.R → ρ0.length ≤ NE → LpOK P cx c ρ0 N W code)
    (h : ∀ (args : List SV) (H : List Bk) (W : List Rw) (K : SV × List Bk → Prop), (con.run args H W).all K → (con.ro = true → ∀ B ∈ H, B.wr = false) → (Nat.ble args.length N && Nat.ble H.length NE) = true ∧ (runF cx N rs code args H W).all K) : ConOK P f con :=
  con_ok' hf hb hN hrs fun args H W K hK hro => Way.mk' hcx NE hlp (h args H W K hK hro).1 (h args H W K hK hro).2
end
end Go.Y
