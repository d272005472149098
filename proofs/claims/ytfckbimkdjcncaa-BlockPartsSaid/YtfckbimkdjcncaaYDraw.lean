/- Regions that draw their order. Generic in the program. -/
import Derived.Test.YtfckbimkdjcncaaYReg
set_option linter.unusedSimpArgs false
set_option linter.unusedVariables false
namespace Go.Y
open Go.Z (Row Blk plainV Keep KeepP RowAt Fits runsTo stepO wpX Tn Plan unord noSel Pre Cx TL TC TE cxOf)
theorem offB_spec {T : Tch} {m0 n : Nat} : ∀ {js : List Nat}, offB T m0 n js = true → ∀ j ∈ js, n ∉ look T j ∧ (n < m0 ∨ geAny m0 (look T j) = false)
  | [], _, _, h => by cases h
  | k :: r, h, j, hj => by
    simp only [offB, Bool.and_eq_true, Bool.not_eq_true', Bool.or_eq_true] at h
    rcases List.mem_cons.1 hj with rfl | hj
    · refine ⟨fun hm => ?_, ?_⟩
      · rw [mem_iff.2 hm] at h; cases h.1.1
      · rcases h.1.2 with h1 | h1
        · exact .inl (blt_lt h1)
        · exact .inr h1
    · exact offB_spec h.2 j hj
theorem offL_spec {T : Tch} {m0 : Nat} {js : List Nat} : ∀ {rd : List Nat}, offL T m0 js rd = true → ∀ n ∈ rd, offB T m0 n js = true
  | [], _, _, h => by cases h
  | k :: r, h, n, hn => by
    simp only [offL, Bool.and_eq_true] at h
    rcases List.mem_cons.1 hn with rfl | hn
    · exact h.1
    · exact offL_spec h.2 n hn
theorem clearB_spec {T : Tch} : ∀ {js : List Nat}, clearB T js = true → ∀ j ∈ js, look T j = []
  | [], _, _, h => by cases h
  | k :: r, h, j, hj => by
    simp only [clearB, Bool.and_eq_true] at h
    rcases List.mem_cons.1 hj with rfl | hj
    · have := h.1
      split at this
      · assumption
      · cases this
    · exact clearB_spec h.2 j hj
theorem geAny_spec {m0 : Nat} : ∀ {l : List Nat}, geAny m0 l = true ↔ ∃ n ∈ l, m0 ≤ n
  | [] => by simp [geAny]
  | n :: r => by
    have : Nat.ble m0 n = true ↔ m0 ≤ n := by simp
    simp [geAny, this, geAny_spec (l := r)]
theorem okT_spec {T : Tch} {m0 j : Nat} : ∀ {l : List Nat}, okT T m0 j l = true → ∀ n ∈ l, (n < m0 → n ∈ look T j) ∧ (m0 ≤ n → geAny m0 (look T j) = true)
  | [], _, _, h => by cases h
  | k :: r, h, n, hn => by
    simp only [okT, Bool.and_eq_true] at h
    rcases List.mem_cons.1 hn with rfl | hn
    · cases hb : Nat.blt n m0 with
      | true =>
        simp only [hb, cond_true] at h
        have := blt_lt hb
        exact ⟨fun _ => mem_iff.1 h.1, fun h2 => by omega⟩
      | false =>
        simp only [hb, cond_false] at h
        have := blt_ge hb
        exact ⟨fun h2 => by omega, fun _ => h.1⟩
    · exact okT_spec h.2 n hn
/-- what is fixed while a region draws -/
structure Dr (ρs : List Nat) (S : Tn) (T : Tch) (m0 : Nat) : Prop where
  len : ρs.length = m0
  l : ∀ j b, b ∈ S.l j ↔ ∃ n ∈ look T j, n < m0 ∧ ρs[n]? = some b
  nw : ∀ j, S.nw j = geAny m0 (look T j)
  lt : ∀ b ∈ ρs, b < S.n0
section
variable {P : Program} {cx : Ctx} (hcx : CtxOK P cx) {c : Cx} {N : Nat} {W : List Rw} {ops : Array Oper} {K : Act → World → Prop} {S : Tn} {T : Tch} {m0 : Nat} {ρs : List Nat}
def YD (P : Program) (c : Cx) (ops : Array Oper) (K : Act → World → Prop) (S : Tn) (m0 : Nat) (ρs : List Nat) (N fuel : Nat) (listed : Array Bool) (e : Env) (H : List Bk) : Prop :=
  ∀ (ρ : List Nat) (e' : Z.Env) (H' : List Blk) (a : Act) (w : World), Ext ρs ρ → (∀ (n b : Nat), m0 ≤ n → ρ[n]? = some b → S.n0 ≤ b) → repE ρ c.R e e' → repH ρ c.R H H' → Fits N a e' → Z.Good c w H' → S.n0 ≤ w.heap.size → wpX P ops K S fuel listed a w
def YK (c : Cx) (K : Act → World → Prop) (ρs : List Nat) (N : Nat) (e : Env) (H : List Bk) : Prop :=
  ∀ (ρ : List Nat) (e' : Z.Env) (H' : List Blk) (a : Act) (w : World), Ext ρs ρ → repE ρ c.R e e' → repH ρ c.R H H' → Fits N a e' → Z.Good c w H' → K a w
theorem Sub.yk {e e1 : Env} {H : List Bk} (hs : Sub e1 e) {fuel : Nat} {listed : Array Bool} (h : YD P c ops K S m0 ρs N fuel listed e1 H) : YD P c ops K S m0 ρs N fuel listed e H := fun ρ e' H' a w hx hm he hH =>
  h ρ e' H' a w hx hm (fun t x hx => by
    obtain ⟨x', h1, h2⟩ := hs t x hx
    obtain ⟨v, h3, h4⟩ := he t x' h1
    exact ⟨v, h3, h2 _ _ _ h4⟩) hH
theorem stepO_yes {o : Oper} {a : Act} {w : World} {J : Value → World → Prop} (hw : Region.wanted o (yielded ops a.tmps) = true) (h : runsTo P o a w J) : stepO P ops o a w J := by
  unfold stepO
  rw [if_pos hw]
  exact h
theorem stepO_no {o : Oper} {a : Act} {w : World} {J : Value → World → Prop} (hw : Region.wanted o (yielded ops a.tmps) = false) (h : J undef w) : stepO P ops o a w J := by
  unfold stepO
  rw [if_neg (by simp [hw])]
  exact h
theorem gd_yes {e : Env} {e' : Z.Env} {ρ : List Nat} {R : List Row} (he : repE ρ R e e') {o : Oper} (h : gdO ops.toList e o = .yes) {a : Act} (ha : Fits N a e') : Region.wanted o (yielded ops a.tmps) = true := by
  unfold gdO at h
  split at h
  · rename_i hg; simp [Region.wanted, hg]
  · rename_i j want hg
    split at h
    · cases h
    · rename_i s hs
      have hj := yielded_of' (a := ⟨#[], []⟩) (b := true) (e' := []) hs
      split at h
      · cases h
      · rename_i x hx
        cases hb : (x == want) with
        | false => simp [hb] at h
        | true =>
          obtain ⟨v, hv, hr⟩ := he s _ hx
          simp only [repV, rep1, repS] at hr
          subst hr
          have : x = want := by simpa using hb
          subst this
          simp [Region.wanted, hg, Z.yielded_of ops hj ha hv]
      · cases h
      · cases h
theorem gd_no {e : Env} {e' : Z.Env} {ρ : List Nat} {R : List Row} (he : repE ρ R e e') {o : Oper} (h : gdO ops.toList e o = .no) {a : Act} (ha : Fits N a e') : Region.wanted o (yielded ops a.tmps) = false := by
  unfold gdO at h
  split at h
  · cases h
  · rename_i j want hg
    split at h
    · cases h
    · rename_i s hs
      have hj := yielded_of' (a := ⟨#[], []⟩) (b := true) (e' := []) hs
      split at h
      · rename_i hu
        obtain ⟨v, hv, hr⟩ := he s _ hu
        simp only [repV] at hr
        subst hr
        have h1 := ha.at_ s _ hv
        have h3 : yielded ops a.tmps j = none := by
          unfold yielded
          rw [hj]
          cases h4 : a.tmps[s]? with
          | none => simp [h4]
          | some v =>
            simp only [h4, Array.getD_eq_getD_getElem?, Option.getD_some] at h1
            simp [h4, h1, undef]
        simp [Region.wanted, hg, h3]
      · rename_i x hx
        cases hb : (x == want) with
        | true => simp [hb] at h
        | false =>
          obtain ⟨v, hv, hr⟩ := he s _ hx
          simp only [repV, rep1, repS] at hr
          subst hr
          have : x ≠ want := by simpa using hb
          simp [Region.wanted, hg, Z.yielded_of ops hj ha hv, this]
      · cases h
      · cases h
theorem gd_ask {e : Env} {o : Oper} {s : Nat} {x want : Bool} (h : gdO ops.toList e o = .ask s x want) : lk e s = some (.v (.c (.b x))) ∧ gdO ops.toList ((s, .v (.c (.kb want))) :: e) o = .yes ∧ gdO ops.toList ((s, .v (.c (.kb (!want)))) :: e) o = .no := by
  unfold gdO at h ⊢
  split at h
  · cases h
  · rename_i j want' hg
    split at h
    · cases h
    · rename_i s' hs
      split at h
      · cases h
      · rename_i y _
        cases hb : (y == want') <;> simp [hb] at h
      · rename_i y hy
        cases h
        refine ⟨hy, ?_, ?_⟩
        · rw [lk_cons, if_pos rfl]; simp
        · rw [lk_cons, if_pos rfl]; cases want <;> simp
      · cases h
theorem Sub.known {e : Env} {s : Nat} {x b : Bool} (hs : lk e s = some (.v (.c (.b x)))) (hb : x = b) : Sub ((s, .v (.c (.kb b))) :: e) e := fun t v hv => by
  subst hb
  rw [lk_cons] at hv
  by_cases hst : s = t
  · subst hst
    rw [if_pos rfl] at hv
    cases hv
    exact ⟨_, hs, fun _ _ _ h => h⟩
  · rw [if_neg hst] at hv
    exact ⟨v, hv, Same.refl v⟩
/-- an operation taken first -/
theorem take_core {i d : Nat} {js : List Nat} {r : Plan} {o : Oper} {v : Value} {fuel : Nat} {listed : Array Bool} (hok : (Plan.take i js r).ok ops fuel listed = true) (hsel : noSel ops = true) (hi : ops[i]? = some o) (hdst : o.dst = some d) {a : Act} {w : World}
    (hstep : ∀ w', KeepP (fun k => ∃ j ∈ js, S.at j k) w w' → stepO P ops o a w' fun v' w'' => v' = v ∧ Keep [] w' w'') (hrest : ∀ n, r.ok ops n (listed.setIfInBounds i true) = true → wpX P ops K S n (listed.setIfInBounds i true) (a.put (some d) v) w) : wpX P ops K S fuel listed a w := by
  obtain ⟨n, rfl, hir, hf, hjs, hok2⟩ := Z.take_ok hok
  subst hjs
  refine Z.wpX_first (U := fun k => ∃ j ∈ unord ops listed i, S.at j k) (v := v) hi (Region.noSelect_spec hsel) n listed a w (fun j oj hj hne hl hall => ?_) hir hstep ?_
  · have hm := Z.mem_unord (ops := ops) hj hne hl hall
    exact ⟨Z.mem_unord_iff hf hi hj hm, fun k hk => ⟨j, hm, hk⟩⟩
  · rw [hdst]
    exact hrest n hok2
include hcx in
theorem runD_take (hR : repR W c.R) (hD : Dr ρs S T m0) {i d : Nat} {js : List Nat} {r : Plan} {o : Oper} {fuel : Nat} {listed : Array Bool} {e : Env} {H : List Bk} (hok : (Plan.take i js r).ok ops fuel listed = true) (hsel : noSel ops = true) (hi : ops[i]? = some o) (hdst : o.dst = some d) (hd : Nat.blt d N = true)
    (hg : gdO ops.toList e o = .yes) (hrd : okRd T m0 js (rdO e H o.op) = true) {Φ : SV → Prop} (h : ((opV cx e H W o.op).one).all Φ) (hk : ∀ v, Φ v → ∀ n, r.ok ops n (listed.setIfInBounds i true) = true → YD P c ops K S m0 ρs N n (listed.setIfInBounds i true) ((d, v) :: e) H) :
    YD P c ops K S m0 ρs N fuel listed e H := fun ρ e' H' a w hx hm he hH ha hw hn0 => by
  have h : (opV cx e H W o.op).all Φ := by
    have : ∀ {t : Tr SV}, (t.one).all Φ → t.all Φ := by
      intro t
      induction t with
      | ret x => exact fun h => h
      | ite b t f i1 i2 => exact fun h => ⟨fun hb => i1 (h.1 hb), fun hb => i2 (h.2 hb)⟩
      | ass p t i => exact fun h => ⟨h.1, fun hp => i (h.2 hp)⟩
      | both => exact fun h => h.elim
      | hyp => exact fun h => h.elim
      | any => exact fun h => h.elim
      | stuck => exact fun h => h.elim
    exact this h
  obtain ⟨sv, v, h1, h2, h3⟩ := opV_sound hcx he hH hR hw.nodup h ha (mem_of_good hw _ _)
  simp only [okRd, Bool.and_eq_true, Bool.or_eq_true, Bool.not_eq_true'] at hrd
  refine take_core hok hsel hi hdst (v := v) (fun w' hkp => stepO_yes (gd_yes he hg ha) (h3 o a w' rfl ha ⟨fun n hn B hB => ?_, fun hrr row hrow => ?_⟩)) (fun n hn => ?_)
  · have hoff := offL_spec hrd.1 n hn
    have hid : ρ[n]? = some B.b := by rw [hH.ids, List.getElem?_map, hB]; rfl
    rw [hkp.block B.b (hw.lt (List.mem_of_getElem? hB)) ?_]
    · exact hw.has B (List.mem_of_getElem? hB)
    · rintro ⟨j, hj, hat⟩
      obtain ⟨o1, o2⟩ := offB_spec hoff j hj
      rcases hat with hat | ⟨hat1, hat2⟩
      · obtain ⟨n', hn', hlt, hb⟩ := (hD.l j B.b).1 hat
        have hb' := hx n' B.b hb
        have hnn : n' = n := by
          have hnd := hw.nodup
          rw [← hH.ids] at hnd
          exact (List.getElem?_inj (List.getElem?_eq_some_iff.1 hb').1 hnd).1 (hb'.trans hid.symm)
        subst hnn
        exact o1 hn'
      · rw [hD.nw] at hat1
        rcases o2 with o2 | o2
        · have hlt : n < ρs.length := by rw [hD.len]; exact o2
          have h5 : ρs[n]? = some ρs[n] := List.getElem?_eq_getElem hlt
          have h6 := hx n _ h5
          rw [hid] at h6
          have h6 := Option.some.inj h6
          have := hD.lt _ (List.mem_of_getElem? h5)
          omega
        · rw [o2] at hat1; cases hat1
  · rcases hrd.2 with h4 | h4
    · rw [hrr] at h4; cases h4
    · have hc := clearB_spec h4
      have hk0 := hkp.toK (fun k ⟨j, hj, hat⟩ => by
        rcases hat with hat | ⟨hat, _⟩
        · obtain ⟨n', hn', _⟩ := (hD.l j k).1 hat
          rw [hc j hj] at hn'
          cases hn'
        · rw [hD.nw, hc j hj] at hat
          cases hat)
      exact (hw.rows row hrow).1.same fun hne => hk0.block _ ((hw.rows row hrow).1.lt hne) (by simp)
  · exact hk sv h1 n hn ρ _ H' _ w hx hm (cons_rep he h2) hH (ha.put v hd) hw hn0
theorem runD_skip {i d : Nat} {js : List Nat} {r : Plan} {o : Oper} {fuel : Nat} {listed : Array Bool} {e : Env} {H : List Bk} (hok : (Plan.take i js r).ok ops fuel listed = true) (hsel : noSel ops = true) (hi : ops[i]? = some o) (hdst : o.dst = some d) (hd : Nat.blt d N = true)
    (hg : gdO ops.toList e o = .no) (hk : ∀ n, r.ok ops n (listed.setIfInBounds i true) = true → YD P c ops K S m0 ρs N n (listed.setIfInBounds i true) ((d, .und) :: e) H) : YD P c ops K S m0 ρs N fuel listed e H := fun ρ e' H' a w hx hm he hH ha hw hn0 =>
  take_core hok hsel hi hdst (v := undef) (fun w' _ => stepO_no (gd_no he hg ha) ⟨rfl, Keep.refl _ _⟩) fun n hn => hk n hn ρ _ H' _ w hx hm (cons_rep he rfl) hH (ha.put undef hd) hw hn0
/-- one effect's step -/
def YS (P : Program) (c : Cx) (ops : Array Oper) (K : Act → World → Prop) (S : Tn) (m0 : Nat) (ρs : List Nat) (N : Nat) (j : Nat) (r : Plan) (listed : Array Bool) (e : Env) (H : List Bk) : Prop :=
  ∃ o, ops[j]? = some o ∧ ∀ (ρ : List Nat) (e' : Z.Env) (H' : List Blk) (a : Act) (w : World), Ext ρs ρ → (∀ (n b : Nat), m0 ≤ n → ρ[n]? = some b → S.n0 ≤ b) → repE ρ c.R e e' → repH ρ c.R H H' → Fits N a e' → Z.Good c w H' → S.n0 ≤ w.heap.size →
    stepO P ops o a w fun v w' => KeepP (S.at j) w w' ∧ ∀ n, r.ok ops n (listed.setIfInBounds j true) = true → wpX P ops K S n (listed.setIfInBounds j true) (a.put o.dst v) w'
include hcx in
theorem runD_eff (hR : repR W c.R) (hD : Dr ρs S T m0) {j : Nat} {r : Plan} {listed : Array Bool} {e : Env} {H : List Bk} {o : Oper} (ho : ops[j]? = some o) {g : Tch}
    (h : (bif dOk N o.dst && !quiet cx o.op then match gdO ops.toList e o with
        | .no => runD cx N ops.toList W true T m0 r (updO e o.dst .und) H g
        | .yes => (opE cx e H W o.op).bind fun rs => bif !true || okT T m0 j rs.tch then runD cx N ops.toList W true T m0 r (updO e o.dst rs.v) rs.H ((j, rs.tch) :: g) else .stuck 287
        | _ => .stuck 288
      else .stuck 289 : Tr (St × Tch)).all (fun x => YK c K ρs N x.1.1 x.1.2))
    (ih : ∀ (e : Env) (H : List Bk) (g : Tch) (n : Nat) (listed : Array Bool), r.ok ops n listed = true → (runD cx N ops.toList W true T m0 r e H g).all (fun x => YK c K ρs N x.1.1 x.1.2) → YD P c ops K S m0 ρs N n listed e H) : YS P c ops K S m0 ρs N j r listed e H := by
  cases hd : (dOk N o.dst && !quiet cx o.op) with
  | false => simp only [hd, cond_false] at h; exact h.elim
  | true =>
  simp only [hd, cond_true] at h
  simp only [Bool.and_eq_true] at hd
  have hdo := dOk_spec hd.1
  refine ⟨o, ho, fun ρ e' H' a w hx hm he hH ha hw hn0 => ?_⟩
  split at h
  · rename_i hg
    exact stepO_no (gd_no he hg ha) ⟨⟨Nat.le_refl _, fun _ _ _ => rfl, rfl, rfl, rfl⟩, fun n hn => ih _ _ _ n _ hn h ρ _ H' _ w hx hm (updO_rep he (d := o.dst) (x := .und) (v := undef) rfl) hH (ha.putO undef hdo) hw hn0⟩
  · rename_i hg
    have h := Tr.all_bind h
    refine stepO_yes (gd_yes he hg ha) ((opE_sound hcx he hH hR h rfl ha hw).mono fun v w' ⟨rs, ρ', H1', h1, h2, h3, h4, h5, h6, h7⟩ => ?_)
    cases ht : okT T m0 j rs.tch with
    | false => simp only [ht, Bool.not_true, Bool.or_false, cond_false] at h1; exact h1.elim
    | true =>
    simp only [ht, Bool.not_true, Bool.or_true, cond_true] at h1
    have hot := okT_spec ht
    have hlen : m0 ≤ ρ.length := by
      rw [← hD.len]
      rcases Nat.eq_zero_or_pos ρs.length with h0 | h0
      · omega
      · have hl : ρs.length - 1 < ρs.length := by omega
        have := hx _ _ (List.getElem?_eq_getElem hl)
        have := (List.getElem?_eq_some_iff.1 this).1
        omega
    refine ⟨h6.mono fun k ⟨n, hn, hk⟩ => ?_, fun n hn => ih _ _ _ n _ hn h1 ρ' _ H1' _ w' (hx.trans h2) (fun n b hmn hb => ?_) (updO_rep (he.mono h2) h3) h4 (ha.putO v hdo) h5 (Nat.le_trans hn0 h6.size)⟩
    · by_cases hnm : n < m0
      · left
        refine (hD.l j k).2 ⟨n, (hot n hn).1 hnm, hnm, ?_⟩
        have hl : n < ρs.length := by rw [hD.len]; exact hnm
        have h8 := hx n _ (List.getElem?_eq_getElem hl)
        rw [hk] at h8
        cases h8
        exact List.getElem?_eq_getElem hl
      · right
        exact ⟨by rw [hD.nw]; exact (hot n hn).2 (by omega), hm n k (by omega) hk⟩
    · by_cases hnl : n < ρ.length
      · have h8 := h2 n _ (List.getElem?_eq_getElem hnl)
        rw [hb] at h8
        cases h8
        exact hm n _ hmn (List.getElem?_eq_getElem hnl)
      · exact Nat.le_trans hn0 (h7 n b (by omega) hb)
  · exact h.elim
theorem YS.go {fuel : Nat} {listed : Array Bool} {e : Env} {H : List Bk} (hs : ∀ j ∈ Region.ready .any ops listed, ∃ r : Plan, r.ok ops fuel (listed.setIfInBounds j true) = true ∧ YS P c ops K S m0 ρs N j r listed e H) (hne : Region.ready .any ops listed ≠ []) :
    YD P c ops K S m0 ρs N (fuel + 1) listed e H := fun ρ e' H' a w hx hm he hH ha hw hn0 w0 hk =>
  ⟨fun h0 => absurd h0 hne, fun i hi => by
    obtain ⟨r, hr, o, ho, hs⟩ := hs i hi
    refine ⟨o, ho, (hs ρ e' H' a w0 hx hm he hH ha (hw.ext hk) (Nat.le_trans hn0 hk.size)).mono fun v w' hx => ⟨hx.1, hx.2 _ hr⟩⟩⟩
include hcx in
theorem runD_sound (hR : repR W c.R) (hD : Dr ρs S T m0) (hsel : noSel ops = true) : ∀ (pl : Plan) (e : Env) (H : List Bk) (g : Tch) (fuel : Nat) (listed : Array Bool), pl.ok ops fuel listed = true →
    (runD cx N ops.toList W true T m0 pl e H g).all (fun x => YK c K ρs N x.1.1 x.1.2) → YD P c ops K S m0 ρs N fuel listed e H
  | .fin, e, H, g, fuel, listed, hok, h => fun ρ e' H' a w hx hm he hH ha hw hn0 => by
    have hr := Z.eqL_eq hok
    cases fuel with
    | zero => exact fun w0 hk => ⟨hr, h ρ e' H' a w0 hx he hH ha (hw.ext hk)⟩
    | succ n => exact fun w0 hk => ⟨fun _ => h ρ e' H' a w0 hx he hH ha (hw.ext hk), fun i hi => by rw [hr] at hi; cases hi⟩
  | .take i js r, e, H, g, fuel, listed, hok, h => by
    simp only [runD] at h
    split at h
    · exact h.elim
    · rename_i o ho
      rw [nth_eq] at ho
      have hi : ops[i]? = some o := by simpa using ho
      split at h
      · exact h.elim
      · rename_i d hdst
        cases hd : (Nat.blt d N && quiet cx o.op) with
        | false => simp only [hd, cond_false] at h; exact h.elim
        | true =>
        simp only [hd, cond_true] at h
        simp only [Bool.and_eq_true] at hd
        split at h
        · exact h.elim
        · rename_i hg
          exact runD_skip hok hsel hi hdst hd.1 hg fun n hn => runD_sound hR hD hsel r _ H g n _ hn h
        · rename_i hg
          cases hrd : okRd T m0 js (rdO e H o.op) with
          | false => simp only [hrd, Bool.not_true, Bool.or_false, cond_false] at h; exact h.elim
          | true =>
          simp only [hrd, Bool.not_true, Bool.or_true, cond_true] at h
          exact runD_take hcx hR hD hok hsel hi hdst hd.1 hg hrd (Tr.all_bind h) fun v hv n hn => runD_sound hR hD hsel r _ H g n _ hn hv
        · rename_i s x want hg
          obtain ⟨hs, hy, hn'⟩ := gd_ask hg
          obtain ⟨hT, hF⟩ := h
          cases hb : (x == want) with
          | true =>
            have hxw : x = want := by simpa using hb
            have h := hT hb
            cases hrd : okRd T m0 js (rdO ((s, .v (.c (.kb want))) :: e) H o.op) with
            | false => simp only [hrd, Bool.not_true, Bool.or_false, cond_false] at h; exact h.elim
            | true =>
            simp only [hrd, Bool.not_true, Bool.or_true, cond_true] at h
            refine Sub.yk (Sub.known hs hxw) ?_
            exact runD_take hcx hR hD hok hsel hi hdst hd.1 hy hrd (Tr.all_bind h) fun v hv n hn => runD_sound hR hD hsel r _ H g n _ hn hv
          | false =>
            have hxw : x = !want := by cases x <;> cases want <;> simp_all
            exact Sub.yk (Sub.known hs hxw) (runD_skip hok hsel hi hdst hd.1 hn' fun n hn => runD_sound hR hD hsel r _ H g n _ hn (hF hb))
  | .one j r, e, H, g, fuel, listed, hok, h => by
    simp only [runD] at h
    cases fuel with
    | zero => cases hok
    | succ n =>
    simp only [Plan.ok, Bool.and_eq_true] at hok
    have hr := Z.eqL_eq hok.1
    split at h
    · exact h.elim
    · rename_i o ho
      rw [nth_eq] at ho
      have hi : ops[j]? = some o := by simpa using ho
      refine YS.go (fun i hi' => ?_) (by rw [hr]; simp)
      rw [hr, List.mem_singleton] at hi'
      subst hi'
      exact ⟨r, hok.2, runD_eff hcx hR hD hi h fun e H g n l hn h => runD_sound hR hD hsel r e H g n l hn h⟩
  | .two j r j' r', e, H, g, fuel, listed, hok, h => by
    simp only [runD] at h
    cases fuel with
    | zero => cases hok
    | succ n =>
    simp only [Plan.ok, Bool.and_eq_true] at hok
    have hr := Z.eqL_eq hok.1
    obtain ⟨h1, h2⟩ := h
    refine YS.go (fun i hi' => ?_) (by rw [hr]; simp)
    rw [hr] at hi'
    simp only [List.mem_cons, List.not_mem_nil, or_false] at hi'
    rcases hi' with rfl | rfl
    · split at h1
      · exact h1.elim
      · rename_i o ho
        rw [nth_eq] at ho
        exact ⟨r, hok.2.1, runD_eff hcx hR hD (by simpa using ho) h1 fun e H g n l hn h => runD_sound hR hD hsel r e H g n l hn h⟩
    · split at h2
      · exact h2.elim
      · rename_i o ho
        rw [nth_eq] at ho
        exact ⟨r', hok.2.2, runD_eff hcx hR hD (by simpa using ho) h2 fun e H g n l hn h => runD_sound hR hD hsel r' e H g n l hn h⟩
include hcx in
theorem runDraw_sound {ρ0 : List Nat} (hmix : P.follows .mixedOrders = true) (hR : repR W c.R) {id : Nat} {Q : Exit → Act → World → Prop} {e : Env} {H : List Bk} (h : (runDraw cx N ops W e H).all fun st => ∀ (ρ : List Nat) (e' : Z.Env) (H' : List Blk), Ext ρ0 ρ → repE ρ c.R st.1 e' → repH ρ c.R st.2 H' → TE c Q N .normal e' H') :
    ∀ (ρ : List Nat) (e' : Z.Env) (H' : List Blk), Ext ρ0 ρ → repE ρ c.R e e' → repH ρ c.R H H' → TC P c Q N (.region id ops true) e' H' := by
  intro ρ e' H' hx he hH a w ha hw
  unfold runDraw at h
  simp only at h
  generalize mkPlan cx ops ops.size (Array.replicate ops.size false) = pl at h
  generalize gatherT (runD cx N ops.toList W false [] (Y.len H) pl e H []) = T at h
  cases hok : (pl.ok ops ops.size (Array.replicate ops.size false) && noSel ops) with
  | false => simp only [hok, cond_false] at h; exact h.elim
  | true =>
  simp only [hok, cond_true] at h
  simp only [Bool.and_eq_true] at hok
  have h := Tr.all_bind h
  have hl : ρ.length = Y.len H := by rw [hH.len, len_eq]
  have hD : Dr ρ (⟨fun j => (look T j).filterMap fun n => ρ[n]?, fun j => geAny (Y.len H) (look T j), w.heap.size⟩ : Tn) T (Y.len H) := by
    refine ⟨hl, fun j b => ?_, fun j => rfl, fun b hb => ?_⟩
    · simp only [List.mem_filterMap]
      constructor
      · rintro ⟨n, hn, hb⟩
        exact ⟨n, hn, by rw [← hl]; exact (List.getElem?_eq_some_iff.1 hb).1, hb⟩
      · rintro ⟨n, hn, _, hb⟩
        exact ⟨n, hn, hb⟩
    · rw [hH.ids] at hb
      obtain ⟨B, hB, rfl⟩ := List.mem_map.1 hb
      exact hw.lt hB
  refine wp_region_any hmix (Z.wpAny_of_wpX (S := ⟨fun j => (look T j).filterMap fun n => ρ[n]?, fun j => geAny (Y.len H) (look T j), w.heap.size⟩) _ _ _ _ ?_)
  refine runD_sound (K := Q .normal) (ρs := ρ) hcx hR hD hok.2 pl e H [] ops.size _ hok.1 (Tr.all_mono (fun x hx1 ρ1 e1 H1 a1 w1 hx2 he1 hH1 ha1 hw1 => hx1 ρ1 e1 H1 (hx.trans hx2) he1 hH1 a1 w1 ha1 hw1) h) ρ e' H' a _ (Ext.refl _) (fun n b hn hb => ?_) he hH ha (hw.drawn _) (Nat.le_refl _)
  have := (List.getElem?_eq_some_iff.1 hb).1
  omega
end
end Go.Y
