/- Own texts, joined: YEff, YRun, YApp, YGo, YReg, YDraw, YFun. -/
import Derived.Test.YtfckbimkdjcncaaG2
import Derived.Laws.AppendOwn
set_option linter.unusedSimpArgs false
set_option linter.unusedVariables false
namespace Go.Y
open Go.Z (Row Blk plainV Keep KeepP RowAt Fits runsTo Pre Cx)
/-- what an effect leaves -/
def Eff (c : Cx) (ρ : List Nat) (Ψ : Rs → Prop) (w : World) (v : Value) (w' : World) : Prop :=
  ∃ (rs : Rs) (ρ' : List Nat) (H1' : List Blk), Ψ rs ∧ (∀ (n b : Nat), ρ[n]? = some b → ρ'[n]? = some b) ∧ repV ρ' c.R rs.v v ∧ repH ρ' c.R rs.H H1' ∧ Z.Good c w' H1' ∧
    KeepP (fun k => ∃ n ∈ rs.tch, ρ[n]? = some k) w w' ∧ (∀ (n b : Nat), ρ.length ≤ n → ρ'[n]? = some b → w.heap.size ≤ b)
theorem ext_app (ρ new : List Nat) : ∀ (n b : Nat), ρ[n]? = some b → (ρ ++ new)[n]? = some b := fun n b h => by
  rw [List.getElem?_append_left (List.getElem?_eq_some_iff.1 h).1]
  exact h
section
variable {P : Program} {ρ : List Nat} {c : Cx} {H : List Bk} {H' : List Blk} {W : List Rw}
theorem repH.mono {ρ' : List Nat} {R : List Row} (hρ : ∀ (n b : Nat), ρ[n]? = some b → ρ'[n]? = some b) (h : repH ρ R H H') : A2 (repB ρ' R) H H' := h.bs.mono fun _ _ hx => hx.mono hρ
theorem repH.len {R : List Row} (h : repH ρ R H H') : ρ.length = H.length := by rw [h.ids, List.length_map, h.bs.len]
theorem A2.setR {α β : Type} {r : α → β → Prop} : ∀ {xs : List α} {ys : List β} {n : Nat} {x : α} {y : β}, A2 r xs ys → r x y → A2 r (xs.set n x) (ys.set n y)
  | _, _, n, _, _, h, hxy => h.set hxy n
/-- a new block -/
theorem eff_new {Ψ : Rs → Prop} (hH : repH ρ c.R H H') {w : World} (hw : Z.Good c w H') {t : Nat} {ss : List Seg} {cs : List Value} {x : Sc} {v : Value} (hcs : repG ρ c.R ss cs) (h : Ψ ⟨rd1 x, H ++ [⟨t, ss, true⟩], []⟩)
    (hx : ∀ ρ' : List Nat, ρ'[Y.len H]? = some w.heap.size → repS ρ' c.R x v) : Eff c ρ Ψ w v (w.alloc (.cells cs.toArray t)) := by
  have hl : Y.len H = ρ.length := by rw [len_eq, hH.len]
  refine ⟨_, ρ ++ [w.heap.size], H' ++ [⟨w.heap.size, t, cs, (0, 0), true⟩], h, ext_app _ _, hx _ (by rw [hl]; simp), ⟨by simp [hH.ids], ?_⟩, hw.alloc t cs (0, 0), ?_, ?_⟩
  · exact (repH.mono (ext_app _ _) hH).app (.cons ⟨rfl, rfl, rfl, hcs.mono (ext_app _ _)⟩ .nil)
  · exact ⟨by rw [Z.heap_alloc_size]; omega, fun k hk _ => Z.heap_alloc_old _ _ hk, rfl, rfl, rfl⟩
  · intro n b hn hb
    rw [List.getElem?_append_right hn] at hb
    have := (List.getElem?_eq_some_iff.1 hb).1
    simp at this
    have hn0 : n - ρ.length = 0 := by omega
    rw [hn0] at hb
    simp at hb
    omega
theorem good_sub {w : World} {L T : List Blk} (h : Z.Good c w L) (hm : ∀ x ∈ T, x ∈ L) (hn : (T.map Blk.b).Nodup) : Z.Good c w T :=
  ⟨fun x hx => h.has x (hm x hx), hn, fun x hx => h.mine x (hm x hx), fun x hx => h.own x (hm x hx), h.keep, fun r hr => ⟨(h.rows r hr).1, fun x hx => (h.rows r hr).2 x (hm x hx)⟩⟩
/-- a block's cells turned -/
theorem setB_set : ∀ (H : List Blk) (i : Nat) (B : Blk) (cs : List Value), H[i]? = some B → Z.setB H i cs = H.set i { B with cs := cs }
  | [], _, _, _, h => by simp at h
  | _ :: _, 0, _, _, h => by simp at h; subst h; rfl
  | x :: r, i + 1, B, cs, h => by simp at h; simp [Z.setB, setB_set r i B cs h]
theorem eff_set {Ψ : Rs → Prop} (hH : repH ρ c.R H H') {w : World} (hw : Z.Good c w H') {n : Nat} {B : Bk} {B' : Blk} (hB : nth H n = some B) (hB' : H'[n]? = some B') (hwr : B.wr = true) {ss : List Seg} {o : Nat} {vs : List Value} (hvs : vs.all plainV = true)
    (hss : repG ρ c.R ss (Z.setL B'.cs o vs)) (ho : o + vs.length ≤ B'.cs.length) (h : Ψ ⟨.und, setAt H n ⟨B.t, ss, true⟩, [n]⟩) :
    ∃ w', (storeCells ⟨B'.b, o, none⟩ vs 0).run P w = .ok () w' ∧ Eff c ρ Ψ w undef w' := by
  obtain ⟨B'', hB'', hrep, hid⟩ := hH.nth hB
  rw [hB'] at hB''
  cases hB''
  have hwr' : B'.wr = true := by rw [hrep.wr, hwr]
  obtain ⟨w', hrun, hgood⟩ := Z.run_storeCells (P := P) vs 0 hw hB' hwr' hrep.fz hvs (o := o) (by omega)
  have h1 : Z.Good ⟨w, [B'.b], [B'.b], []⟩ w [B'] := ⟨fun x hx => by rw [List.mem_singleton] at hx; subst hx; exact hw.has _ (List.mem_of_getElem? hB'), by simp, fun x hx _ => by rw [List.mem_singleton] at hx; subst hx; exact .inr (by simp),
    fun x hx => by rw [List.mem_singleton] at hx; subst hx; exact .inr (by simp), Keep.refl _ _, fun r hr => by cases hr⟩
  obtain ⟨w2, hrun2, hgood2⟩ := Z.run_storeCells (P := P) (i := 0) vs 0 h1 rfl hwr' hrep.fz hvs (o := o) (by omega)
  have hww : w2 = w' := by rw [hrun] at hrun2; injection hrun2 with _ h3; exact h3.symm
  subst hww
  rw [setB_set _ _ _ _ hB'] at hgood
  refine ⟨w2, hrun, _, ρ, _, h, fun _ _ hb => hb, rfl, ⟨?_, ?_⟩, hgood, ?_, ?_⟩
  · rw [hH.ids]
    have hlt := (List.getElem?_eq_some_iff.1 hB').1
    have he := (List.getElem?_eq_some_iff.1 hB').2
    apply List.ext_getElem?
    intro i
    simp only [List.getElem?_map, List.getElem?_set]
    split
    · rename_i hni
      subst hni
      rw [hB']
      rfl
    · rfl
  · rw [setAt_eq]
    refine A2.set hH.bs (?_ : repB ρ c.R ⟨B.t, ss, true⟩ _) n
    exact ⟨hrep.t, hwr', hrep.fz, by simpa using hss⟩
  · exact hgood2.keep.toP fun k hk => by rw [List.mem_singleton] at hk; subst hk; exact ⟨n, by simp, hid⟩
  · intro m b hm hb
    have := (List.getElem?_eq_some_iff.1 hb).1
    omega
theorem ones_rep {R : List Row} : ∀ {ss : List Seg} {cs : List Sc} {vs : List Value}, ones ss = some cs → repG ρ R ss vs → A2 (repS ρ R) cs vs
  | [], cs, vs, h, hr => by cases h; exact hr.2
  | .one x :: r, cs, vs, h, ⟨hw, hr⟩ => by
    simp only [ones, Option.map_eq_some_iff] at h
    obtain ⟨cs', h', rfl⟩ := h
    obtain ⟨v, us, rfl, h1, h2⟩ := A2.cons_inv hr
    exact .cons h1 (ones_rep h' ⟨hw, h2⟩)
  | .arr .. :: _, _, _, h, _ => by cases h
theorem scOf_rep {R : List Row} {x : V1} {cs : List Sc} {v : Value} {vs : List Value} (h : scOf x = some cs) (hv : repG ρ R (segsOf x) vs) : A2 (repS ρ R) cs vs := by
  cases x with
  | c x => cases h; exact hv.2
  | agg ss => exact ones_rep h hv
theorem elL_rep {R : List Row} {ss qs r : List Seg} {o sz : Nat} {cs vs : List Value} (h : elL sz o qs ss = some r) (hs : repG ρ R ss cs) (hx : repG ρ R qs vs) : repG ρ R r (Z.setL cs o vs) ∧ o + vs.length ≤ cs.length ∧ vs.length = sz := by
  unfold elL at h
  split at h
  · rename_i id k l
    cases hq : (Nat.beq (Sh.sz id) sz && Nat.blt 0 sz && Nat.beq (o % sz) 0 && Nat.blt (o / sz) k) with
    | false => simp only [hq, cond_false] at h; cases h
    | true =>
      simp only [hq, cond_true] at h
      simp only [Bool.and_eq_true] at hq
      obtain ⟨⟨⟨q1, q2⟩, q3⟩, q4⟩ := hq
      have q1 := Nat.eq_of_beq_eq_true q1
      have q2 := blt_lt q2
      have q3 := Nat.eq_of_beq_eq_true q3
      have q4 := blt_lt q4
      rw [Option.map_eq_some_iff] at h
      obtain ⟨z, hz, rfl⟩ := h
      rw [Option.bind_eq_some_iff] at hz
      obtain ⟨zc, hzc, hz⟩ := hz
      have hun := Sh.un_rep id hz (ones_rep hzc hx)
      have hul : vs.length = Sh.sz id := by rw [← hun.len, Sh.f_len]
      have hln : l.length = k := hs.1.1
      have hcs : A2 (repS ρ R) (l.flatMap (Sh.f id)) cs := by have := hs.2; simpa [cellsOf] using this
      have ho : o / sz * sz = o := Nat.div_mul_cancel (Nat.dvd_of_mod_eq_zero q3)
      have hcl : cs.length = l.length * Sh.sz id := by rw [← hcs.len, flat_len]
      have hset := el_set hcs (m := o / sz) (by omega) hun
      subst q1
      have hle : o + Sh.sz id ≤ cs.length := by
        rw [hcl]
        have := Nat.mul_le_mul_right (Sh.sz id) (show o / Sh.sz id + 1 ≤ l.length by omega)
        rw [Nat.add_mul, Nat.one_mul, ho] at this
        exact this
      rw [ho] at hset
      rw [setAt_eq]
      refine ⟨⟨⟨by simpa using hln, trivial⟩, ?_⟩, by omega, hul⟩
      rw [Zset_eq (by omega), hul]
      simpa [cellsOf] using hset
  · cases h
theorem layV_rep {R : List Row} {ss qs : List Seg} {o sz : Nat} {x : V1} {cs vs : List Value} (h : layV ss o sz x = some qs) (hs : repG ρ R ss cs) (hx : repG ρ R (segsOf x) vs) : repG ρ R qs (Z.setL cs o vs) ∧ o + vs.length ≤ cs.length ∧ vs.length = sz := by
  cases x with
  | c x =>
    simp only [layV] at h
    cases hb : Nat.beq sz 1 with
    | false => simp [hb] at h
    | true =>
      simp only [hb, cond_true] at h
      obtain ⟨v, us, rfl, h1, h2⟩ := A2.cons_inv hx.2
      have := A2.nil' h2
      subst this
      obtain ⟨g1, g2⟩ := setC_rep hs h h1
      exact ⟨g1, by simp; omega, (Nat.eq_of_beq_eq_true hb).symm⟩
  | agg ys =>
    simp only [layV] at h
    cases he : elL sz o ys ss with
    | some r =>
      simp only [he, orO, Option.some.injEq] at h
      subst h
      exact elL_rep he hs hx
    | none =>
    simp only [he, orO] at h
    cases hb : Nat.beq sz ((ys.map segSz).foldr (· + ·) 0) with
    | false => simp [hb] at h
    | true =>
      simp only [hb, cond_true] at h
      obtain ⟨g1, g2⟩ := setN_rep hs h hx
      rw [Zset_eq g2]
      refine ⟨g1, g2, ?_⟩
      rw [Nat.eq_of_beq_eq_true hb, ← hx.2.len]
      have : ∀ {ys : List Seg}, wfG ys → (cellsOf ys).length = (ys.map segSz).foldr (· + ·) 0 := by
        intro ys
        induction ys with
        | nil => intro _; rfl
        | cons s r ih => intro hw; rw [cells_len hw, ih (wfG_tail hw)]; rfl
      exact this hx.1
theorem setL_len : ∀ (ys : List Sc) (l : List Sc) (o : Nat), (Y.setL l o ys).length = l.length
  | [], _, _ => rfl
  | y :: r, l, o => by rw [Y.setL, setL_len r, setAt_eq]; simp
theorem setLc_rep {R : List Row} : ∀ {ys : List Sc} {us : List Value} {l : List Sc} {cs : List Value} (o : Nat), A2 (repS ρ R) l cs → A2 (repS ρ R) ys us → A2 (repS ρ R) (Y.setL l o ys) (Z.setL cs o us)
  | [], _, _, _, _, h, h' => by have := A2.nil' h'; subst this; exact h
  | y :: r, _, l, cs, o, h, .cons h0 ht => by
    simp only [Y.setL, Z.setL, setAt_eq]
    exact setLc_rep (o + 1) (h.set h0 o) ht
theorem storeE_sound {t : Nat} {ti : TyI} (hti : TyOK P t ti) (hH : repH ρ c.R H H') {y : V1} {b : Value} (hy : rep1 ρ c.R y b) {x : Sc} {u : Value} (hu : repS ρ c.R x u) {Ψ : Rs → Prop} (h : (storeE ti H y x).all Ψ) {w : World} (hw : Z.Good c w H') :
    ∃ w', (Instr.storeAt t u b).run P w = .ok () w' ∧ Eff c ρ Ψ w undef w' := by
  obtain ⟨vs, hcells, hvs⟩ := rep1.cells hy
  have hpl := repG.plain hvs
  unfold storeE at h
  split at h
  · rename_i n o
    obtain ⟨bb, hb, rfl⟩ := hu
    obtain ⟨B, hB, h⟩ := peel h
    obtain ⟨B', hB', hrep, hid⟩ := hH.nth hB
    rw [hb] at hid
    cases hid
    cases hwr : B.wr with
    | false => simp only [hwr, cond_false] at h; exact h.elim
    | true =>
      simp only [hwr, cond_true] at h
      obtain ⟨ss, hss, h⟩ := peel h
      obtain ⟨g1, g2, g3⟩ := layV_rep hss hrep.cs hvs
      obtain ⟨w', hrun, heff⟩ := eff_set (P := P) hH hw hB hB' hwr hpl g1 g2 (Ψ := Ψ) h
      refine ⟨w', ?_, heff⟩
      simp [Instr.storeAt, Instr.sureAddr, storeVar, hti.size w, hcells, g3, hrun]
  · rename_i n base sz m k
    obtain ⟨bb, hb, rfl⟩ := hu
    obtain ⟨B, hB, h⟩ := peel h
    obtain ⟨B', hB', hrep, hid⟩ := hH.nth hB
    rw [hb] at hid
    cases hid
    cases hwr : B.wr with
    | false => simp only [hwr, cond_false] at h; exact h.elim
    | true =>
      simp only [hwr, cond_true] at h
      obtain ⟨s, hs, h⟩ := peel h
      split at h
      · rename_i id k' l
        cases hz : Nat.beq (Sh.sz id) sz with
        | false => simp only [hz, cond_false] at h; exact h.elim
        | true =>
          simp only [hz, cond_true] at h
          have hz := Nat.eq_of_beq_eq_true hz
          subst hz
          obtain ⟨cs, hcs, h⟩ := peel h
          cases hq : (Nat.beq ti.sz (Y.len cs) && Nat.ble (k + Y.len cs) (Sh.sz id)) with
          | false => simp only [hq, cond_false] at h; exact h.elim
          | true =>
            simp only [hq, cond_true] at h
            simp only [Bool.and_eq_true] at hq
            have hq1 := Nat.eq_of_beq_eq_true hq.1
            have hq2 := Nat.le_of_ble_eq_true hq.2
            rw [len_eq] at hq1 hq2
            obtain ⟨hm, h⟩ := h
            obtain ⟨z, hzz, h⟩ := peel (h hm)
            obtain ⟨ss, hss, h⟩ := peel h
            obtain ⟨hl, c1, c2, c3, hcc, e1, a2, e2⟩ := arr_mid hrep.cs hs
            have hcv := scOf_rep (v := b) hcs hvs
            have hlv : vs.length = cs.length := hcv.len.symm
            have hml : m < l.length := by rw [hl]; exact hm
            have hel := Sh.un_rep id hzz (setLc_rep k (el_rep a2 hml) hcv)
            have hset := el_set a2 hml hel
            obtain ⟨pre, post, hpre, hpost, hplen⟩ := setR_split hrep.cs.1 hs hss
            have hle : m * Sh.sz id + Sh.sz id ≤ c2.length := by
              rw [e2]
              have := Nat.mul_le_mul_right (Sh.sz id) (show m + 1 ≤ k' by omega)
              rwa [Nat.add_mul, Nat.one_mul] at this
            have hmid : Z.setL B'.cs (base + m * Sh.sz id + k) vs = c1 ++ (c2.take (m * Sh.sz id) ++ Z.setL ((c2.drop (m * Sh.sz id)).take (Sh.sz id)) k vs ++ c2.drop (m * Sh.sz id + Sh.sz id)) ++ c3 := by
              have hq : ((c2.drop (m * Sh.sz id)).take (Sh.sz id)).length = Sh.sz id := by simp; omega
              rw [Zset_eq (cs := (c2.drop (m * Sh.sz id)).take (Sh.sz id)) (by rw [hq]; omega), Zset_eq (by rw [hcc]; simp; omega), hcc]
              have hms := mid_split c2 (m * Sh.sz id) (Sh.sz id)
              have hme := mid_split ((c2.drop (m * Sh.sz id)).take (Sh.sz id)) k vs.length
              generalize hA : c2.take (m * Sh.sz id) = A at *
              generalize hD : c2.drop (m * Sh.sz id + Sh.sz id) = D at *
              generalize hE : (c2.drop (m * Sh.sz id)).take (Sh.sz id) = E at *
              have hAl : A.length = m * Sh.sz id := by rw [← hA]; simp; omega
              rw [hms]
              have t1 : (c1 ++ (A ++ E ++ D) ++ c3).take (base + m * Sh.sz id + k) = c1 ++ A ++ E.take k := by
                have : c1 ++ (A ++ E ++ D) ++ c3 = (c1 ++ A) ++ (E ++ (D ++ c3)) := by simp
                rw [this, List.take_append, List.take_of_length_le (by simp; omega)]
                congr 1
                rw [List.take_append_of_le_length (by simp; omega)]
                congr 1
                simp; omega
              have t2 : (c1 ++ (A ++ E ++ D) ++ c3).drop (base + m * Sh.sz id + k + vs.length) = E.drop (k + vs.length) ++ D ++ c3 := by
                have : c1 ++ (A ++ E ++ D) ++ c3 = (c1 ++ A) ++ (E ++ (D ++ c3)) := by simp
                rw [this, List.drop_append, List.drop_of_length_le (by simp; omega), List.nil_append, List.drop_append_of_le_length (by simp; omega)]
                rw [List.append_assoc]
                congr 1
                congr 1
                simp; omega
              rw [t1, t2]
              simp
            have hrg : repG ρ c.R ss (Z.setL B'.cs (base + m * Sh.sz id + k) vs) := by
              have hw0 := hrep.cs.1
              rw [hpre] at hw0
              obtain ⟨w1, w2⟩ := wfG_app.1 hw0
              have hr0 := hrep.cs.2
              rw [hpre, cellsOf_app] at hr0
              obtain ⟨d1, d2, hd, b1, b2⟩ := hr0.split
              simp only [cellsOf] at b2
              obtain ⟨d3, d4, rfl, b3, b4⟩ := b2.split
              have l1 : d1.length = base := by rw [← b1.len, hplen]
              have l3 : d3.length = k' * Sh.sz id := by rw [← b3.len, flat_len, hl]
              have hcd : c1 = d1 ∧ c2 ++ c3 = d3 ++ d4 := List.append_inj (by rw [← List.append_assoc, ← hcc, hd]) (by rw [e1, l1])
              obtain ⟨rfl, hcd⟩ := hcd
              obtain ⟨rfl, rfl⟩ := List.append_inj hcd (by rw [e2, l3])
              refine ⟨?_, ?_⟩
              · rw [hpost]
                exact wfG_app.2 ⟨w1, by simp [hl], w2.2⟩
              · rw [hpost, cellsOf_app, hmid, List.append_assoc]
                refine b1.app ?_
                simp only [cellsOf]
                exact hset.app b4
            have hbd : base + m * Sh.sz id + k + vs.length ≤ B'.cs.length := by rw [hcc]; simp; omega
            obtain ⟨w', hrun, heff⟩ := eff_set (P := P) hH hw hB hB' hwr hpl hrg hbd (Ψ := Ψ) h
            refine ⟨w', ?_, heff⟩
            simp [Instr.storeAt, Instr.sureAddr, storeVar, hti.size w, hcells, hlv, hq1, hrun]
      · exact h.elim
  · exact h.elim
/-! ### Calls that write -/
def putR : List Nat → List Blk → List Blk → List Blk
  | [], H, new => H ++ new
  | n :: r, H, B :: Bs => putR r (H.set n B) Bs
  | _ :: _, H, [] => H
theorem put_rep {ρn : List Nat} {R : List Row} {g : Nat → Nat} : ∀ {ns : List Nat} {H Bs : List Bk} {H' Bs' : List Blk}, A2 (repB ρn R) H H' → A2 (repB ρn R) (Bs.map (rnB g)) Bs' → A2 (repB ρn R) (putB g ns H Bs) (putR ns H' Bs')
  | [], _, _, _, _, h, h' => h.app h'
  | n :: r, H, [], H', Bs', h, h' => by have := A2.nil' h'; subst this; exact h
  | n :: r, H, B :: Bs, H', Bs', h, h' => by
    obtain ⟨B', Bs'', rfl, h1, h2⟩ := A2.cons_inv h'
    simp only [putB, putR, setAt_eq]
    exact put_rep (h.set h1 n) h2
theorem putR_mem : ∀ {ns : List Nat} {H Bs : List Blk}, ∀ x ∈ putR ns H Bs, x ∈ Bs ∨ ∃ j, H[j]? = some x ∧ j ∉ ns.take Bs.length
  | [], H, Bs, x, hx => by
    rcases List.mem_append.1 hx with hx | hx
    · obtain ⟨j, hj, rfl⟩ := List.mem_iff_getElem.1 hx
      exact .inr ⟨j, List.getElem?_eq_getElem hj, by simp⟩
    · exact .inl hx
  | n :: r, H, [], x, hx => by
    obtain ⟨j, hj, rfl⟩ := List.mem_iff_getElem.1 hx
    exact .inr ⟨j, List.getElem?_eq_getElem hj, by simp⟩
  | n :: r, H, B :: Bs, x, hx => by
    rcases putR_mem (ns := r) x hx with hx | ⟨j, hj, hn⟩
    · exact .inl (List.mem_cons_of_mem _ hx)
    · rw [List.getElem?_set] at hj
      split at hj
      · split at hj
        · cases hj; exact .inl List.mem_cons_self
        · cases hj
      · rename_i hne
        refine .inr ⟨j, hj, ?_⟩
        simp only [List.length_cons, List.take_succ_cons, List.mem_cons, not_or]
        exact ⟨fun e => hne e.symm, hn⟩
theorem putR_ids : ∀ {ns : List Nat} {H Bs : List Blk}, A2 (fun n (B : Blk) => (H.map Blk.b)[n]? = some B.b) ns (Bs.take ns.length) → (putR ns H Bs).map Blk.b = H.map Blk.b ++ (Bs.drop ns.length).map Blk.b
  | [], H, Bs, _ => by simp [putR]
  | n :: r, H, [], h => by simp at h; cases h
  | n :: r, H, B :: Bs, h => by
    simp only [List.length_cons, List.take_succ_cons] at h
    obtain ⟨B0, Bs0, he, h1, h2⟩ := A2.cons_inv h
    cases he
    have hm : (H.set n B).map Blk.b = H.map Blk.b := by
      apply List.ext_getElem?
      intro i
      simp only [List.getElem?_map, List.getElem?_set]
      split
      · rename_i hni
        subst hni
        rw [List.getElem?_map] at h1
        split
        · rw [h1]; rfl
        · rename_i hlt
          rw [List.getElem?_eq_none (by omega)] at h1
          cases h1
      · rfl
    have ih := putR_ids (ns := r) (H := H.set n B) (Bs := Bs) (by rw [hm]; exact h2)
    simp only [putR, List.length_cons, List.drop_succ_cons]
    rw [ih, hm]
theorem wrN_mem {R : List Row} (hH : repH ρ R H H') : ∀ {ns : List Nat} {n : Nat} {B : Blk}, n ∈ ns → H'[n]? = some B → B.wr = true → n ∈ wrN H ns
  | x :: r, n, B, hn, hB, hwr => by
    simp only [wrN]
    obtain ⟨B0, hB0, hrep⟩ := hH.bs.get' hB
    rcases List.mem_cons.1 hn with rfl | hn
    · rw [nth_eq, hB0]
      simp only
      rw [← hrep.wr, hwr]
      simp
    · have ih := wrN_mem hH hn hB hwr
      split
      · rename_i C _
        cases C.wr
        · exact ih
        · exact List.mem_cons_of_mem _ ih
      · exact ih
theorem callE_sound {f : FuncId} {con : Con} (hcon : ConOK P f con) (hro : con.ro = false) {vs : List SV} {args' : List Value} {Ψ : Rs → Prop} (h : (callE con vs H W).all Ψ) (hvs : A2 (repV ρ c.R) vs args') (hH : repH ρ c.R H H') (hR : repR W c.R)
    {w : World} (hw : Z.Good c w H') : Calls P f args'.toArray w fun en w' => ∃ v, en = .returned v ∧ Eff c ρ Ψ w v w' := by
  unfold callE at h
  simp only at h
  generalize callN vs H = ns at h
  obtain ⟨Bs, hBs, h⟩ := peel h
  cases hok : okN ns vs Bs with
  | false => simp only [hok, cond_false] at h; exact h.elim
  | true =>
  simp only [hok, cond_true] at h
  obtain ⟨hns, hna, hnb⟩ := okN_spec hok
  obtain ⟨Bs', p1, p2⟩ := pickB_rep hH hBs
  have h := Tr.all_bind h
  have hnd := hw.nodup
  have hg : ∀ n, n ∈ ns → ∀ b : Nat, ρ[n]? = some b → (Bs'.map Blk.b)[idx n ns]? = some b := fun n hn b hb => pick_ids p1 hH hn hb
  have hH1 : repH (Bs'.map Blk.b) c.R (Bs.map (rnB (idx · ns))) Bs' := ⟨rfl, rnBs_rep (fun n hn => hg n (hnb n hn)) p2⟩
  have hspec := hcon _ _ W _ h (fun e => by rw [hro] at e; cases e) (Bs'.map Blk.b) c.R args' Bs' (rnA_rep (fun n hn => hg n (hna n hn)) hvs) hH1 hR
  have hsub : ∀ x ∈ Bs', x ∈ H' := fun x hx => by
    obtain ⟨n, _, hn⟩ := pick_mem p1 x hx
    exact List.mem_of_getElem? hn
  have hnB := pick_nodup hnd hns p1
  have hpre : Pre w Bs' c.R := ⟨fun x hx => hw.has x (hsub x hx), hnB, fun r hr => ⟨(hw.rows r hr).1, fun x hx => (hw.rows r hr).2 x (hsub x hx)⟩⟩
  refine (hspec w hpre).mono ?_
  rintro en w' ⟨v, H2, rfl, ⟨sv, H1, ρ1, hΨ, hext, hv, hrep1⟩, hgood⟩
  have hnl : ns.length = Bs'.length := p1.len
  -- the callee's blocks keep their places
  have hfst : A2 (fun n (B : Blk) => (H'.map Blk.b)[n]? = some B.b) ns (H2.take ns.length) := by
    have hge : ∀ i, i < ns.length → ∃ B, H2[i]? = some B ∧ ∃ n, ns[i]? = some n ∧ (H'.map Blk.b)[n]? = some B.b := fun i hi => by
      obtain ⟨B', h1, h2⟩ := p1.get (List.getElem?_eq_getElem hi)
      have h3 := hext i B'.b (by rw [List.getElem?_map, h1]; rfl)
      rw [hrep1.ids, List.getElem?_map, Option.map_eq_some_iff] at h3
      obtain ⟨B, hB, e⟩ := h3
      exact ⟨B, hB, ns[i], List.getElem?_eq_getElem hi, by rw [List.getElem?_map, h2, e]; rfl⟩
    clear hgood hrep1 hspec hpre hΨ
    have : ∀ (ns : List Nat) (H2 : List Blk), (∀ i, i < ns.length → ∃ B, H2[i]? = some B ∧ ∃ n, ns[i]? = some n ∧ (H'.map Blk.b)[n]? = some B.b) → A2 (fun n (B : Blk) => (H'.map Blk.b)[n]? = some B.b) ns (H2.take ns.length) := by
      intro ns
      induction ns with
      | nil => intro H2 _; simpa using A2.nil
      | cons n r ih =>
        intro H2 hh
        obtain ⟨B, hB, n', hn', hb⟩ := hh 0 (by simp)
        cases H2 with
        | nil => simp at hB
        | cons B0 H2 =>
          simp at hB hn'
          subst hB hn'
          simp only [List.length_cons, List.take_succ_cons]
          exact .cons hb (ih H2 fun i hi => by simpa using hh (i + 1) (by simpa using hi))
    exact this ns H2 hge
  have hids := putR_ids hfst
  have hlen2 : ns.length ≤ H2.length := by have := hfst.len; rw [List.length_take] at this; omega
  -- the others
  have hother : Z.Good c w (Bs' ++ H'.filter fun B => !(Bs'.map Blk.b).contains B.b) := by
    refine good_sub hw (fun x hx => ?_) ?_
    · rcases List.mem_append.1 hx with hx | hx
      · exact hsub x hx
      · exact (List.mem_filter.1 hx).1
    · rw [List.map_append, List.nodup_append]
      refine ⟨hnB, (hnd.sublist (List.filter_sublist.map _)), fun a ha b hb e => ?_⟩
      subst e
      obtain ⟨y, hy, rfl⟩ := List.mem_map.1 hb
      have := (List.mem_filter.1 hy).2
      simp only [Bool.not_eq_true', List.contains_eq_mem, decide_eq_false_iff_not] at this
      exact this ha
  have hback := hother.back hgood
  have hinH : ∀ x ∈ putR ns H' H2, x ∈ H2 ++ H'.filter fun B => !(Bs'.map Blk.b).contains B.b := fun x hx => by
    rcases putR_mem x hx with hx | ⟨j, hj, hn⟩
    · exact List.mem_append_left _ hx
    · refine List.mem_append_right _ (List.mem_filter.2 ⟨List.mem_of_getElem? hj, ?_⟩)
      simp only [Bool.not_eq_true', List.contains_eq_mem, decide_eq_false_iff_not]
      intro hm
      obtain ⟨C, hC, e⟩ := List.mem_map.1 hm
      obtain ⟨n, hn', hC'⟩ := pick_mem p1 C hC
      have := id_inj hnd hj hC' e.symm
      subst this
      rw [List.take_of_length_le hlen2] at hn
      exact hn hn'
  have hnd2 : ((putR ns H' H2).map Blk.b).Nodup := by
    rw [hids, List.nodup_append]
    have h2 := hback.nodup
    rw [List.map_append, List.nodup_append] at h2
    have hH2 := h2.1
    have hsplit : H2.map Blk.b = (H2.take ns.length).map Blk.b ++ (H2.drop ns.length).map Blk.b := by rw [← List.map_append, List.take_append_drop]
    rw [hsplit, List.nodup_append] at hH2
    refine ⟨hnd, hH2.2.1, fun a ha b hb e => ?_⟩
    subst e
    obtain ⟨B, hB, rfl⟩ := List.mem_map.1 ha
    by_cases hin : B.b ∈ Bs'.map Blk.b
    · obtain ⟨C, hC, e⟩ := List.mem_map.1 hin
      obtain ⟨i, hi, rfl⟩ := List.mem_iff_getElem.1 hC
      have h3 := hext i Bs'[i].b (by rw [List.getElem?_map, List.getElem?_eq_getElem hi]; rfl)
      rw [hrep1.ids, List.getElem?_map, Option.map_eq_some_iff] at h3
      obtain ⟨D, hD, e2⟩ := h3
      refine hH2.2.2 B.b ?_ B.b hb rfl
      refine List.mem_map.2 ⟨D, ?_, by rw [e2, e]⟩
      have : (H2.take ns.length)[i]? = some D := by rw [List.getElem?_take, if_pos (by omega)]; exact hD
      exact List.mem_of_getElem? this
    · refine h2.2.2 B.b ?_ B.b (List.mem_map.2 ⟨B, List.mem_filter.2 ⟨hB, by simpa using hin⟩, rfl⟩) rfl
      rw [hsplit]
      exact List.mem_append_right _ hb
  have hgoodT := good_sub hback hinH hnd2
  have hbk : ∀ (n b : Nat), ρ1[n]? = some b → (ρ ++ (H2.drop ns.length).map Blk.b)[backN ns (Y.len H) n]? = some b := fun n b hb => by
    unfold backN
    rw [nth_eq]
    by_cases hn : n < ns.length
    · rw [List.getElem?_eq_getElem hn]
      simp only
      obtain ⟨B', h1, h2⟩ := p1.get (List.getElem?_eq_getElem hn)
      have h3 := hext n B'.b (by rw [List.getElem?_map, h1]; rfl)
      rw [hb] at h3
      cases h3
      refine ext_app _ _ _ _ ?_
      rw [hH.ids, List.getElem?_map, h2]
      rfl
    · have hnone : ns[n]? = none := List.getElem?_eq_none (by omega)
      rw [hnone]
      simp only
      rw [len_eq, len_eq, ← hH.len, List.getElem?_append_right (by omega), Nat.add_sub_cancel_left]
      rw [hrep1.ids] at hb
      rw [List.map_drop, List.getElem?_drop, show ns.length + (n - ns.length) = n by omega]
      exact hb
  refine ⟨v, rfl, _, ρ ++ (H2.drop ns.length).map Blk.b, putR ns H' H2, hΨ, ext_app _ _, rnV_rep (fun n _ b hb => hbk n b hb) hv, ⟨by rw [hids, hH.ids], ?_⟩, hgoodT, ?_, ?_⟩
  · exact put_rep (repH.mono (ext_app _ _) hH) (rnBs_rep (fun n _ b hb => hbk n b hb) hrep1.bs)
  · refine hgood.keep.toP fun k hk => ?_
    obtain ⟨x, hx, hwr, rfl⟩ := Z.mem_wids.1 hk
    obtain ⟨n, hn, hB⟩ := pick_mem p1 x hx
    exact ⟨n, wrN_mem hH hn hB hwr, by rw [hH.ids, List.getElem?_map, hB]; rfl⟩
  · intro n b hn hb
    rw [List.getElem?_append_right hn] at hb
    have hmem := List.mem_of_getElem? hb
    obtain ⟨B, hB, rfl⟩ := List.mem_map.1 hmem
    rcases hgood.own B (List.mem_of_mem_drop hB) with h1 | h1
    · exact h1
    · exfalso
      have h1 : B.b ∈ Bs'.map Blk.b := h1
      have hnd3 := hnd2
      rw [hids, List.nodup_append] at hnd3
      obtain ⟨C, hC, e⟩ := List.mem_map.1 h1
      exact hnd3.2.2 B.b (List.mem_map.2 ⟨C, hsub C hC, e⟩) B.b (List.mem_map.2 ⟨B, hB, rfl⟩) rfl
end
end Go.Y

set_option linter.unusedSimpArgs false
set_option linter.unusedVariables false
namespace Go.Y
open Go.Z (Row Blk plainV Keep KeepP RowAt Fits runsTo Pre Cx TL TC TE Ends cxOf)
section
variable {P : Program} {cx : Ctx} (hcx : CtxOK P cx)
include hcx
omit hcx in
theorem buildV_sound {t : Nat} {ti : TyI} (hti : TyOK P t ti) {ρ : List Nat} {R : List Row} {e : Env} {e' : Z.Env} (he : repE ρ R e e') {pl : Nat → Option (Nat × Nat)} (hpl : ∀ i o sz, placeO cx t i = some (o, sz) → pl i = some (o, sz)) :
    ∀ {ps : List (Nat × Operand)} {ss qs : List Seg} {cs : List Value}, repG ρ R ss cs → buildV cx t e ss ps = some qs → ∃ vs, Z.evp e' ps = some vs ∧ ∃ ds, Instr.fill pl cs.toArray vs = some ds.toArray ∧ repG ρ R qs ds
  | [], ss, qs, cs, hs, h => by
    cases h
    exact ⟨[], rfl, cs, rfl, hs⟩
  | (i, x) :: r, ss, qs, cs, hs, h => by
    simp only [buildV] at h
    split at h
    · rename_i o sz v hp hv
      split at h
      · rename_i ms hms
        obtain ⟨u, hu, hr⟩ := ev1_rep he hv
        obtain ⟨us, hc, hus⟩ := rep1.cells hr
        obtain ⟨g1, g2, g3⟩ := layV_rep hms hs hus
        obtain ⟨vs, e1, ds, e2, e3⟩ := buildV_sound hti he hpl g1 h
        refine ⟨(i, u) :: vs, by simp [Z.evp, hu, e1], ds, ?_, e3⟩
        simp only [Instr.fill, hpl _ _ _ hp]
        have hsz : u.cells.size = sz := by rw [hc]; simpa using g3
        have hcond : ¬ (u.cells.size ≠ sz || o + u.cells.size > cs.toArray.size) = true := by
          simp [hsz]; omega
        rw [if_neg (by simpa using hcond)]
        have hfold : (u.cells.zipIdx.foldl (fun cs (x : Value × Nat) => cs.setIfInBounds (o + x.2) x.1) cs.toArray) = (Z.setL cs o us).toArray := by
          apply Array.toList_inj.1
          rw [hc]
          have := Z.fold_setL us cs.toArray o 0
          simpa using this
        rw [← e2]
        congr 1
      · cases h
    · cases h
theorem placeO_struct {t i o sz : Nat} {fs : Array Field} (hu : P.underlying t = some (.struct fs)) (h : placeO cx t i = some (o, sz)) : ∃ fd, fs[i]? = some fd ∧ fd.offset = o ∧ ∀ w, (sizeOf fd.type).run P w = .ok sz w := by
  unfold placeO at h
  rw [Option.bind_eq_some_iff] at h
  obtain ⟨ti, hti, h⟩ := h
  have hund := (hcx.ty _ _ hti).und
  split at h
  · rename_i fs' hd
    rw [hd, hu] at hund
    cases hund
    rw [Option.bind_eq_some_iff] at h
    obtain ⟨fd, hfd, h⟩ := h
    rw [Option.map_eq_some_iff] at h
    obtain ⟨ft, hft, h⟩ := h
    cases h
    rw [nth_eq] at hfd
    exact ⟨fd, by simpa using hfd, rfl, (hcx.ty _ _ hft).size⟩
  · rename_i n el hd
    rw [hd, hu] at hund
    cases hund
  · cases h
theorem placeO_array {t i o sz n el : Nat} (hu : P.underlying t = some (.array n el)) (h : placeO cx t i = some (o, sz)) : o = i * sz ∧ ∀ w, (sizeOf el).run P w = .ok sz w := by
  unfold placeO at h
  rw [Option.bind_eq_some_iff] at h
  obtain ⟨ti, hti, h⟩ := h
  have hund := (hcx.ty _ _ hti).und
  split at h
  · rename_i fs' hd
    rw [hd, hu] at hund
    cases hund
  · rename_i n' el' hd
    rw [hd, hu] at hund
    cases hund
    rw [Option.map_eq_some_iff] at h
    obtain ⟨ft, hft, h⟩ := h
    cases h
    exact ⟨rfl, (hcx.ty _ _ hft).size⟩
  · cases h
theorem fieldsOk_size : ∀ {fs : List Field}, fieldsOk cx fs = true → ∀ f ∈ fs, ∃ n, ∀ w, (sizeOf f.type).run P w = .ok n w
  | [], _, _, h => by cases h
  | g :: r, h, f, hf => by
    simp only [fieldsOk, Bool.and_eq_true, Option.isSome_iff_exists] at h
    obtain ⟨⟨ti, hti⟩, h2⟩ := h
    rcases List.mem_cons.1 hf with rfl | hf
    · exact ⟨ti.sz, (hcx.ty _ _ hti).size⟩
    · exact fieldsOk_size h2 f hf
omit hcx in
theorem places_list : ∀ {fs : List Field}, (∀ f ∈ fs, ∃ n, ∀ w, (sizeOf f.type).run P w = .ok n w) → ∃ pl : List (Nat × Nat), (∀ w, (fs.mapM (fun f => do pure (f.offset, ← sizeOf f.type) : Field → Sem (Nat × Nat))).run P w = .ok pl w) ∧
    ∀ (i : Nat) (f : Field) (n : Nat), fs[i]? = some f → (∀ w, (sizeOf f.type).run P w = .ok n w) → pl[i]? = some (f.offset, n)
  | [], _ => ⟨[], fun w => by simp, fun i f n h => by simp at h⟩
  | g :: r, h => by
    obtain ⟨m, hm⟩ := h g List.mem_cons_self
    obtain ⟨pl, h1, h2⟩ := places_list (fs := r) fun f hf => h f (List.mem_cons_of_mem _ hf)
    refine ⟨(g.offset, m) :: pl, fun w => by rw [List.mapM_cons]; simp only [Sem.run_bind, hm w, Result.andThen_ok, h1 w, Sem.run_pure], fun i f n hi hn => ?_⟩
    cases i with
    | zero =>
      simp at hi
      subst hi
      have e1 := hm default
      rw [hn default] at e1
      injection e1 with e1
      subst e1
      rfl
    | succ i => simp at hi; simpa using h2 i f n hi hn
theorem places_struct {t : Nat} {fs : Array Field} (hu : P.underlying t = some (.struct fs)) (h : fieldsOk cx fs.toList = true) : ∃ pl : Array (Nat × Nat), (∀ w, (fs.mapM (fun f => do pure (f.offset, ← sizeOf f.type) : Field → Sem (Nat × Nat))).run P w = .ok pl w) ∧ ∀ i o sz, placeO cx t i = some (o, sz) → pl[i]? = some (o, sz) := by
  obtain ⟨pl, h1, h2⟩ := places_list (fieldsOk_size hcx h)
  refine ⟨pl.toArray, fun w => ?_, fun i o sz hp => ?_⟩
  · rw [Array.mapM_eq_mapM_toList]
    simp only [map_eq_pure_bind, Sem.run_bind, h1 w, Result.andThen_ok, Sem.run_pure]
  · obtain ⟨fd, e1, rfl, e3⟩ := placeO_struct hcx hu hp
    have := h2 i fd sz (by simpa using e1) e3
    simpa using this
omit hcx in
theorem optI_rep {ρ : List Nat} {R : List Row} {e : Env} {e' : Z.Env} (he : repE ρ R e e') {x : Option Operand} {n : Option Int} (h : optI e x = some n) : ∃ v, repO n v ∧ ∀ (N : Nat) (a : Act), Fits N a e' → x.map a.eval = v := by
  cases x with
  | none => cases h; exact ⟨none, rfl, fun _ _ _ => rfl⟩
  | some x =>
    simp only [optI] at h
    split at h
    · rename_i k m hm
      cases h
      obtain ⟨v, hv, hr⟩ := evS_rep he hm
      simp only [repS] at hr
      subst hr
      exact ⟨some (.int k m), ⟨k, rfl⟩, fun N a ha => by simp [ha.ev hv]⟩
    · cases h
omit hcx in
theorem arr1 {α : Type} {xs : Array α} {x : α} (h : xs.toList = [x]) : xs = #[x] := Array.toList_inj.1 h
omit hcx in
theorem arr2 {α : Type} {xs : Array α} {x y : α} (h : xs.toList = [x, y]) : xs = #[x, y] := Array.toList_inj.1 h
omit hcx in
theorem oper_eta (o : Oper) {op : Op} (h : o.op = op) : ∀ ρ, execOp ρ o = execOp ρ { o with op := op } := fun ρ => by subst h; rfl
theorem opV_sound {ρ : List Nat} {R : List Row} {e : Env} {e' : Z.Env} {H : List Bk} {H' : List Blk} {W : List Rw} (he : repE ρ R e e') (hH : repH ρ R H H') (hR : repR W R) (hnd : (H'.map Blk.b).Nodup) {op : Op} {Φ : SV → Prop} (h : (opV cx e H W op).all Φ)
    {N : Nat} {w0 : World} {a0 : Act} (ha0 : Fits N a0 e') (hw0 : Mem H' R (rdO e H op).1 (rdO e H op).2 w0) : ∃ sv v, Φ sv ∧ repV ρ R sv v ∧ Runs P op N e' v (Mem H' R (rdO e H op).1 (rdO e H op).2) := by
  unfold opV at h
  split at h
  · -- move
    obtain ⟨sv, hsv, h⟩ := peelO h
    obtain ⟨v, hv, hr⟩ := ev_rep he hsv
    exact ⟨sv, v, h, hr, Runs.val fun o a w ho ha _ => by simp [execOp, ho, ha.ev hv]⟩
  · obtain ⟨sv, hsv, h⟩ := peelO h
    obtain ⟨v, hv, hr⟩ := ev_rep he hsv
    exact ⟨sv, v, h, hr, Runs.val fun o a w ho ha _ => by simp [execOp, ho, ha.ev hv]⟩
  · -- pick
    rename_i x y z
    obtain ⟨sx, hsx, h⟩ := peel h
    obtain ⟨vx, hvx, hrx⟩ := evS_rep he hsx
    split at h
    · rename_i b
      simp only [repS] at hrx
      subst hrx
      obtain ⟨sv, hsv, h⟩ := peelO h
      obtain ⟨v, hv, hr⟩ := ev_rep he hsv
      exact ⟨sv, v, h, hr, Runs.val fun o a w ho ha _ => by
        have h1 := ha.ev hvx
        have h2 := ha.ev hv
        cases b <;> simp at h2 <;> simp [execOp, ho, h1, asBool, h2]⟩
    · rename_i b
      simp only [repS] at hrx
      subst hrx
      obtain ⟨u, hu, h⟩ := peel h
      obtain ⟨v, hv, h⟩ := peel h
      obtain ⟨r, hr, h⟩ := peel h
      obtain ⟨a1, h1, r1⟩ := ev1_rep he hu
      obtain ⟨a2, h2, r2⟩ := ev1_rep he hv
      exact ⟨_, _, h, mrgV_rep hr r1 r2, Runs.val fun o a w ho ha _ => by simp [execOp, ho, ha.ev hvx, asBool, ha.ev h1, ha.ev h2]⟩
    · exact h.elim
  · -- nilCheck
    obtain ⟨sx, hsx, h⟩ := peel h
    obtain ⟨vx, hvx, hrx⟩ := evS_rep he hsx
    split at h
    · obtain ⟨b, hb, rfl⟩ := hrx
      exact ⟨_, _, h, ⟨b, hb, rfl⟩, Runs.val fun o a w ho ha _ => by simp [execOp, ho, ha.ev hvx]⟩
    · obtain ⟨b, hb, rfl⟩ := hrx
      exact ⟨_, _, h, ⟨b, hb, rfl⟩, Runs.val fun o a w ho ha _ => by simp [execOp, ho, ha.ev hvx]⟩
    · obtain ⟨b, hb, rfl⟩ := hrx
      exact ⟨_, _, h, ⟨b, hb, rfl⟩, Runs.val fun o a w ho ha _ => by simp [execOp, ho, ha.ev hvx]⟩
    · exact h.elim
  · -- binOp
    rename_i op t x y yt
    obtain ⟨u, hu, h⟩ := peel h
    obtain ⟨v, hv, h⟩ := peel h
    obtain ⟨a1, h1, r1⟩ := ev1_rep he hu
    obtain ⟨a2, h2, r2⟩ := ev1_rep he hv
    obtain ⟨sv, r, g1, g2, g3⟩ := binV_sound hcx h r1 r2
    exact ⟨sv, r, g1, g2, Runs.val fun o a w ho ha _ => by
      have := g3 x y w
      simp only [execOp, ho, ha.ev h1, ha.ev h2]
      simp only [Sem.run_bind] at this ⊢
      simp [this]⟩
  · -- unOp
    obtain ⟨u, hu, h⟩ := peel h
    obtain ⟨a1, h1, r1⟩ := evS_rep he hu
    obtain ⟨sv, r, g1, g2, g3⟩ := unV_sound (P := P) h r1
    exact ⟨sv, r, g1, g2, Runs.val fun o a w ho ha _ => by simp [execOp, ho, ha.ev h1, g3 w]⟩
  · -- convert
    obtain ⟨ts, hts, h⟩ := peel h
    obtain ⟨td, htd, h⟩ := peel h
    obtain ⟨u, hu, h⟩ := peel h
    obtain ⟨a1, h1, r1⟩ := evS_rep he hu
    obtain ⟨sv, r, g1, g2, g3⟩ := convV_sound (hcx.ty _ _ hts) (hcx.ty _ _ htd) h r1
    exact ⟨sv, r, g1, g2, Runs.val fun o a w ho ha _ => by simp [execOp, ho, ha.ev h1, g3 w]⟩
  · -- load
    rename_i t x
    obtain ⟨ti, hti, h⟩ := peel h
    obtain ⟨u, hu, h⟩ := peel h
    obtain ⟨a1, h1, r1⟩ := evS_rep he hu
    obtain ⟨sv, r, g1, g2, g3⟩ := loadV_sound (hcx.ty _ _ hti) hH hR (rd := (rdO e H (.load t x)).1) (rr := (rdO e H (.load t x)).2) h r1 (by simp only [rdO, hu]; cases u <;> simp) (by simp only [rdO, hu]; cases u <;> simp)
    exact ⟨sv, r, g1, g2, Runs.val fun o a w ho ha hm => by simp [execOp, ho, ha.ev h1, g3 w hm]⟩
  · -- fieldAddr
    obtain ⟨⟨of, ft⟩, hf, h⟩ := peel h
    obtain ⟨fs, fd, e1, e2, e3, e4⟩ := fieldO_spec hcx hf
    simp only at h
    cases hz : Nat.beq ft.sz 0 with
    | true => simp only [hz, cond_true] at h; exact h.elim
    | false =>
      simp only [hz, cond_false] at h
      obtain ⟨u, hu, h⟩ := peel h
      obtain ⟨a1, h1, r1⟩ := evS_rep he hu
      obtain ⟨sv, r, g1, g2, g3⟩ := fieldA_sound h r1 e1 e2 e3 e4.size (fun e => by rw [e] at hz; cases hz)
      exact ⟨sv, r, g1, g2, Runs.val fun o a w ho ha _ => by simp [execOp, ho, ha.ev h1, g3 w]⟩
  · -- indexAddr
    obtain ⟨⟨n, el⟩, hel, h⟩ := peel h
    obtain ⟨elt, htel, hT⟩ := elemO_spec hcx hel
    obtain ⟨si, hsi, h⟩ := peel h
    obtain ⟨vi, hvi, hri⟩ := evS_rep he hsi
    split at h
    · simp only [repS] at hri
      subst hri
      obtain ⟨u, hu, h⟩ := peel h
      obtain ⟨a1, h1, r1⟩ := evS_rep he hu
      obtain ⟨sv, r, g1, g2, g3⟩ := indexA_sound (k := by assumption) h r1 hT htel.size
      exact ⟨sv, r, g1, g2, Runs.val fun o a w ho ha _ => by simp [execOp, ho, ha.ev h1, ha.ev hvi, g3 w]⟩
    · exact h.elim
  · -- index
    obtain ⟨si, hsi, h⟩ := peel h
    obtain ⟨vi, hvi, hri⟩ := evS_rep he hsi
    split at h
    · simp only [repS] at hri
      subst hri
      obtain ⟨u, hu, h⟩ := peel h
      obtain ⟨a1, h1, r1⟩ := ev1_rep he hu
      obtain ⟨sv, r, g1, g2, g3⟩ := indexV_sound hcx (k := by assumption) h r1
      exact ⟨sv, r, g1, g2, Runs.val fun o a w ho ha _ => by simp [execOp, ho, ha.ev h1, ha.ev hvi, g3 w]⟩
    · exact h.elim
  · -- field
    obtain ⟨⟨of, ft⟩, hf, h⟩ := peel h
    obtain ⟨fs, fd, e1, e2, e3, e4⟩ := fieldO_spec hcx hf
    obtain ⟨u, hu, h⟩ := peel h
    obtain ⟨a1, h1, r1⟩ := ev1_rep he hu
    obtain ⟨sv, r, g1, g2, g3⟩ := fieldV_sound h r1 e1 e2 e3 e4
    exact ⟨sv, r, g1, g2, Runs.val fun o a w ho ha _ => by simp [execOp, ho, ha.ev h1, g3 w]⟩
  · -- extract
    obtain ⟨u, hu, h⟩ := peel h
    obtain ⟨a1, h1, r1⟩ := ev_rep he hu
    split at h
    · obtain ⟨vs, rfl, hvs⟩ := r1
      obtain ⟨y, hy, h⟩ := peel h
      rw [nth_eq] at hy
      obtain ⟨v, hv, hr⟩ := hvs.get hy
      exact ⟨_, v, h, hr, Runs.val fun o a w ho ha _ => by simp [execOp, ho, ha.ev h1, Instr.extract, hv]⟩
    · exact h.elim
  · -- build
    rename_i t ps
    obtain ⟨ti, hti, h⟩ := peel h
    cases hpk : placesOk cx ti.d with
    | false => simp only [hpk, Bool.not_false, cond_true] at h; exact h.elim
    | true =>
    simp only [hpk, Bool.not_true, cond_false] at h
    obtain ⟨z, hz, h⟩ := peel h
    obtain ⟨ss, hss, h⟩ := peel h
    have hT := hcx.ty _ _ hti
    obtain ⟨vz, hvz, hrz⟩ := hT.zero z hz
    obtain ⟨cs, hcs, hg⟩ := rep1.cells (hrz ρ R)
    have key : ∀ (pl : Nat → Option (Nat × Nat)), (∀ i o sz, placeO cx t i = some (o, sz) → pl i = some (o, sz)) → ∃ vs, Z.evp e' ps.toList = some vs ∧ ∃ ds, Instr.fill pl cs.toArray vs = some ds.toArray ∧ repG ρ R ss ds := fun pl hpl => buildV_sound hT he hpl hg hss
    have hund := hT.und
    unfold placesOk at hpk
    split at hpk
    · rename_i fs hd
      rw [hd] at hund
      obtain ⟨pl, hpm, hpp⟩ := places_struct hcx hund hpk
      obtain ⟨vs, e1, ds, e2, e3⟩ := key (fun i => pl[i]?) hpp
      refine ⟨_, .agg ds.toArray, h, ⟨ds, rfl, e3⟩, Runs.val fun o a w ho ha _ => ?_⟩
      have h1 : ps.map (fun (i, x) => (i, a.eval x)) = vs.toArray := Array.toList_inj.1 (by rw [Array.toList_map]; exact ha.evp e1)
      have hb : (Instr.build t vs.toArray).run P w = .ok (.agg ds.toArray) w := by
        simp only [Instr.build, Sem.run_bind, hvz w, Result.andThen_ok, run_underlying hund, hpm w, hcs, e2]
        rfl
      simp [execOp, ho, h1, hb]
    · rename_i n el hd
      rw [hd] at hund
      rw [Option.isSome_iff_exists] at hpk
      obtain ⟨te, hte⟩ := hpk
      have hs0 := (hcx.ty _ _ hte).size
      obtain ⟨vs, e1, ds, e2, e3⟩ := key (fun i => some (i * te.sz, te.sz)) (fun i o sz' hp => by
        obtain ⟨q1, q2⟩ := placeO_array hcx hund hp
        have : sz' = te.sz := by have h1 := q2 w0; have h2 := hs0 w0; rw [h1] at h2; injection h2
        subst this
        rw [q1])
      refine ⟨_, .agg ds.toArray, h, ⟨ds, rfl, e3⟩, Runs.val fun o a w ho ha _ => ?_⟩
      have h1 : ps.map (fun (i, x) => (i, a.eval x)) = vs.toArray := Array.toList_inj.1 (by rw [Array.toList_map]; exact ha.evp e1)
      simp [execOp, ho, h1, Instr.build, hvz w, underlying, hund, hs0 w, hcs, e2]
    · cases hpk
  · -- slice
    split at h
    · exact h.elim
    · obtain ⟨lo, hlo, h⟩ := peel h
      obtain ⟨hi, hhi, h⟩ := peel h
      obtain ⟨u, hu, h⟩ := peel h
      obtain ⟨a1, h1, r1⟩ := evS_rep he hu
      obtain ⟨vl, hl0, hl1⟩ := optI_rep he hlo
      obtain ⟨vh, hh0, hh1⟩ := optI_rep he hhi
      obtain ⟨sv, r, g1, g2, g3⟩ := sliceV_sound hcx h r1 hl0 hh0
      exact ⟨sv, r, g1, g2, Runs.val fun o a w ho ha _ => by simp [execOp, ho, ha.ev h1, hl1 N a ha, hh1 N a ha, g3 w]⟩
  · -- len
    split at h
    · rename_i x t hxs hts
      have hxs := arr1 hxs
      have hts := arr1 hts
      subst hxs hts
      obtain ⟨u, hu, h⟩ := peel h
      obtain ⟨a1, h1, r1⟩ := evS_rep he hu
      obtain ⟨sv, r, g1, g2, g3⟩ := lenV_sound hcx h r1
      exact ⟨sv, r, g1, g2, Runs.val fun o a w ho ha _ => by simp [execOp, ho, resolve, ha.ev h1, invoke, builtin, g3]⟩
    · exact h.elim
  · -- min
    split at h
    · rename_i x y hxs
      have hxs := arr2 hxs
      subst hxs
      obtain ⟨u, hu, h⟩ := peel h
      obtain ⟨a1, h1, r1⟩ := evS_rep he hu
      split at h
      · rename_i k m
        simp only [repS] at r1
        subst r1
        obtain ⟨v, hv, h⟩ := peel h
        obtain ⟨a2, h2, r2⟩ := evS_rep he hv
        split at h
        · rename_i k' n
          simp only [repS] at r2
          subst r2
          cases hk : Nat.beq (kc k) (kc k') with
          | false => simp only [hk, cond_false] at h; exact h.elim
          | true =>
            simp only [hk, cond_true] at h
            have := kc_inj hk
            subst this
            exact ⟨_, .int k _, h, rfl, Runs.val fun o a w ho ha _ => by simp [execOp, ho, resolve, ha.ev h1, ha.ev h2, invoke, builtin, Builtin.min_, Builtin.min2]⟩
        · exact h.elim
      · exact h.elim
    · exact h.elim
  · -- max
    split at h
    · rename_i x y hxs
      have hxs := arr2 hxs
      subst hxs
      obtain ⟨u, hu, h⟩ := peel h
      obtain ⟨a1, h1, r1⟩ := evS_rep he hu
      split at h
      · rename_i k m
        simp only [repS] at r1
        subst r1
        obtain ⟨v, hv, h⟩ := peel h
        obtain ⟨a2, h2, r2⟩ := evS_rep he hv
        split at h
        · rename_i k' n
          simp only [repS] at r2
          subst r2
          cases hk : Nat.beq (kc k) (kc k') with
          | false => simp only [hk, cond_false] at h; exact h.elim
          | true =>
            simp only [hk, cond_true] at h
            have := kc_inj hk
            subst this
            exact ⟨_, .int k _, h, rfl, Runs.val fun o a w ho ha _ => by simp [execOp, ho, resolve, ha.ev h1, ha.ev h2, invoke, builtin, Builtin.max_, Builtin.max2]⟩
        · exact h.elim
      · exact h.elim
    · exact h.elim
  · -- a call that reads alone
    rename_i f xs ts
    split at h
    · rename_i con hcon
      obtain ⟨hok, hcall⟩ := hcx.con _ _ hcon
      cases hro : con.ro with
      | false => simp only [hro, cond_false] at h; exact h.elim
      | true =>
        simp only [hro, cond_true] at h
        obtain ⟨vs, hvs, h⟩ := peel h
        obtain ⟨us, hus, hr⟩ := evs_rep he hvs
        simp only [rdO, hvs] at hw0 ⊢
        obtain ⟨sv, v, g1, g2, g3⟩ := callRo_sound hok hro h hr hH hR hnd hw0
        refine ⟨sv, v, g1, g2, fun o a w ho ha hm => ?_⟩
        have hargs : xs.map a.eval = us.toArray := by
          rw [← ha.evs hus]
          exact Array.toList_inj.1 (by rw [Array.toList_map])
        have hrun : (execOp a.eval o).run P w = .ok (.enter f us.toArray) w := by
          simp [execOp, ho, resolve, hargs, Act.eval, Deferred.ofValue, invoke, hcall]
        unfold runsTo
        rw [hrun]
        exact (g3 w hm).mono fun e w' ⟨e1, e2⟩ => ⟨v, e1, rfl, e2⟩
    · exact h.elim
  · exact h.elim
end
end Go.Y

set_option linter.unusedSimpArgs false
set_option linter.unusedVariables false
namespace Go.Y
open Go.Z (Row Blk plainV Keep KeepP RowAt Fits runsTo Pre Cx)
theorem plain_one {v : Value} (h : plainV v = true) : v.oneCell' = true := by cases v <;> first | rfl | (cases h; done)
theorem castL_eq {id id' : Nat} {l : List (Sh id)} {l' : List (Sh id')} (h : castL id id' l = some l') : ∃ e : id = id', l' = e ▸ l := by
  unfold castL at h
  split at h
  · rename_i e
    cases h
    exact ⟨e, rfl⟩
  · cases h
theorem flat_tk {α β : Type} {f : α → List β} {s : Nat} (hf : ∀ x, (f x).length = s) : ∀ (l : List α) (n : Nat), (l.take n).flatMap f = (l.flatMap f).take (n * s)
  | [], n => by simp
  | x :: l, 0 => by simp
  | x :: l, n + 1 => by
    have : (n + 1) * s = (f x).length + n * s := by rw [hf, Nat.add_mul]; omega
    rw [List.take_succ_cons, List.flatMap_cons, List.flatMap_cons, this, List.take_length_add_append, flat_tk hf l n]
theorem flat_dr {α β : Type} {f : α → List β} {s : Nat} (hf : ∀ x, (f x).length = s) : ∀ (l : List α) (n : Nat), (l.drop n).flatMap f = (l.flatMap f).drop (n * s)
  | [], n => by simp
  | x :: l, 0 => by simp
  | x :: l, n + 1 => by
    have : (n + 1) * s = (f x).length + n * s := by rw [hf, Nat.add_mul]; omega
    rw [List.drop_succ_cons, List.flatMap_cons, this, List.drop_length_add_append, flat_dr hf l n]
theorem flat_ln {α β : Type} {f : α → List β} {s : Nat} (hf : ∀ x, (f x).length = s) : ∀ (l : List α), (l.flatMap f).length = l.length * s
  | [] => by simp
  | x :: l => by rw [List.flatMap_cons, List.length_append, hf, flat_ln hf l, List.length_cons, Nat.add_mul]; omega
theorem TyOK.info {P : Program} {t : Nat} {ti : TyI} (h : TyOK P t ti) {w0 : World} : ∃ i, P.info? t = some i ∧ i.size = ti.sz ∧ i.bytes ≤ 32 * ti.sz ∧ ∀ z, ti.z = some z → ∃ v, i.zero = some v ∧ ∀ ρ R, rep1 ρ R z v := by
  have h1 := h.size w0
  cases hi : P.info? t with
  | none => simp [sizeOf, typeInfo, Sem.run_bind, program, Sem.run, hi] at h1
  | some i =>
    have e : i.size = ti.sz := by simpa [sizeOf, typeInfo, hi] using h1
    refine ⟨i, rfl, e, h.bytes i hi, fun z hz => ?_⟩
    obtain ⟨v, hv, hr⟩ := h.zero z hz
    have h2 := hv w0
    refine ⟨v, ?_, hr⟩
    cases hz' : i.zero with
    | none => simp [zeroValue, typeInfo, hi, hz'] at h2
    | some u => simp [zeroValue, typeInfo, hi, hz'] at h2; rw [h2]
theorem flat_zero : ∀ (n : Nat) (vs : List Value) (k : Nat), vs.length = k → 0 < k → (List.range (n * k)).map (fun i => vs.toArray[i % vs.toArray.size]!) = (List.replicate n vs).flatten := by
  intro n vs k hk h0
  subst hk
  induction n with
  | zero => simp
  | succ n ih =>
    rw [List.replicate_succ', List.flatten_append, ← ih, Nat.add_mul, Nat.one_mul, List.range_add, List.map_append]
    congr 1
    simp only [List.flatten_cons, List.flatten_nil, List.append_nil, List.map_map]
    apply List.ext_getElem
    · simp
    · intro i h1 h2
      have h2' : i < vs.length := by simpa using h2
      simp [Nat.mod_eq_of_lt h2', h2']
section
variable {P : Program} {ρ : List Nat} {c : Cx} {H : List Bk} {H' : List Blk} {W : List Rw}
/-- a block's cells turned, whatever turned them -/
theorem good_upd {w w' : World} (h : Z.Good c w H') {i : Nat} {x : Blk} (hx : H'[i]? = some x) (hwr : x.wr = true) {cs : List Value} (h1 : w'.heap[x.b]? = some (.cells cs.toArray x.t x.fz)) (h2 : ∀ k, k ≠ x.b → w'.heap[k]? = w.heap[k]?)
    (h3 : w'.heap.size = w.heap.size) (ho : w'.os = w.os) (ht : w'.tape = w.tape) (hu : w'.output = w.output) : Z.Good c w' (Z.setB H' i cs) := by
  have hxm := List.mem_of_getElem? hx
  refine ⟨fun y hy => ?_, by rw [Z.setB_b]; exact h.nodup, fun y hy hyw => ?_, fun y hy => ?_, ?_, fun r hr => ⟨?_, fun y hy hyw hne => ?_⟩⟩
  · rcases Z.mem_setB hx h.nodup hy with rfl | ⟨hy, hne⟩
    · exact h1
    · rw [h2 _ hne]; exact h.has y hy
  · rcases Z.mem_setB hx h.nodup hy with rfl | ⟨hy, _⟩
    · exact h.mine x hxm hwr
    · exact h.mine y hy hyw
  · rcases Z.mem_setB hx h.nodup hy with rfl | ⟨hy, _⟩
    · exact h.own x hxm
    · exact h.own y hy
  · refine ⟨by rw [h3]; exact h.keep.size, fun k hk hks => ?_, ho.trans h.keep.os, ht.trans h.keep.tape, hu.trans h.keep.output⟩
    rw [h2 k (fun e => by
      rcases h.mine x hxm hwr with h1 | h1
      · have : k = x.b := e; omega
      · exact hks (e ▸ h1))]
    exact h.keep.block k hk hks
  · exact (h.rows r hr).1.same fun hne => h2 _ (fun e => (h.rows r hr).2 x hxm hwr hne e.symm)
  · rcases Z.mem_setB hx h.nodup hy with rfl | ⟨hy, _⟩
    · exact (h.rows r hr).2 x hxm hwr hne
    · exact (h.rows r hr).2 y hy hyw hne
theorem eff_upd {Ψ : Rs → Prop} (hH : repH ρ c.R H H') {w w' : World} (hw : Z.Good c w H') {n : Nat} {B : Bk} {B' : Blk} (hB : nth H n = some B) (hB' : H'[n]? = some B') (hwr : B.wr = true) {ss : List Seg} {cs : List Value}
    (hss : repG ρ c.R ss cs) {x : Sc} {v : Value} (hv : repS ρ c.R x v) (h : Ψ ⟨rd1 x, setAt H n ⟨B.t, ss, true⟩, [n]⟩) (h1 : w'.heap[B'.b]? = some (.cells cs.toArray B'.t B'.fz)) (h2 : ∀ k, k ≠ B'.b → w'.heap[k]? = w.heap[k]?)
    (h3 : w'.heap.size = w.heap.size) (ho : w'.os = w.os) (ht : w'.tape = w.tape) (hu : w'.output = w.output) : Eff c ρ Ψ w v w' := by
  obtain ⟨B'', hB'', hrep, hid⟩ := hH.nth hB
  rw [hB'] at hB''
  cases hB''
  have hwr' : B'.wr = true := by rw [hrep.wr, hwr]
  have hgood := good_upd hw hB' hwr' h1 h2 h3 ho ht hu
  rw [setB_set _ _ _ _ hB'] at hgood
  refine ⟨_, ρ, _, h, fun _ _ hb => hb, hv, ⟨?_, ?_⟩, hgood, ?_, ?_⟩
  · rw [hH.ids]
    have hlt := (List.getElem?_eq_some_iff.1 hB').1
    have he := (List.getElem?_eq_some_iff.1 hB').2
    apply List.ext_getElem?
    intro i
    simp only [List.getElem?_map, List.getElem?_set]
    split
    · rename_i hni
      subst hni
      rw [hB']
      rfl
    · rfl
  · rw [setAt_eq]
    refine A2.set hH.bs (?_ : repB ρ c.R ⟨B.t, ss, true⟩ _) n
    exact ⟨hrep.t, hwr', hrep.fz, hss⟩
  · exact ⟨by rw [h3]; exact Nat.le_refl _, fun k hk hn => h2 k (fun e => hn ⟨n, by simp, by rw [hid, e]⟩), ho, ht, hu⟩
  · intro m b hm hb
    have := (List.getElem?_eq_some_iff.1 hb).1
    omega
/-- a block of its own, behind a draw -/
theorem eff_newD {Ψ : Rs → Prop} (hH : repH ρ c.R H H') {w : World} (hw : Z.Good c w H') {t : Nat} {ss : List Seg} {cs : List Value} {x : Sc} {v : Value} (hcs : repG ρ c.R ss cs) (h : Ψ ⟨rd1 x, H ++ [⟨t, ss, true⟩], []⟩)
    (hx : ∀ ρ' : List Nat, ρ'[Y.len H]? = some w.heap.size → repS ρ' c.R x v) : Eff c ρ Ψ w v (w.drew.alloc (.cells cs.toArray t)) := by
  have hd : Z.Good c w.drew H' := hw.drawn _
  obtain ⟨rs, ρ', H1', a1, a2, a3, a4, a5, a6, a7⟩ := eff_new (w := w.drew) (v := v) hH hd hcs h hx
  exact ⟨rs, ρ', H1', a1, a2, a3, a4, a5, ⟨a6.size, a6.block, a6.os, a6.tape, a6.output⟩, a7⟩
theorem cells1 {R : List Row} {id k : Nat} {l : List (Sh id)} {cs : List Value} (h : repG ρ R [.arr id k l] cs) : l.length = k ∧ A2 (repS ρ R) (l.flatMap (Sh.f id)) cs := ⟨h.1.1, by have := h.2; simpa [cellsOf] using this⟩
theorem newsO_sound (hH : repH ρ c.R H H') (hR : repR W c.R) {w : World} (hw : Z.Good c w H') {id s : Nat} (hs : Sh.sz id = s) {y : Sc} {v : Value} (hv : repS ρ c.R y v) {Φ : Nat × List (Sh id) → Prop} (h : (newsO H W id s y).all Φ) :
    ∃ (m : Nat) (nw : List (Sh id)) (ad : Addr) (cp : Nat) (news : List Value), v = .slice (some ad) m cp ∧ nw.length = m ∧ A2 (repS ρ c.R) (nw.flatMap (Sh.f id)) news ∧ (∀ j u, news[j]? = some u → w.cell? (ad.add j) = some u) ∧ Φ (m, nw) := by
  have hf := Sh.f_len id
  unfold newsO at h
  split at h
  · rename_i b sz eo m cap
    obtain ⟨B, hB, h⟩ := peel h
    obtain ⟨B', hB', hrep, hid⟩ := hH.nth hB
    split at h
    · rename_i _ id' k l hss
      obtain ⟨l', hl', h2⟩ := peel h
      clear h
      obtain ⟨rfl, e2⟩ := castL_eq hl'
      have e2 : l' = l := e2
      subst e2
      cases hq : Nat.beq sz s with
      | false => simp only [hq, cond_false] at h2; exact h2.elim
      | true =>
        simp only [hq, cond_true] at h2
        have hq := Nat.eq_of_beq_eq_true hq
        subst hq
        obtain ⟨ha, h⟩ := h2
        have h := h ha
        have hcs := hrep.cs
        rw [hss] at hcs
        obtain ⟨hlen, hcs⟩ := cells1 hcs
        obtain ⟨b', hb', rfl⟩ := hv
        rw [hid] at hb'
        cases hb'
        refine ⟨m, (l'.drop eo).take m, _, cap, (B'.cs.drop (eo * sz)).take (m * sz), rfl, by simp; omega, ?_, ?_, h⟩
        · rw [flat_tk (s := sz) (by rw [← hs]; exact hf), flat_dr (s := sz) (by rw [← hs]; exact hf)]
          exact (hcs.drop _).take _
        · intro j u hj
          rw [List.getElem?_take] at hj
          split at hj
          · rw [List.getElem?_drop] at hj
            have := hw.cell hB' hj
            rw [Addr.add_lit]; simpa using this
          · cases hj
    · exact h.elim
  · rename_i r sz eo m cap A
    obtain ⟨r0, hr0, h⟩ := peel h
    obtain ⟨id', l⟩ := r0
    obtain ⟨l', hl', h2⟩ := peel h
    clear h
    have e0 := castL_eq hl'
    simp only at e0
    obtain ⟨rfl, e2⟩ := e0
    have e2 : l' = l := e2
    subst e2
    cases hq : Nat.beq sz s with
    | false => simp only [hq, cond_false] at h2; exact h2.elim
    | true =>
      simp only [hq, cond_true] at h2
      have hq := Nat.eq_of_beq_eq_true hq
      subst hq
      obtain ⟨ha, h⟩ := h2
      have h := h ha
      obtain ⟨rfl, hA⟩ := hv
      obtain ⟨row, hrow, rfl⟩ := hA.resolve_left (by omega)
      rw [nth_eq] at hr0
      obtain ⟨row', hrow', hcs⟩ := hR.get hr0
      rw [hrow] at hrow'
      cases hrow'
      have hcs := hcs ρ c.R
      have hat := (hw.rows row (List.mem_of_getElem? hrow)).1
      refine ⟨m, (l'.drop eo).take m, _, cap, (row.cs.drop (eo * sz)).take (m * sz), rfl, by have := ha.2; simp at this ⊢; omega, ?_, ?_, h⟩
      · rw [flat_tk (s := sz) (by rw [← hs]; exact hf), flat_dr (s := sz) (by rw [← hs]; exact hf)]
        exact (hcs.drop _).take _
      · intro j u hj
        rw [List.getElem?_take] at hj
        split at hj
        · rw [List.getElem?_drop] at hj
          have := hat _ _ hj
          rw [Addr.add_lit]; simpa [Nat.add_assoc] using this
        · cases hj
  · exact h.elim
/-- a row grown into a block of its own -/
theorem grown_sound (hH : repH ρ c.R H H') {w : World} (hw : Z.Good c w H') {te id s n m : Nat} (hs : Sh.sz id = s) (hs0 : 0 < s) {ls nw : List (Sh id)} {Ψ : Rs → Prop} (h : (grownE H te id s n m ls nw).all Ψ) {zc : List Sc} {zv : List Value} {z0 : Sh id} (hz : Sh.un id zc = some z0) (hzv : A2 (repS ρ c.R) zc zv)
    (hln : ls.length = n) (hlm : nw.length = m) {olds news : List Value} (hol : A2 (repS ρ c.R) (ls.flatMap (Sh.f id)) olds) (hnw : A2 (repS ρ c.R) (nw.flatMap (Sh.f id)) news) {cap : Nat} (hcap : n + m ≤ cap) :
    Eff c ρ Ψ w (.slice (some ⟨w.heap.size, 0, none⟩) (n + m) cap) (w.drew.alloc (.cells (olds.toArray ++ news.toArray ++ Builtin.zeroCells zv.toArray (cap - (n + m))) te)) := by
  have hpad : A2 (repS ρ c.R) ((List.replicate (cap - (n + m)) z0).flatMap (Sh.f id)) (List.replicate (cap - (n + m)) zv).flatten := by
    have h1 := Sh.un_rep id hz hzv
    generalize cap - (n + m) = q
    induction q with
    | zero => exact .nil
    | succ q ih =>
      rw [List.replicate_succ, List.replicate_succ, List.flatMap_cons, List.flatten_cons]
      exact h1.app ih
  have hzc : (Builtin.zeroCells zv.toArray (cap - (n + m))).toList = (List.replicate (cap - (n + m)) zv).flatten := by
    unfold Builtin.zeroCells
    rw [Array.toList_map, Array.toList_range]
    exact flat_zero (cap - (n + m)) zv zv.length rfl (by rw [← (Sh.un_rep id hz hzv).len, Sh.f_len]; omega)
  have hall := h cap (ls ++ nw ++ List.replicate (cap - (n + m)) z0) ⟨hcap, by simp; omega, by rw [List.take_append_of_le_length (by simp; omega)]; exact List.take_of_length_le (by simp; omega)⟩
  have e : (olds.toArray ++ news.toArray ++ Builtin.zeroCells zv.toArray (cap - (n + m))) = (olds ++ news ++ (List.replicate (cap - (n + m)) zv).flatten).toArray := by
    apply Array.toList_inj.1
    simp [hzc]
  rw [e]
  refine eff_newD (x := .sl (Y.len H) 0 s 0 (n + m) cap) (ss := [.arr id cap (ls ++ nw ++ List.replicate (cap - (n + m)) z0)]) hH hw ⟨⟨by simp; omega, trivial⟩, ?_⟩ hall fun ρ' hρ => ⟨_, hρ, by simp⟩
  simp only [cellsOf, List.flatMap_append, List.append_nil]
  exact (hol.app hnw).app hpad
variable {cx : Ctx} (hcx : CtxOK P cx)
include hcx
theorem appE_sound (hH : repH ρ c.R H H') (hR : repR W c.R) {w : World} (hw : Z.Good c w H') {t : Nat} {x y : Sc} {u v : Value} (hu : repS ρ c.R x u) (hv : repS ρ c.R y v) {Ψ : Rs → Prop} (h : (appE cx H W t x y).all Ψ) (ty : TypeId) :
    ∃ v' w', (Builtin.append_ #[t, t] ty #[u, v]).run P w = .ok v' w' ∧ Eff c ρ Ψ w v' w' := by
  unfold appE at h
  obtain ⟨ti, hti, h⟩ := peel h
  split at h
  · rename_i te hd
    have hund := (hcx.ty _ _ hti).und
    rw [hd] at hund
    obtain ⟨el, hel, h1⟩ := peel h
    clear h
    obtain ⟨id, hid, h⟩ := peel h1
    clear h1
    obtain ⟨z, hz, h1⟩ := peel h
    clear h
    obtain ⟨zc, hzc, h⟩ := peel h1
    clear h1
    obtain ⟨z0, hz0, h1⟩ := peel h
    clear h
    cases hq : (Nat.beq (Sh.sz id) el.sz && Nat.blt 0 el.sz && Nat.ble el.sz 1024) with
    | false => simp only [hq, cond_false] at h1; exact h1.elim
    | true =>
    simp only [hq, cond_true] at h1
    simp only [Bool.and_eq_true] at hq
    have q1 := Nat.eq_of_beq_eq_true hq.1.1
    have q2 := blt_lt hq.1.2
    have q3 := Nat.le_of_ble_eq_true hq.2
    have hf := Sh.f_len id
    rw [q1] at hf
    obtain ⟨i, hi, hisz, hiby, hiz⟩ := (hcx.ty _ _ hel).info (w0 := w)
    obtain ⟨vz, hvz, hrz⟩ := hiz z hz
    obtain ⟨zv, hzv, hg⟩ := rep1.cells (hrz ρ c.R)
    have hzr := scOf_rep (v := vz) hzc hg
    obtain ⟨m, nw, ad, cp, news, rfl, hlm, hnw, hcell, h2⟩ := newsO_sound hH hR hw q1 hv (Tr.all_bind h1)
    clear h1
    have hnl : news.length = m * i.size := by rw [← hnw.len, flat_ln hf, hlm, hisz]
    have hb0 : i.bytes ≤ 32768 := by omega
    split at h2
    · -- none yet
      cases hu
      obtain ⟨ha, h⟩ := h2
      have h := h ha
      simp only at ha
      by_cases hm : m = 0
      · have hk := h.1 (by simp [hm])
        subst hm
        refine ⟨.slice none 0 0, w, ?_, _, ρ, H', hk, fun _ _ hb => hb, rfl, hH, hw, ⟨Nat.le_refl _, fun _ _ _ => rfl, rfl, rfl, rfl⟩, fun n b hn hb => by have := (List.getElem?_eq_some_iff.1 hb).1; omega⟩
        have hn : news = [] := List.eq_nil_of_length_eq_zero (by simpa using hnl)
        simp [Builtin.append_, run_underlying hund, sizeOf, typeInfo, hi, Builtin.lenOf, Builtin.firstCells, loadCells, loadCellsFrom]
      · have hk := h.2 (by simp [hm])
        have hby : m * i.bytes ≤ 65536 * 32768 := Nat.mul_le_mul ha hb0
        have hrun := run_append_nil (P := P) w t ty te i vz hund hi hvz ad m cp news hnl hcell (by omega) (by omega) (by omega)
        have hgc := grownCap_ge w m 0 te
        refine ⟨_, _, hrun, ?_⟩
        have hgs := grown_sound hH hw q1 q2 hk hz0 hzr rfl hlm (olds := []) .nil hnw (cap := grownCap w m 0 te) (by omega)
        simpa [hzv] using hgs
    · -- a block's
      rename_i b sz n cap
      obtain ⟨B, hB, h⟩ := peel h2
      clear h2
      obtain ⟨B', hB', hrep, hbid⟩ := hH.nth hB
      split at h
      · rename_i _ id' k l hss
        obtain ⟨l', hl', h2⟩ := peel h
        clear h
        obtain ⟨rfl, e2⟩ := castL_eq hl'
        have e2 : l' = l := e2
        subst e2
        cases hp : (Nat.beq sz el.sz && Nat.beq B.t te && B.wr) with
        | false => simp only [hp, cond_false] at h2; exact h2.elim
        | true =>
        simp only [hp, cond_true] at h2
        simp only [Bool.and_eq_true] at hp
        have p1 := Nat.eq_of_beq_eq_true hp.1.1
        have p2 := Nat.eq_of_beq_eq_true hp.1.2
        have p3 := hp.2
        subst p1
        obtain ⟨⟨a1, a2, a3⟩, h⟩ := h2
        have h := h ⟨a1, a2, a3⟩
        have hcs := hrep.cs
        rw [hss] at hcs
        obtain ⟨hlen, hcs⟩ := cells1 hcs
        obtain ⟨b', hb', rfl⟩ := hu
        rw [hbid] at hb'
        cases hb'
        have hcl : B'.cs.length = k * i.size := by rw [← hcs.len, flat_ln hf, hlen, hisz]
        have hhp := hw.has B' (List.mem_of_getElem? hB')
        rw [hrep.fz, hrep.t, p2] at hhp
        have hol : A2 (repS ρ c.R) ((l'.take n).flatMap (Sh.f id')) (B'.cs.take (n * i.size)) := by rw [flat_tk hf, hisz]; exact hcs.take _
        by_cases hroom : n + m ≤ cap
        · have hk := h.1 (by simpa using hroom)
          have hfit : n * i.size + news.length ≤ B'.cs.toArray.size := by
            rw [List.size_toArray, hcl, hnl, ← Nat.add_mul]; exact Nat.mul_le_mul_right _ (by omega)
          have hrun := run_append_room (P := P) w t ty te i hund hi B'.b n cap B'.cs.toArray hhp ad m cp news hnl hcell (fun u hu => plain_one (by
            obtain ⟨j, hj⟩ := List.getElem?_of_mem hu
            obtain ⟨_, _, hr⟩ := hnw.get' hj
            exact hr.plain)) hroom hfit
          simp only [Nat.zero_mul, Nat.add_zero] at hrun ⊢
          refine ⟨_, _, hrun, ?_⟩
          have hk := hk (l'.take n ++ nw ++ l'.drop (n + m)) ⟨by simp; omega, by rw [List.take_append_of_le_length (by simp; omega)]; exact List.take_of_length_le (by simp; omega)⟩
          have hrow := setRow_heap w B'.b B'.cs.toArray (B'.cs.toArray.toList.take (n * i.size) ++ news ++ B'.cs.toArray.toList.drop (n * i.size + news.length)).toArray te (0, 0) hhp
          refine eff_upd (x := .sl b 0 el.sz 0 (n + m) cap) hH hw hB hB' p3 (ss := [.arr id' k (l'.take n ++ nw ++ l'.drop (n + m))]) (cs := B'.cs.take (n * i.size) ++ news ++ B'.cs.drop (n * i.size + news.length)) ⟨⟨by simp; omega, trivial⟩, ?_⟩ ⟨_, hbid, by simp⟩ hk ?_ (fun q hq => setRow_other _ _ _ _ hq) (setRow_size _ _ _) rfl rfl rfl
          · simp only [cellsOf, List.flatMap_append, List.append_nil]
            refine (hol.app hnw).app ?_
            rw [flat_dr hf, hnl, ← Nat.add_mul, hisz]
            exact hcs.drop _
          · rw [hrow, hrep.t, hrep.fz, p2]
        · have hk := h.2 (by simpa using hroom)
          have hby : (n + m) * i.bytes ≤ 65536 * 32768 := Nat.mul_le_mul a3 hb0
          have hgc := grownCap_ge w (n + m) cap te
          have hl2 : (B'.cs.take (n * i.size)).length = n * i.size := by
            rw [List.length_take, hcl]; exact Nat.min_eq_left (Nat.mul_le_mul_right _ (by omega))
          have hrun := run_append_grow (P := P) w t ty te i vz hund hi hvz ⟨B'.b, 0, none⟩ n cap (B'.cs.take (n * i.size)) hl2 (fun j u hj => by
            rw [List.getElem?_take] at hj
            split at hj
            · rw [Addr.add_lit]; simpa using hw.cell hB' hj
            · cases hj) ad m cp news hnl hcell (by omega) (by omega) (growslice_fits (by omega) (by omega))
          simp only [Nat.zero_mul, Nat.add_zero] at hrun ⊢
          refine ⟨_, _, hrun, ?_⟩
          have hgs := grown_sound hH hw q1 q2 hk hz0 hzr (by simp; omega) hlm hol hnw (cap := grownCap w (n + m) cap te) (by omega)
          simpa [hzv] using hgs
      · exact h.elim
    · exact h2.elim
  · exact h.elim
end
end Go.Y

set_option linter.unusedSimpArgs false
set_option linter.unusedVariables false
namespace Go.Y
open Go.Z (Row Blk plainV Keep KeepP RowAt Fits runsTo Pre Cx TL TC TE Ends cxOf)
section
variable {P : Program} {cx : Ctx} (hcx : CtxOK P cx)
include hcx
omit hcx in
theorem repL_len {α : Type} (x : α) : ∀ n, (repL x n).length = n
  | 0 => rfl
  | n + 1 => by simp [repL, repL_len x n]
omit hcx in
theorem repL_flat {ρ : List Nat} {R : List Row} {id : Nat} {z : Sh id} {vs : List Value} (h : A2 (repS ρ R) (Sh.f id z) vs) : ∀ n, A2 (repS ρ R) ((repL z n).flatMap (Sh.f id)) (List.replicate n vs).flatten
  | 0 => .nil
  | n + 1 => by
    simp only [repL, List.flatMap_cons, List.replicate_succ, List.flatten_cons]
    exact h.app (repL_flat h n)
omit hcx in
theorem elemsV_sound {ρ : List Nat} {R : List Row} {e : Env} {e' : Z.Env} (he : repE ρ R e e') {id sz : Nat} {zs : List Sc} (hsz : sz = Sh.sz id) :
    ∀ {ps : List (Nat × Operand)} {l l' : List (Sh id)} {cs : List Value}, A2 (repS ρ R) (l.flatMap (Sh.f id)) cs → (ps.all fun p => Nat.blt p.1 l.length) = true → elemsV e id zs l ps = some l' →
      ∃ vs, Z.evp e' ps = some vs ∧ ∃ ds, Instr.fill (fun i => some (i * sz, sz)) cs.toArray vs = some ds.toArray ∧ A2 (repS ρ R) (l'.flatMap (Sh.f id)) ds ∧ l'.length = l.length
  | [], l, l', cs, hs, _, h => by
    cases h
    exact ⟨[], rfl, cs, rfl, hs, rfl⟩
  | (i, x) :: r, l, l', cs, hs, hlt, h => by
    simp only [List.all_cons, Bool.and_eq_true] at hlt
    have hi : i < l.length := blt_lt hlt.1
    simp only [elemsV] at h
    split at h
    · rename_i xs hxs
      rw [Option.bind_eq_some_iff] at hxs
      obtain ⟨x1, hx1, hx2⟩ := hxs
      split at h
      · rename_i z hz
        obtain ⟨u, hu, hr⟩ := ev1_rep he hx1
        obtain ⟨us, hc, hus⟩ := rep1.cells hr
        have hsc := scOf_rep (v := u) hx2 hus
        have hun := Sh.un_rep id hz hsc
        have hul : us.length = Sh.sz id := by rw [← hun.len, Sh.f_len]
        have hset := el_set hs hi hun
        rw [setAt_eq] at h
        have hcl : cs.length = l.length * Sh.sz id := by rw [← hs.len, flat_len]
        have hle : i * Sh.sz id + Sh.sz id ≤ cs.length := by
          rw [hcl]
          have := Nat.mul_le_mul_right (Sh.sz id) (show i + 1 ≤ l.length by omega)
          rwa [Nat.add_mul, Nat.one_mul] at this
        have hzs : Z.setL cs (i * Sh.sz id) us = cs.take (i * Sh.sz id) ++ us ++ cs.drop (i * Sh.sz id + Sh.sz id) := by
          rw [Zset_eq (by omega), hul]
        rw [← hzs] at hset
        obtain ⟨vs, e1, ds, e2, e3, e4⟩ := elemsV_sound he hsz hset (by simpa using hlt.2) h
        refine ⟨(i, u) :: vs, by simp [Z.evp, hu, e1], ds, ?_, e3, by rw [e4]; simp⟩
        simp only [Instr.fill]
        have hcs : u.cells.size = sz := by rw [hc, hsz]; simpa using hul
        have hcond : ¬ (u.cells.size ≠ sz || i * sz + u.cells.size > cs.toArray.size) = true := by
          rw [hcs, hsz]; simp; omega
        rw [if_neg (by simpa using hcond)]
        have hfold : (u.cells.zipIdx.foldl (fun cs (x : Value × Nat) => cs.setIfInBounds (i * sz + x.2) x.1) cs.toArray) = (Z.setL cs (i * sz) us).toArray := by
          apply Array.toList_inj.1
          rw [hc]
          have := Z.fold_setL us cs.toArray (i * sz) 0
          simpa using this
        rw [← e2]
        subst hsz
        congr 1
      · cases h
    · cases h
omit hcx in
theorem rep_flat {ρ : List Nat} {R : List Row} {id : Nat} {z : Sh id} {vs : List Value} (h : A2 (repS ρ R) (Sh.f id z) vs) : ∀ n, A2 (repS ρ R) ((List.replicate n z).flatMap (Sh.f id)) (List.replicate n vs).flatten
  | 0 => .nil
  | n + 1 => by
    simp only [List.flatMap_cons, List.replicate_succ, List.flatten_cons]
    exact h.app (rep_flat h n)
omit hcx in
theorem make_run {t te : TypeId} {el : TyI} (hund : P.underlying t = some (.slice te)) (htel : TyOK P te el) {z : V1} (hz : el.z = some z) {vz : Value} {cs : List Value} (hvz : ∀ w, (zeroValue te).run P w = .ok vz w) (hcs : vz.cells = cs.toArray) (hcl : cs.length = el.sz) (h0 : 0 < el.sz) (h1 : el.sz ≤ 1024)
    {k k' : IntKind} {n m : Int} (h : 0 ≤ n ∧ n ≤ m ∧ m ≤ 65536) (w : World) : (Instr.makeSlice t (.int k n) (.int k' m)).run P w = .ok (.slice (some ⟨w.heap.size, 0, none⟩) n.toNat m.toNat) (w.alloc (.cells ((List.replicate m.toNat cs).flatten).toArray te)) := by
  obtain ⟨i, hi, hsz, hby, _⟩ := htel.info (w0 := w)
  have wn : IntKind.i64.wrap n = n := Z.wI64 (by omega)
  have wm : IntKind.i64.wrap m = m := Z.wI64 (by omega)
  have hb1 : i.bytes ≤ 32768 := by omega
  have hbn : ((i.bytes : Nat) : Int) * n ≤ 32768 * 65536 := Int.mul_le_mul (by omega) (by omega) h.1 (by omega)
  have hbm : ((i.bytes : Nat) : Int) * m ≤ 32768 * 65536 := Int.mul_le_mul (by omega) (by omega) (by omega) (by omega)
  have hroom : ¬ m.toNat * i.bytes > roomBytes := by
    have : m.toNat * i.bytes ≤ 65536 * 32768 := Nat.mul_le_mul (by omega) hb1
    unfold roomBytes; omega
  have hc1 : (decide (m < 0) || decide (((i.bytes : Nat) : Int) * m > 2 ^ 48)) = false := by
    simp only [Bool.or_eq_false_iff, decide_eq_false_iff_not]; omega
  have hc2 : ¬ n < 0 := by omega
  have hc3 : ¬ n > m := by omega
  have hti : (typeInfo te).run P w = .ok i w := by simp [typeInfo, hi]
  have hfl := flat_zero m.toNat cs el.sz hcl h0
  have hmap : (Array.range (m.toNat * el.sz)).map (fun j => cs.toArray[j % cs.toArray.size]!) = ((List.replicate m.toNat cs).flatten).toArray := Array.toList_inj.1 (by rw [Array.toList_map, Array.toList_range, hfl])
  have hai : ∀ (k : IntKind) (x : Int), (asInt (.int k x)).run P w = .ok x w := fun k x => by simp [asInt, asIntOf]
  unfold Instr.makeSlice
  by_cases hm0 : m.toNat = 0
  · have hm1 : m = 0 := by omega
    have hn1 : n = 0 := by omega
    subst hm1
    subst hn1
    have hc4 : ¬ (0 : Int) < 0 := by omega
    simp only [Sem.run_bind, run_underlying hund, Result.andThen_ok, hti, hai, Sem.run_pure, wm, hc1, gt_iff_lt, decide_eq_false hc4, Bool.or_self, Bool.false_eq_true, if_false, askRoom, if_neg hroom, htel.size w]
    have hr0 : Array.range 0 = #[] := Array.toList_inj.1 (by simp)
    simp [newRow, htel.size w, hr0]
  · have hne : ¬ m.toNat * el.sz = 0 := by
      intro h0
      rcases Nat.mul_eq_zero.1 h0 with h0 | h0 <;> omega
    simp only [Sem.run_bind, run_underlying hund, Result.andThen_ok, hti, hai, Sem.run_pure, wn, wm, hc1, decide_eq_false hc2, decide_eq_false hc3, Bool.or_self, Bool.false_eq_true, if_false, askRoom, if_neg hroom, htel.size w, if_neg hne, hvz w, hcs, hmap]
    simp [newRow]
theorem opE_sound {c : Cx} {ρ : List Nat} {e : Env} {e' : Z.Env} {H : List Bk} {H' : List Blk} {W : List Rw} (he : repE ρ c.R e e') (hH : repH ρ c.R H H') (hR : repR W c.R) {op : Op} {Ψ : Rs → Prop} (h : (opE cx e H W op).all Ψ)
    {N : Nat} {o : Oper} {a : Act} {w : World} (ho : o.op = op) (ha : Fits N a e') (hw : Z.Good c w H') : runsTo P o a w fun v w' => Eff c ρ Ψ w v w' := by
  unfold opE at h
  split at h
  · -- store
    obtain ⟨ti, hti, h⟩ := peel h
    obtain ⟨y, hy, h⟩ := peel h
    obtain ⟨x, hx, h⟩ := peel h
    obtain ⟨vy, h1, r1⟩ := ev1_rep he hy
    obtain ⟨vx, h2, r2⟩ := evS_rep he hx
    obtain ⟨w', hrun, heff⟩ := storeE_sound (hcx.ty _ _ hti) hH r1 r2 h hw
    have : (execOp a.eval o).run P w = .ok .skip w' := by simp [execOp, ho, ha.ev h1, ha.ev h2, hrun]
    unfold runsTo
    rw [this]
    exact heff
  · -- box
    rename_i t x
    obtain ⟨y, hy, h⟩ := peel h
    obtain ⟨vy, h1, r1⟩ := ev1_rep he hy
    obtain ⟨cs, hcs, hg⟩ := rep1.cells r1
    have : (execOp a.eval o).run P w = .ok (.value (.pointer (some ⟨w.heap.size, 0, none⟩))) (w.alloc (.cells cs.toArray t)) := by
      simp [execOp, ho, ha.ev h1, Instr.box, newVar, newRow, hcs]
    unfold runsTo
    rw [this]
    exact eff_new (x := .p (Y.len H) 0) (ss := segsOf y) hH hw hg h fun ρ' hρ => ⟨_, hρ, rfl⟩
  · -- alloc
    rename_i t
    obtain ⟨ti, hti, h⟩ := peel h
    obtain ⟨z, hz, h⟩ := peel h
    obtain ⟨vz, hvz, hrz⟩ := (hcx.ty _ _ hti).zero z hz
    obtain ⟨cs, hcs, hg⟩ := rep1.cells (hrz ρ c.R)
    have : (execOp a.eval o).run P w = .ok (.value (.pointer (some ⟨w.heap.size, 0, none⟩))) (w.alloc (.cells cs.toArray t)) := by
      simp [execOp, ho, Instr.alloc, newVar, newRow, hcs, hvz w]
    unfold runsTo
    rw [this]
    exact eff_new (x := .p (Y.len H) 0) (ss := segsOf z) hH hw hg h fun ρ' hρ => ⟨_, hρ, rfl⟩
  · -- buildSlice
    rename_i t n ps
    obtain ⟨⟨nn, el⟩, hel, h⟩ := peel h
    obtain ⟨elt, htel, hT⟩ := elemO_spec hcx hel
    obtain ⟨z, hz, h⟩ := peel h
    obtain ⟨id, hid, h⟩ := peel h
    obtain ⟨z0, hz0, h⟩ := peel h
    obtain ⟨l, hl, h⟩ := peel h
    obtain ⟨ti, hti, h⟩ := peel h
    split at h
    · rename_i t' hd
      cases hq : (Nat.beq (Sh.sz id) el.sz && Nat.ble (n * el.sz) 16777216 && Nat.blt 0 el.sz && ps.toList.all fun p => Nat.blt p.1 n) with
      | false => simp only [hq, cond_false] at h; exact h.elim
      | true =>
        simp only [hq, cond_true] at h
        simp only [Bool.and_eq_true] at hq
        obtain ⟨⟨⟨q1, q3⟩, q4⟩, q5⟩ := hq
        have q1 := Nat.eq_of_beq_eq_true q1
        have q3 := Nat.le_of_ble_eq_true q3
        have q4 := blt_lt q4
        have hund := (hcx.ty _ _ hti).und
        rw [hd] at hund
        obtain ⟨vz, hvz, hrz⟩ := htel.zero z hz
        obtain ⟨cs, hcs, hg⟩ := rep1.cells (hrz ρ c.R)
        rw [Option.bind_eq_some_iff] at hz0
        obtain ⟨zc, hzc, hzu⟩ := hz0
        have hun := Sh.un_rep id hzu (scOf_rep (v := vz) hzc hg)
        have hcl : cs.length = el.sz := by rw [← hun.len, Sh.f_len, q1]
        have hte : t' = elt := by
          rcases hT with ⟨m, _, e2⟩ | ⟨_, e2⟩
          · rw [hund] at e2; cases e2
          · rw [hund] at e2; cases e2; rfl
        subst hte
        have hfin := h
        have hr0 : Array.range 0 = #[] := Array.toList_inj.1 (by simp)
        rcases Nat.eq_zero_or_pos n with hn0 | q2
        · subst hn0
          have hps : ps.toList = [] := by
            cases hh : ps.toList with
            | nil => rfl
            | cons p r =>
              rw [hh] at q5
              simp only [List.all_cons, Bool.and_eq_true] at q5
              exact absurd (blt_lt q5.1) (Nat.not_lt_zero _)
          have hps' : ps = #[] := Array.toList_inj.1 hps
          subst hps'
          have hl0 : l = [] := by
            simp only [hps, elemsV, repL, Option.some.injEq] at hl
            exact hl.symm
          subst hl0
          have : (execOp a.eval o).run P w = .ok (.value (.slice (some ⟨w.heap.size, 0, none⟩) 0 0)) (w.alloc (.cells ([] : List Value).toArray t')) := by
            simp [execOp, ho, Instr.buildSlice, run_underlying hund, htel.size w, Instr.fill, newRow, hr0]
          unfold runsTo
          rw [this]
          exact eff_new (x := .sl (Y.len H) 0 el.sz 0 0 0) (ss := [.arr id 0 []]) hH hw ⟨⟨rfl, trivial⟩, .nil⟩ hfin fun ρ' hρ => ⟨_, hρ, by simp⟩
        · skip
          obtain ⟨vs, e1, ds, e2, e3, e4⟩ := elemsV_sound he q1.symm (repL_flat hun n) (by rw [repL_len]; exact q5) hl
          have h0 := flat_zero n cs el.sz hcl q4
          have h1 : ps.map (fun (i, x) => (i, a.eval x)) = vs.toArray := Array.toList_inj.1 (by rw [Array.toList_map]; exact ha.evp e1)
          have h3 : (Array.range (n * el.sz)).map (fun i => cs.toArray[i % cs.toArray.size]!) = ((List.replicate n cs).flatten).toArray := by
            apply Array.toList_inj.1
            rw [Array.toList_map, Array.toList_range, h0]
          have hle' : ¬ n * el.sz > 2 ^ 24 := by omega
          have hnz' : ¬ n * el.sz = 0 := by
            intro h0
            rcases Nat.mul_eq_zero.1 h0 with h0 | h0 <;> omega
          have : (execOp a.eval o).run P w = .ok (.value (.slice (some ⟨w.heap.size, 0, none⟩) n n)) (w.alloc (.cells ds.toArray t')) := by
            simp only [execOp, ho, h1, Instr.buildSlice, Sem.run_bind, run_underlying hund, Result.andThen_ok, htel.size w, if_neg hle', if_neg hnz', hvz w, hcs, Sem.run_pure, h3, e2]
            simp [newRow]
          unfold runsTo
          rw [this]
          refine eff_new (x := .sl (Y.len H) 0 el.sz 0 n n) (ss := [.arr id n l]) hH hw ⟨⟨by rw [e4, repL_len], trivial⟩, by simpa [cellsOf] using e3⟩ h fun ρ' hρ => ⟨_, hρ, by simp⟩
    · exact h.elim
  · -- a call
    rename_i cl
    obtain ⟨ce, xs, ts⟩ := cl
    simp only at h
    unfold opC at h
    split at h
    · rename_i f
      split at h
      · rename_i con hcon
        obtain ⟨hok, hcall⟩ := hcx.con _ _ hcon
        cases hro : con.ro with
        | true => simp only [hro, cond_true] at h; exact h.elim
        | false =>
          simp only [hro, cond_false] at h
          obtain ⟨vs, hvs, h⟩ := peel h
          obtain ⟨us, hus, hr⟩ := evs_rep he hvs
          have hargs : xs.map a.eval = us.toArray := by
            rw [← ha.evs hus]
            exact Array.toList_inj.1 (by rw [Array.toList_map])
          have hrun : (execOp a.eval o).run P w = .ok (.enter f us.toArray) w := by
            simp [execOp, ho, resolve, hargs, Act.eval, Deferred.ofValue, invoke, hcall]
          unfold runsTo
          rw [hrun]
          exact callE_sound hok hro h hr hH hR hw
      · exact h.elim
    · split at h
      · unfold appA at h
        split at h
        · rename_i x y t t' hxs hts
          cases hb : Nat.beq t t' with
          | false => simp only [hb, cond_false] at h; exact h.elim
          | true =>
            simp only [hb, cond_true] at h
            obtain rfl := Nat.eq_of_beq_eq_true hb
            obtain ⟨sx, hsx, h1⟩ := peel h
            clear h
            obtain ⟨sy, hsy, h⟩ := peel h1
            clear h1
            obtain ⟨vx, h2, r2⟩ := evS_rep he hsx
            obtain ⟨vy, h3, r3⟩ := evS_rep he hsy
            have hx' : xs = #[x, y] := Array.toList_inj.1 (by simpa using hxs)
            have ht' : ts = #[t, t] := Array.toList_inj.1 (by simpa using hts)
            subst hx'
            subst ht'
            obtain ⟨v', w', hr, heff⟩ := appE_sound (P := P) hcx hH hR hw r2 r3 h o.type
            have : (execOp a.eval o).run P w = .ok (.value v') w' := by
              unfold execOp
              simp only [ho, resolve, invoke, builtin, Sem.run_bind, Sem.run_pure, Result.andThen_ok, List.map_toArray, List.map_cons, List.map_nil, ha.ev h2, ha.ev h3, hr]
            unfold runsTo
            rw [this]
            exact heff
        · exact h.elim
      · exact h.elim
    · exact h.elim
  · -- makeSlice
    rename_i t l cp
    obtain ⟨⟨nn, el⟩, hel, h1⟩ := peel h
    clear h
    obtain ⟨elt, htel, hT⟩ := elemO_spec hcx hel
    obtain ⟨z, hz, h⟩ := peel h1
    clear h1
    obtain ⟨id, hid, h1⟩ := peel h
    clear h
    obtain ⟨z0, hz0, h⟩ := peel h1
    clear h1
    obtain ⟨sl, hsl, h1⟩ := peel h
    clear h
    obtain ⟨sc, hsc', h⟩ := peel h1
    clear h1
    obtain ⟨ti, hti, h1⟩ := peel h
    clear h
    unfold makeE at h1
    split at h1
    · rename_i te hd
      split at h1
      · rename_i k n k' m
        cases hq : (Nat.beq (Sh.sz id) el.sz && Nat.blt 0 el.sz && Nat.ble el.sz 1024) with
        | false => simp only [hq, cond_false] at h1; exact h1.elim
        | true =>
          simp only [hq, cond_true] at h1
          simp only [Bool.and_eq_true] at hq
          have q1 := Nat.eq_of_beq_eq_true hq.1.1
          have q2 := blt_lt hq.1.2
          have q3 := Nat.le_of_ble_eq_true hq.2
          obtain ⟨ha', h⟩ := h1
          have h := h ha'
          have hund := (hcx.ty _ _ hti).und
          rw [hd] at hund
          have hte : te = elt := by
            rcases hT with ⟨m, _, e2⟩ | ⟨_, e2⟩
            · rw [hund] at e2; cases e2
            · rw [hund] at e2; cases e2; rfl
          subst hte
          obtain ⟨vz, hvz, hrz⟩ := htel.zero z hz
          obtain ⟨cs, hcs, hg⟩ := rep1.cells (hrz ρ c.R)
          rw [Option.bind_eq_some_iff] at hz0
          obtain ⟨zc, hzc, hzu⟩ := hz0
          have hun := Sh.un_rep id hzu (scOf_rep (v := vz) hzc hg)
          have hcl : cs.length = el.sz := by rw [← hun.len, Sh.f_len, q1]
          obtain ⟨vl, h2, r2⟩ := evS_rep he hsl
          obtain ⟨vc, h3, r3⟩ := evS_rep he hsc'
          cases r2
          cases r3
          have hrun := make_run (P := P) hund htel hz hvz hcs hcl q2 q3 (k := k) (k' := k') ha' w
          have : (execOp a.eval o).run P w = .ok (.value (.slice (some ⟨w.heap.size, 0, none⟩) n.toNat m.toNat)) (w.alloc (.cells ((List.replicate m.toNat cs).flatten).toArray te)) := by
            simp only [execOp, ho, ha.ev h2, ha.ev h3, Sem.run_bind, hrun, Result.andThen_ok, Sem.run_pure]
          unfold runsTo
          rw [this]
          exact eff_new (x := .sl (Y.len H) 0 el.sz 0 n.toNat m.toNat) (ss := [.arr id m.toNat (List.replicate m.toNat z0)]) hH hw ⟨⟨by simp, trivial⟩, by simpa [cellsOf] using rep_flat hun m.toNat⟩ h fun ρ' hρ => ⟨_, hρ, by simp⟩
      · exact h1.elim
    · exact h1.elim
  · exact h.elim
end
end Go.Y

set_option linter.unusedSimpArgs false
set_option linter.unusedVariables false
namespace Go.Y
open Go.Z (Row Blk plainV Keep KeepP RowAt Fits runsTo Pre Cx TL TC TE Ends cxOf)
section
variable {P : Program} {cx : Ctx} (hcx : CtxOK P cx) {c : Cx} {ρ0 : List Nat} {N : Nat} {W : List Rw}
theorem cons_rep {ρ : List Nat} {R : List Row} {e : Env} {e' : Z.Env} (he : repE ρ R e e') {d : Nat} {x : SV} {v : Value} (hx : repV ρ R x v) : repE ρ R ((d, x) :: e) ((d, v) :: e') := fun t y hy => by
  simp only [lk, Z.lk] at hy ⊢
  cases hb : Nat.beq d t with
  | true => simp only [hb, cond_true, Option.some.injEq] at hy ⊢; subst hy; exact ⟨v, rfl, hx⟩
  | false => simp only [hb, cond_false] at hy ⊢; exact he t y hy
theorem updO_rep {ρ : List Nat} {R : List Row} {e : Env} {e' : Z.Env} (he : repE ρ R e e') {d : Option Nat} {x : SV} {v : Value} (hx : repV ρ R x v) : repE ρ R (updO e d x) (Z.updO e' d v) := by
  cases d with
  | none => exact he
  | some d => exact cons_rep he hx
theorem mem_of_good {w : World} {H' : List Blk} (hw : Z.Good c w H') (rd : List Nat) (rr : Bool) : Mem H' c.R rd rr w :=
  ⟨fun _ _ B hB => hw.has B (List.mem_of_getElem? hB), fun _ r hr => (hw.rows r hr).1⟩
def Ext (ρ ρ' : List Nat) : Prop := ∀ (n b : Nat), ρ[n]? = some b → ρ'[n]? = some b
theorem Ext.refl (ρ : List Nat) : Ext ρ ρ := fun _ _ h => h
theorem Ext.trans {a b c : List Nat} (h : Ext a b) (k : Ext b c) : Ext a c := fun n x hx => k n x (h n x hx)
def After (c : Cx) (ρ : List Nat) (Φ : St → Prop) (e' : Z.Env) (d : Option Nat) (v : Value) (w' : World) : Prop :=
  ∃ (st : St) (ρ' : List Nat) (H1' : List Blk), Φ st ∧ Ext ρ ρ' ∧ repE ρ' c.R st.1 (Z.updO e' d v) ∧ repH ρ' c.R st.2 H1' ∧ Z.Good c w' H1'
include hcx in
theorem step_sound {ρ : List Nat} {e : Env} {e' : Z.Env} {H : List Bk} {H' : List Blk} (he : repE ρ c.R e e') (hH : repH ρ c.R H H') (hR : repR W c.R) {o : Oper} {Φ : St → Prop} (h : (step cx o e H W).all Φ) {a : Act} {w : World} (ha : Fits N a e') (hw : Z.Good c w H') :
    runsTo P o a w fun v w' => After c ρ Φ e' o.dst v w' := by
  unfold step at h
  cases hq : quiet cx o.op with
  | true =>
    simp only [hq, cond_true] at h
    have h := Tr.all_bind h
    obtain ⟨sv, v, h1, h2, h3⟩ := opV_sound hcx he hH hR hw.nodup h ha (mem_of_good hw _ _)
    refine (h3 o a w rfl ha (mem_of_good hw _ _)).mono fun v' w' ⟨e1, hk⟩ => ?_
    subst e1
    exact ⟨_, ρ, H', h1, Ext.refl _, updO_rep he h2, hH, hw.ext hk⟩
  | false =>
    simp only [hq, cond_false] at h
    have h := Tr.all_bind h
    refine (opE_sound hcx he hH hR h rfl ha hw).mono fun v w' ⟨rs, ρ', H1', h1, h2, h3, h4, h5, _, _⟩ => ?_
    exact ⟨_, ρ', H1', h1, h2, updO_rep (he.mono h2) h3, h4, h5⟩
theorem wp_of_runs {o : Oper} {a : Act} {w : World} {K' : Value → World → Prop} {K : Act → World → Prop} {Q : Exit → Act → World → Prop} (h : runsTo P o a w K') (hk : ∀ v w', K' v w' → K (a.put o.dst v) w') : o.wp P a w K Q := by
  unfold Oper.wp
  unfold runsTo at h
  generalize (execOp a.eval o).run P w = r at h
  cases r with
  | ok n w' =>
    cases n <;> simp only [Oper.upon] at h ⊢ <;> first | exact h.elim | exact hk _ _ h | skip
    · exact h.mono fun en w'' ⟨v, he, hv⟩ => by subst he; exact hk _ _ hv
    · exact h.mono fun v w'' hv => hk _ _ hv
  | halt x w' => exact h.elim
variable {ops : Array Oper} {Q : Exit → Act → World → Prop}
/-- operations from known slots and blocks on -/
def YL (P : Program) (c : Cx) (ρ0 : List Nat) (ops : Array Oper) (Q : Exit → Act → World → Prop) (N : Nat) (l : List Oper) (e : Env) (H : List Bk) : Prop :=
  ∀ (ρ : List Nat) (e' : Z.Env) (H' : List Blk), Ext ρ0 ρ → repE ρ c.R e e' → repH ρ c.R H H' → TL P c ops Q N l e' H'
theorem dOk_spec {d : Option Nat} (h : dOk N d = true) : ∀ t, d = some t → Nat.blt t N = true := fun t e => by subst e; exact h
include hcx in
theorem YL.step (hR : repR W c.R) {o : Oper} {r : List Oper} {e : Env} {H : List Bk} (hd : dOk N o.dst = true) (hg : o.guard = none) (h : (step cx o e H W).all fun st => YL P c ρ0 ops Q N r st.1 st.2) : YL P c ρ0 ops Q N (o :: r) e H := fun ρ e' H' hx0 he hH a w ha hw =>
  wpList_plain hg fun K hK => wp_of_runs (step_sound hcx he hH hR h ha hw) fun v w' ⟨st, ρ', H1', h1, hx1, h2, h3, h4⟩ => hK _ _ (h1 ρ' _ H1' (hx0.trans hx1) h2 h3 _ _ (ha.putO v (dOk_spec hd)) h4)
/-- one value says what another one says -/
def Same (x y : SV) : Prop := ∀ (ρ : List Nat) (R : List Row) (u : Value), repV ρ R x u → repV ρ R y u
theorem Same.refl (x : SV) : Same x x := fun _ _ _ h => h
def Sub (e1 e : Env) : Prop := ∀ t v, lk e1 t = some v → ∃ v', lk e t = some v' ∧ Same v' v
theorem YL.weaken {l : List Oper} {e e1 : Env} {H : List Bk} (hs : Sub e1 e) (h : YL P c ρ0 ops Q N l e1 H) : YL P c ρ0 ops Q N l e H := fun ρ e' H' hx0 he hH =>
  h ρ e' H' hx0 (fun t x hx => by
    obtain ⟨x', h1, h2⟩ := hs t x hx
    obtain ⟨v, h3, h4⟩ := he t x' h1
    exact ⟨v, h3, h2 _ _ _ h4⟩) hH
theorem lk_cons (k t : Nat) (v : SV) (e : Env) : lk ((k, v) :: e) t = if k = t then some v else lk e t := by
  simp only [lk]
  by_cases h : k = t
  · subst h; simp [Nat.beq_refl]
  · rw [if_neg h, Z.beq_ne h]; rfl
theorem lk_dropD (ds : List Nat) (t : Nat) : ∀ (e : Env), lk (dropD ds e) t = if t ∈ ds then none else lk e t
  | [] => by simp [dropD, lk]
  | (k, v) :: r => by
    simp only [dropD]
    cases hm : mem k ds with
    | true =>
      simp only [cond_true, lk_dropD ds t r, lk_cons]
      have hk := mem_iff.1 hm
      by_cases ht : t ∈ ds
      · rw [if_pos ht, if_pos ht]
      · rw [if_neg ht, if_neg ht, if_neg (fun he => by subst he; exact ht hk)]
    | false =>
      simp only [cond_false, lk_cons, lk_dropD ds t r]
      by_cases h : k = t
      · subst h
        have : k ∉ ds := fun h => by rw [mem_iff.2 h] at hm; cases hm
        simp [this]
      · simp [h]
theorem yielded_of' {ops : Array Oper} {a : Act} {j s : Nat} {b : Bool} {e' : Z.Env} (hj : gslot ops.toList j = some s) : (ops[j]?).bind (·.dst) = some s := by
  unfold gslot at hj
  rw [nth_eq] at hj
  simpa using hj
theorem mrgF_all {b x : Bool} {Ψ : Bool → Prop} : ∀ {u : Tr Bool}, (mrgF b x u).all Ψ → (b = true → Ψ x) ∧ (b = false → u.all Ψ)
  | .ret y, h => by
    cases b
    · exact ⟨fun e => (by cases e), fun _ => h⟩
    · exact ⟨fun _ => h, fun e => (by cases e)⟩
  | .ass p u, h => by
    obtain ⟨h1, h2⟩ := h
    obtain ⟨h3, h4⟩ := mrgF_all (h2 h1)
    exact ⟨h3, fun hb => ⟨h1 hb, fun _ => h4 hb⟩⟩
  | .ite _ _ _, h => h
  | .both _ _, h => h
  | .hyp _ _, h => h
  | .any _ _, h => h
  | .stuck _, h => h
theorem mrgT_all {b : Bool} {Ψ : Bool → Prop} : ∀ {t u : Tr Bool}, (mrgT b t u).all Ψ → (b = true → t.all Ψ) ∧ (b = false → u.all Ψ)
  | .ret x, u, h => mrgF_all h
  | .ass p t, u, h => by
    obtain ⟨h1, h2⟩ := h
    obtain ⟨h3, h4⟩ := mrgT_all (h2 h1)
    exact ⟨fun hb => ⟨h1 hb, fun _ => h3 hb⟩, h4⟩
  | .ite _ _ _, _, h => h
  | .both _ _, _, h => h
  | .hyp _ _, _, h => h
  | .any _ _, _, h => h
  | .stuck _, _, h => h
/-- what a calm row of operations leaves -/
def Inv (H : List Bk) (ds : List Nat) (e : Env) (st : St) : Prop := st.2 = H ∧ ∀ t v, t ∉ ds → lk e t = some v → ∃ v', lk st.1 t = some v' ∧ Same v' v
theorem all_map {α : Type} {K K' : α → Prop} (hk : ∀ x, K x → K' x) {t : Tr α} (h : t.all K) : t.all K' := Tr.all_mono hk h
theorem lk_updO {e : Env} {d : Option Nat} {v : SV} {t : Nat} (h : ∀ k, d = some k → k ≠ t) : lk (updO e d v) t = lk e t := by
  cases d with
  | none => rfl
  | some d => rw [updO, lk_cons, if_neg (h d rfl)]
theorem dsts_cons {n : Nat} {o : Oper} {r : List Oper} {t : Nat} (h : t ∉ dsts (n + 1) (o :: r)) : (∀ k, o.dst = some k → k ≠ t) ∧ t ∉ dsts n r := by
  simp only [dsts] at h
  split at h
  · rename_i d hd
    simp only [List.mem_cons, not_or] at h
    exact ⟨(fun k hk => by rw [hd] at hk; cases hk; exact fun e => h.1 e.symm), h.2⟩
  · rename_i hd
    exact ⟨(fun k hk => by rw [hd] at hk; cases hk), h⟩
theorem dsts_sub {t : Nat} : ∀ {k n : Nat} {l : List Oper}, k ≤ n → t ∉ dsts n l → t ∉ dsts k l
  | 0, _, _, _, _ => by simp [dsts]
  | k + 1, n + 1, [], _, h => by simp [dsts]
  | k + 1, n + 1, o :: r, hk, h => by
    have h1 := dsts_cons h
    simp only [dsts]
    split
    · rename_i d hd
      simp only [List.mem_cons, not_or]
      exact ⟨fun e => h1.1 d hd e.symm, dsts_sub (by omega) h1.2⟩
    · exact dsts_sub (by omega) h1.2
  | k + 1, 0, _, hk, _ => by omega
theorem dsts_at {t : Nat} : ∀ {k n : Nat} {l : List Oper} {d : Nat}, k < n → (nth l k).bind (·.dst) = some d → t ∉ dsts n l → d ≠ t
  | 0, n + 1, o :: r, d, _, hd, h => (dsts_cons h).1 d hd
  | k + 1, n + 1, o :: r, d, hk, hd, h => dsts_at (k := k) (l := r) (by omega) hd (dsts_cons h).2
  | k, n, [], d, _, hd, _ => by cases k <;> cases hd
  | _, 0, _, _, hk, _, _ => by omega
theorem dsts_drop {t : Nat} : ∀ {k n : Nat} {l : List Oper}, t ∉ dsts (k + n) l → t ∉ dsts n (l.drop k)
  | 0, n, l, h => by simpa using h
  | k + 1, n, [], h => by cases n <;> simp [dsts]
  | k + 1, n, o :: r, h => by
    rw [show k + 1 + n = (k + n) + 1 by omega] at h
    exact dsts_drop (l := r) (dsts_cons h).2
theorem calm_drop {cx : Ctx} : ∀ {k n : Nat} {l : List Oper}, calm cx (k + n) l = true → calm cx n (l.drop k) = true
  | 0, n, l, h => by simpa using h
  | k + 1, n, [], h => by rw [show k + 1 + n = (k + n) + 1 by omega] at h; cases h
  | k + 1, n, o :: r, h => by
    rw [show k + 1 + n = (k + n) + 1 by omega] at h
    simp only [calm, Bool.and_eq_true] at h
    exact calm_drop (l := r) h.2
def _root_.Go.Y.Tr.wall {α : Type} (K : α → Prop) : Tr α → Prop
  | .ret x => K x
  | .ite b t f => (b = true → t.wall K) ∧ (b = false → f.wall K)
  | .ass p t => p → t.wall K
  | .both t f => t.wall K ∧ f.wall K
  | .hyp p t => p → t.wall K
  | .any _ h => ∀ x, (h x).wall K
  | .stuck _ => True
theorem all_wall {α : Type} {A B : α → Prop} : ∀ {t : Tr α}, t.all A → t.wall B → t.all fun x => A x ∧ B x
  | .ret _, h, h' => ⟨h, h'⟩
  | .ite _ _ _, h, h' => ⟨fun hb => all_wall (h.1 hb) (h'.1 hb), fun hb => all_wall (h.2 hb) (h'.2 hb)⟩
  | .ass _ _, h, h' => ⟨h.1, fun hp => all_wall (h.2 hp) (h' hp)⟩
  | .both _ _, h, h' => ⟨all_wall h.1 h'.1, all_wall h.2 h'.2⟩
  | .hyp _ _, h, h' => fun hp => all_wall (h hp) (h' hp)
  | .any _ _, h, h' => fun x => all_wall (h x) (h' x)
  | .stuck _, h, _ => h.elim
theorem wall_bind {α β : Type} {K : β → Prop} {g : α → Tr β} (h : ∀ x, (g x).wall K) : ∀ (t : Tr α), (t.bind g).wall K
  | .ret x => h x
  | .ite _ t f => ⟨fun _ => wall_bind h t, fun _ => wall_bind h f⟩
  | .ass _ t => fun _ => wall_bind h t
  | .both t f => ⟨wall_bind h t, wall_bind h f⟩
  | .hyp _ t => fun _ => wall_bind h t
  | .any _ f => fun x => wall_bind h (f x)
  | .stuck _ => trivial
theorem wall_assoc {α β γ : Type} {K : γ → Prop} {g : α → Tr β} {g' : β → Tr γ} (h : ∀ x, ((g x).bind g').wall K) : ∀ (t : Tr α), ((t.bind g).bind g').wall K
  | .ret x => h x
  | .ite _ t f => ⟨fun _ => wall_assoc h t, fun _ => wall_assoc h f⟩
  | .ass _ t => fun _ => wall_assoc h t
  | .both t f => ⟨wall_assoc h t, wall_assoc h f⟩
  | .hyp _ t => fun _ => wall_assoc h t
  | .any _ f => fun x => wall_assoc h (f x)
  | .stuck _ => trivial
theorem wall_mono {α : Type} {K K' : α → Prop} (hk : ∀ x, K x → K' x) : ∀ {t : Tr α}, t.wall K → t.wall K'
  | .ret _, h => hk _ h
  | .ite _ _ _, h => ⟨fun hb => wall_mono hk (h.1 hb), fun hb => wall_mono hk (h.2 hb)⟩
  | .ass _ _, h => fun hp => wall_mono hk (h hp)
  | .both _ _, h => ⟨wall_mono hk h.1, wall_mono hk h.2⟩
  | .hyp _ _, h => fun hp => wall_mono hk (h hp)
  | .any _ _, h => fun x => wall_mono hk (h x)
  | .stuck _, _ => trivial
theorem wall_step {o : Oper} {e : Env} {H : List Bk} {K : St → Prop} {g : St → Tr St} (hq : quiet cx o.op = true) (h : ∀ v, (g (updO e o.dst v, H)).wall K) : ((step cx o e H W).bind g).wall K := by
  unfold step
  simp only [hq, cond_true]
  exact wall_assoc (fun v => h v) _
theorem Inv.upd {H : List Bk} {n : Nat} {o : Oper} {r : List Oper} {e : Env} {v : SV} {st : St} (h : Inv H (dsts n r) (updO e o.dst v) st) : Inv H (dsts (n + 1) (o :: r)) e st := by
  refine ⟨h.1, fun t u ht hu => ?_⟩
  have h1 := dsts_cons ht
  exact h.2 t u h1.2 (by rw [lk_updO h1.1]; exact hu)
theorem Inv.known {H : List Bk} {ds : List Nat} {e : Env} {s : Nat} {x b : Bool} (hx : x = b) (hs : lk e s = some (.v (.c (.b x)))) {st : St} (h : Inv H ds ((s, .v (.c (.kb b))) :: e) st) : Inv H ds e st := by
  subst hx
  refine ⟨h.1, fun t u ht hu => ?_⟩
  by_cases hst : s = t
  · subst hst
    obtain ⟨v', h1, h2⟩ := h.2 s _ ht (by rw [lk_cons, if_pos rfl])
    rw [hs] at hu
    cases hu
    exact ⟨v', h1, fun ρ R u h => h2 ρ R u h⟩
  · exact h.2 t u ht (by rw [lk_cons, if_neg hst]; exact hu)
theorem runN_wall (ops : List Oper) : ∀ (f n : Nat) (l : List Oper) (e : Env) (H : List Bk), calm cx n l = true → (runN cx N ops W f n l e H).wall (Inv H (dsts n l) e) := by
  intro f
  induction f with
  | zero => intro n l e H _; exact trivial
  | succ f ih =>
    intro n l e H hc
    match n, l, hc with
    | 0, l, _ => exact ⟨rfl, fun t v _ hv => ⟨v, hv, Same.refl v⟩⟩
    | n + 1, [], _ => exact ⟨rfl, fun t v _ hv => ⟨v, hv, Same.refl v⟩⟩
    | n + 1, o :: r, hc =>
      have hc' := hc
      simp only [calm, Bool.and_eq_true] at hc
      obtain ⟨hq, hcr⟩ := hc
      have hskip : ∀ v, (runN cx N ops W f n r (updO e o.dst v) H).wall (Inv H (dsts (n + 1) (o :: r)) e) := fun v => wall_mono (fun _ h => h.upd) (ih n r (updO e o.dst v) H hcr)
      have hstep : ((step cx o e H W).bind fun st => runN cx N ops W f n r st.1 st.2).wall (Inv H (dsts (n + 1) (o :: r)) e) := wall_step hq hskip
      unfold runN
      cases hd : dOk N o.dst with
      | false => exact trivial
      | true =>
      simp only [cond_true]
      split
      · exact hstep
      · rename_i j want hg
        split
        · exact trivial
        · rename_i s hs
          split
          · exact hskip _
          · rename_i x hx
            cases hb : (x == want) with
            | true => exact hstep
            | false => exact hskip _
          · rename_i x hx
            have hite : (Tr.ite x (runN cx N ops W f (n + 1) (o :: r) ((s, .v (.c (.kb true))) :: e) H) (runN cx N ops W f (n + 1) (o :: r) ((s, .v (.c (.kb false))) :: e) H)).wall (Inv H (dsts (n + 1) (o :: r)) e) :=
              ⟨fun hb => wall_mono (fun _ h => h.known hb hx) (ih _ _ _ _ hc'), fun hb => wall_mono (fun _ h => h.known hb hx) (ih _ _ _ _ hc')⟩
            split
            · rename_i k hk
              cases hq2 : (Nat.ble (k + 1) (n + 1) && calm cx (k + 1) (o :: r)) with
              | false => exact hite
              | true =>
                simp only [cond_true]
                simp only [Bool.and_eq_true] at hq2
                have hkn := Nat.le_of_ble_eq_true hq2.1
                split
                · rename_i d hdk
                  cases hq3 : (Nat.blt d N && !mem s (dsts (k + 1) (o :: r))) with
                  | false => exact trivial
                  | true =>
                    simp only [cond_true]
                    refine wall_bind (fun z => ?_) _
                    have hcd : calm cx (n - k) ((o :: r).drop (k + 1)) = true := calm_drop (by rw [show k + 1 + (n - k) = n + 1 by omega]; exact hc')
                    refine wall_mono (fun st h => ⟨h.1, fun t v ht hv => ?_⟩) (ih _ _ _ _ hcd)
                    have ht1 : t ∉ dsts (n - k) ((o :: r).drop (k + 1)) := dsts_drop (by rw [show k + 1 + (n - k) = n + 1 by omega]; exact ht)
                    have ht2 : d ≠ t := dsts_at (by omega) hdk ht
                    refine h.2 t v ht1 ?_
                    rw [lk_cons, if_neg ht2, lk_cons]
                    by_cases hst : s = t
                    · subst hst
                      rw [if_pos rfl, ← hx, hv]
                    · rw [if_neg hst, lk_dropD, if_neg]
                      · exact hv
                      · simp only [List.mem_cons, not_or]
                        exact ⟨fun h => hst h.symm, dsts_sub hkn ht⟩
                · exact trivial
            · exact hite
          · exact trivial
include hcx in
theorem runN_sound (hR : repR W c.R) : ∀ (f n : Nat) (l : List Oper) (e : Env) (H : List Bk), (runN cx N ops.toList W f n l e H).all (fun st => YL P c ρ0 ops Q N (l.drop n) st.1 st.2) → YL P c ρ0 ops Q N l e H := by
  intro f
  induction f with
  | zero => intro n l e H h; exact h.elim
  | succ f ih =>
    intro n l e H h
    match n, l, h with
    | 0, l, h => unfold runN at h; exact h
    | n + 1, [], h => exact h
    | n + 1, o :: r, h =>
      unfold runN at h
      cases hd : dOk N o.dst with
      | false => simp only [hd, cond_false] at h; exact h.elim
      | true =>
      simp only [hd, cond_true] at h
      rw [List.drop_succ_cons] at h
      have hdo := dOk_spec hd
      have hstep : ∀ (o' : Oper), o'.op = o.op → o'.dst = o.dst → o'.guard = none → ((step cx o e H W).bind fun st => runN cx N ops.toList W f n r st.1 st.2).all (fun st => YL P c ρ0 ops Q N (r.drop n) st.1 st.2) → YL P c ρ0 ops Q N (o' :: r) e H := fun o' e1 e2 e3 h => by
        refine YL.step hcx hR (by rw [e2]; exact hd) e3 ?_
        have : step cx o' e H W = step cx o e H W := by unfold step; rw [e1, e2]
        rw [this]
        exact Tr.all_mono (fun st h => ih n r st.1 st.2 h) (Tr.all_bind h)
      split at h
      · rename_i hg
        exact hstep o rfl rfl hg h
      · rename_i j want hg
        obtain ⟨dst, op, ty, pos, af, gd⟩ := o
        simp only at hg
        subst hg
        split at h
        · exact h.elim
        · rename_i s hs
          have hj := yielded_of' (a := ⟨#[], []⟩) (b := true) (e' := []) hs
          have hskip : (lk e s = some .und ∨ ∃ x, (x == want) = false ∧ ((lk e s = some (.v (.c (.kb x)))) )) → (runN cx N ops.toList W f n r (updO e dst .und) H).all (fun st => YL P c ρ0 ops Q N (r.drop n) st.1 st.2) → YL P c ρ0 ops Q N (⟨dst, op, ty, pos, af, some (j, want)⟩ :: r) e H := fun hh h => by
            have h1 := ih n r _ _ h
            intro ρ e' H' hx0 he hH
            have h2 := h1 ρ _ H' hx0 (updO_rep he (d := dst) (x := .und) (v := undef) rfl) hH
            rcases hh with hu | ⟨x, hx, hu⟩
            · obtain ⟨v, hv, hr⟩ := he s _ hu
              simp only [repV] at hr
              subst hr
              exact Z.TL.guardU hj hv hdo h2
            · obtain ⟨v, hv, hr⟩ := he s _ hu
              simp only [repV, rep1, repS] at hr
              subst hr
              exact Z.TL.guardN hj hv rfl hx hdo h2
          split at h
          · rename_i hu
            exact hskip (.inl hu) h
          · rename_i x hx
            cases hw : (x == want) with
            | false =>
              simp only [hw, cond_false] at h
              exact hskip (.inr ⟨x, hw, hx⟩) h
            | true =>
              simp only [hw, cond_true] at h
              have h1 := hstep ⟨dst, op, ty, pos, af, none⟩ rfl rfl rfl h
              intro ρ e' H' hx0 he hH
              obtain ⟨v, hv, hr⟩ := he s _ hx
              simp only [repV, rep1, repS] at hr
              subst hr
              exact Z.TL.guardY hj hv (by simpa using hw) (h1 ρ e' H' hx0 he hH)
          · rename_i x hx
            have hknown : ∀ b, x = b → YL P c ρ0 ops Q N (⟨dst, op, ty, pos, af, some (j, want)⟩ :: r) ((s, .v (.c (.kb b))) :: e) H → YL P c ρ0 ops Q N (⟨dst, op, ty, pos, af, some (j, want)⟩ :: r) e H := fun b hb h => by
              subst hb
              refine YL.weaken (fun t v hv => ?_) h
              rw [lk_cons] at hv
              by_cases hst : s = t
              · subst hst
                rw [if_pos rfl] at hv
                cases hv
                exact ⟨_, hx, fun _ _ _ h => h⟩
              · rw [if_neg hst] at hv
                exact ⟨v, hv, Same.refl v⟩
            have hite : (Tr.ite x (runN cx N ops.toList W f (n + 1) (⟨dst, op, ty, pos, af, some (j, want)⟩ :: r) ((s, .v (.c (.kb true))) :: e) H) (runN cx N ops.toList W f (n + 1) (⟨dst, op, ty, pos, af, some (j, want)⟩ :: r) ((s, .v (.c (.kb false))) :: e) H)).all (fun st => YL P c ρ0 ops Q N (r.drop n) st.1 st.2) → YL P c ρ0 ops Q N (⟨dst, op, ty, pos, af, some (j, want)⟩ :: r) e H := fun h => by
              cases hb : x with
              | true => exact hknown true hb (ih (n + 1) _ _ _ (by rw [List.drop_succ_cons]; exact h.1 hb))
              | false => exact hknown false hb (ih (n + 1) _ _ _ (by rw [List.drop_succ_cons]; exact h.2 hb))
            split at h
            · rename_i k hk
              cases hq2 : (Nat.ble (k + 1) (n + 1) && calm cx (k + 1) (⟨dst, op, ty, pos, af, some (j, want)⟩ :: r)) with
              | false => simp only [hq2, cond_false] at h; exact hite h
              | true =>
                simp only [hq2, cond_true] at h
                simp only [Bool.and_eq_true] at hq2
                have hkn := Nat.le_of_ble_eq_true hq2.1
                split at h
                · rename_i d hdk
                  cases hq3 : (Nat.blt d N && !mem s (dsts (k + 1) (⟨dst, op, ty, pos, af, some (j, want)⟩ :: r))) with
                  | false => simp only [hq3, cond_false] at h; exact h.elim
                  | true =>
                    simp only [hq3, cond_true] at h
                    have h := Tr.all_bind h
                    have hJ : (mrgT x ((runN cx N ops.toList W f (k + 1) (⟨dst, op, ty, pos, af, some (j, want)⟩ :: r) ((s, .v (.c (.kb true))) :: e) H).bind (lastB d)) ((runN cx N ops.toList W f (k + 1) (⟨dst, op, ty, pos, af, some (j, want)⟩ :: r) ((s, .v (.c (.kb false))) :: e) H).bind (lastB d))).all fun z =>
                        YL P c ρ0 ops Q N (r.drop k) ((d, .v (.c (.b z))) :: (s, .v (.c (.b x))) :: dropD (s :: dsts (k + 1) (⟨dst, op, ty, pos, af, some (j, want)⟩ :: r)) e) H := Tr.all_mono (fun z hz => by
                      refine ih (n - k) _ _ _ ?_
                      rw [List.drop_succ_cons] at hz
                      rw [List.drop_drop, show k + (n - k) = n by omega]
                      exact hz) h
                    obtain ⟨hT, hF⟩ := mrgT_all hJ
                    have hway : ∀ b, x = b → ((runN cx N ops.toList W f (k + 1) (⟨dst, op, ty, pos, af, some (j, want)⟩ :: r) ((s, .v (.c (.kb b))) :: e) H).bind (lastB d)).all (fun z =>
                        YL P c ρ0 ops Q N (r.drop k) ((d, .v (.c (.b z))) :: (s, .v (.c (.b x))) :: dropD (s :: dsts (k + 1) (⟨dst, op, ty, pos, af, some (j, want)⟩ :: r)) e) H) → YL P c ρ0 ops Q N (⟨dst, op, ty, pos, af, some (j, want)⟩ :: r) e H := fun b hb h => by
                      refine hknown b hb (ih (k + 1) _ _ _ ?_)
                      refine Tr.all_mono (fun st hst => ?_) (all_wall (Tr.all_bind h) (runN_wall ops.toList f (k + 1) _ ((s, .v (.c (.kb b))) :: e) H hq2.2))
                      obtain ⟨hst, hinv⟩ := hst
                      rw [List.drop_succ_cons]
                      have hmem : s ∉ dsts (k + 1) (⟨dst, op, ty, pos, af, some (j, want)⟩ :: r) := fun hm => by
                        simp only [Bool.and_eq_true, Bool.not_eq_true'] at hq3
                        rw [mem_iff.2 hm] at hq3
                        cases hq3.2
                      unfold lastB at hst
                      split at hst
                      · rename_i y hy
                        obtain ⟨z, hz, hst⟩ := peelO hst
                        rw [hinv.1]
                        refine YL.weaken (fun t v hv => ?_) hst
                        rw [lk_cons] at hv
                        by_cases hdt : d = t
                        · subst hdt
                          rw [if_pos rfl] at hv
                          cases hv
                          exact ⟨_, hy, fun ρ R u hu => bo_rep hz hu⟩
                        · rw [if_neg hdt, lk_cons] at hv
                          by_cases hst2 : s = t
                          · subst hst2
                            rw [if_pos rfl] at hv
                            cases hv
                            obtain ⟨v', h1, h2⟩ := hinv.2 s _ hmem (by rw [lk_cons, if_pos rfl])
                            exact ⟨v', h1, fun ρ R u hu => by have := h2 ρ R u hu; rw [hb]; exact this⟩
                          · rw [if_neg hst2, lk_dropD] at hv
                            split at hv
                            · cases hv
                            · rename_i hnm
                              simp only [List.mem_cons, not_or] at hnm
                              obtain ⟨v', h1, h2⟩ := hinv.2 t v hnm.2 (by rw [lk_cons, if_neg hst2]; exact hv)
                              exact ⟨v', h1, h2⟩
                      · exact hst.elim
                    cases hb : x with
                    | true => exact hway true hb (hT hb)
                    | false => exact hway false hb (hF hb)
                · exact h.elim
            · exact hite h
          · exact h.elim
end
end Go.Y

set_option linter.unusedSimpArgs false
set_option linter.unusedVariables false
namespace Go.Y
open Go.Z (Row Blk plainV Keep KeepP RowAt Fits runsTo stepO wpX Tn Plan unord noSel Pre Cx TL TC TE cxOf)
theorem offB_spec {T : Tch} {m0 n : Nat} : ∀ {js : List Nat}, offB T m0 n js = true → ∀ j ∈ js, n ∉ look T j ∧ (n < m0 ∨ geAny m0 (look T j) = false)
  | [], _, _, h => by cases h
  | k :: r, h, j, hj => by
    simp only [offB, Bool.and_eq_true, Bool.not_eq_true', Bool.or_eq_true] at h
    rcases List.mem_cons.1 hj with rfl | hj
    · refine ⟨fun hm => ?_, ?_⟩
      · rw [mem_iff.2 hm] at h; cases h.1.1
      · rcases h.1.2 with h1 | h1
        · exact .inl (blt_lt h1)
        · exact .inr h1
    · exact offB_spec h.2 j hj
theorem offL_spec {T : Tch} {m0 : Nat} {js : List Nat} : ∀ {rd : List Nat}, offL T m0 js rd = true → ∀ n ∈ rd, offB T m0 n js = true
  | [], _, _, h => by cases h
  | k :: r, h, n, hn => by
    simp only [offL, Bool.and_eq_true] at h
    rcases List.mem_cons.1 hn with rfl | hn
    · exact h.1
    · exact offL_spec h.2 n hn
theorem clearB_spec {T : Tch} : ∀ {js : List Nat}, clearB T js = true → ∀ j ∈ js, look T j = []
  | [], _, _, h => by cases h
  | k :: r, h, j, hj => by
    simp only [clearB, Bool.and_eq_true] at h
    rcases List.mem_cons.1 hj with rfl | hj
    · have := h.1
      split at this
      · assumption
      · cases this
    · exact clearB_spec h.2 j hj
theorem geAny_spec {m0 : Nat} : ∀ {l : List Nat}, geAny m0 l = true ↔ ∃ n ∈ l, m0 ≤ n
  | [] => by simp [geAny]
  | n :: r => by
    have : Nat.ble m0 n = true ↔ m0 ≤ n := by simp
    simp [geAny, this, geAny_spec (l := r)]
theorem okT_spec {T : Tch} {m0 j : Nat} : ∀ {l : List Nat}, okT T m0 j l = true → ∀ n ∈ l, (n < m0 → n ∈ look T j) ∧ (m0 ≤ n → geAny m0 (look T j) = true)
  | [], _, _, h => by cases h
  | k :: r, h, n, hn => by
    simp only [okT, Bool.and_eq_true] at h
    rcases List.mem_cons.1 hn with rfl | hn
    · cases hb : Nat.blt n m0 with
      | true =>
        simp only [hb, cond_true] at h
        have := blt_lt hb
        exact ⟨fun _ => mem_iff.1 h.1, fun h2 => by omega⟩
      | false =>
        simp only [hb, cond_false] at h
        have := blt_ge hb
        exact ⟨fun h2 => by omega, fun _ => h.1⟩
    · exact okT_spec h.2 n hn
/-- what is fixed while a region draws -/
structure Dr (ρs : List Nat) (S : Tn) (T : Tch) (m0 : Nat) : Prop where
  len : ρs.length = m0
  l : ∀ j b, b ∈ S.l j ↔ ∃ n ∈ look T j, n < m0 ∧ ρs[n]? = some b
  nw : ∀ j, S.nw j = geAny m0 (look T j)
  lt : ∀ b ∈ ρs, b < S.n0
section
variable {P : Program} {cx : Ctx} (hcx : CtxOK P cx) {c : Cx} {N : Nat} {W : List Rw} {ops : Array Oper} {K : Act → World → Prop} {S : Tn} {T : Tch} {m0 : Nat} {ρs : List Nat}
def YD (P : Program) (c : Cx) (ops : Array Oper) (K : Act → World → Prop) (S : Tn) (m0 : Nat) (ρs : List Nat) (N fuel : Nat) (listed : Array Bool) (e : Env) (H : List Bk) : Prop :=
  ∀ (ρ : List Nat) (e' : Z.Env) (H' : List Blk) (a : Act) (w : World), Ext ρs ρ → (∀ (n b : Nat), m0 ≤ n → ρ[n]? = some b → S.n0 ≤ b) → repE ρ c.R e e' → repH ρ c.R H H' → Fits N a e' → Z.Good c w H' → S.n0 ≤ w.heap.size → wpX P ops K S fuel listed a w
def YK (c : Cx) (K : Act → World → Prop) (ρs : List Nat) (N : Nat) (e : Env) (H : List Bk) : Prop :=
  ∀ (ρ : List Nat) (e' : Z.Env) (H' : List Blk) (a : Act) (w : World), Ext ρs ρ → repE ρ c.R e e' → repH ρ c.R H H' → Fits N a e' → Z.Good c w H' → K a w
theorem Sub.yk {e e1 : Env} {H : List Bk} (hs : Sub e1 e) {fuel : Nat} {listed : Array Bool} (h : YD P c ops K S m0 ρs N fuel listed e1 H) : YD P c ops K S m0 ρs N fuel listed e H := fun ρ e' H' a w hx hm he hH =>
  h ρ e' H' a w hx hm (fun t x hx => by
    obtain ⟨x', h1, h2⟩ := hs t x hx
    obtain ⟨v, h3, h4⟩ := he t x' h1
    exact ⟨v, h3, h2 _ _ _ h4⟩) hH
theorem stepO_yes {o : Oper} {a : Act} {w : World} {J : Value → World → Prop} (hw : Region.wanted o (yielded ops a.tmps) = true) (h : runsTo P o a w J) : stepO P ops o a w J := by
  unfold stepO
  rw [if_pos hw]
  exact h
theorem stepO_no {o : Oper} {a : Act} {w : World} {J : Value → World → Prop} (hw : Region.wanted o (yielded ops a.tmps) = false) (h : J undef w) : stepO P ops o a w J := by
  unfold stepO
  rw [if_neg (by simp [hw])]
  exact h
theorem gd_yes {e : Env} {e' : Z.Env} {ρ : List Nat} {R : List Row} (he : repE ρ R e e') {o : Oper} (h : gdO ops.toList e o = .yes) {a : Act} (ha : Fits N a e') : Region.wanted o (yielded ops a.tmps) = true := by
  unfold gdO at h
  split at h
  · rename_i hg; simp [Region.wanted, hg]
  · rename_i j want hg
    split at h
    · cases h
    · rename_i s hs
      have hj := yielded_of' (a := ⟨#[], []⟩) (b := true) (e' := []) hs
      split at h
      · cases h
      · rename_i x hx
        cases hb : (x == want) with
        | false => simp [hb] at h
        | true =>
          obtain ⟨v, hv, hr⟩ := he s _ hx
          simp only [repV, rep1, repS] at hr
          subst hr
          have : x = want := by simpa using hb
          subst this
          simp [Region.wanted, hg, Z.yielded_of ops hj ha hv]
      · cases h
      · cases h
theorem gd_no {e : Env} {e' : Z.Env} {ρ : List Nat} {R : List Row} (he : repE ρ R e e') {o : Oper} (h : gdO ops.toList e o = .no) {a : Act} (ha : Fits N a e') : Region.wanted o (yielded ops a.tmps) = false := by
  unfold gdO at h
  split at h
  · cases h
  · rename_i j want hg
    split at h
    · cases h
    · rename_i s hs
      have hj := yielded_of' (a := ⟨#[], []⟩) (b := true) (e' := []) hs
      split at h
      · rename_i hu
        obtain ⟨v, hv, hr⟩ := he s _ hu
        simp only [repV] at hr
        subst hr
        have h1 := ha.at_ s _ hv
        have h3 : yielded ops a.tmps j = none := by
          unfold yielded
          rw [hj]
          cases h4 : a.tmps[s]? with
          | none => simp [h4]
          | some v =>
            simp only [h4, Array.getD_eq_getD_getElem?, Option.getD_some] at h1
            simp [h4, h1, undef]
        simp [Region.wanted, hg, h3]
      · rename_i x hx
        cases hb : (x == want) with
        | true => simp [hb] at h
        | false =>
          obtain ⟨v, hv, hr⟩ := he s _ hx
          simp only [repV, rep1, repS] at hr
          subst hr
          have : x ≠ want := by simpa using hb
          simp [Region.wanted, hg, Z.yielded_of ops hj ha hv, this]
      · cases h
      · cases h
theorem gd_ask {e : Env} {o : Oper} {s : Nat} {x want : Bool} (h : gdO ops.toList e o = .ask s x want) : lk e s = some (.v (.c (.b x))) ∧ gdO ops.toList ((s, .v (.c (.kb want))) :: e) o = .yes ∧ gdO ops.toList ((s, .v (.c (.kb (!want)))) :: e) o = .no := by
  unfold gdO at h ⊢
  split at h
  · cases h
  · rename_i j want' hg
    split at h
    · cases h
    · rename_i s' hs
      split at h
      · cases h
      · rename_i y _
        cases hb : (y == want') <;> simp [hb] at h
      · rename_i y hy
        cases h
        refine ⟨hy, ?_, ?_⟩
        · rw [lk_cons, if_pos rfl]; simp
        · rw [lk_cons, if_pos rfl]; cases want <;> simp
      · cases h
theorem Sub.known {e : Env} {s : Nat} {x b : Bool} (hs : lk e s = some (.v (.c (.b x)))) (hb : x = b) : Sub ((s, .v (.c (.kb b))) :: e) e := fun t v hv => by
  subst hb
  rw [lk_cons] at hv
  by_cases hst : s = t
  · subst hst
    rw [if_pos rfl] at hv
    cases hv
    exact ⟨_, hs, fun _ _ _ h => h⟩
  · rw [if_neg hst] at hv
    exact ⟨v, hv, Same.refl v⟩
/-- an operation taken first -/
theorem take_core {i d : Nat} {js : List Nat} {r : Plan} {o : Oper} {v : Value} {fuel : Nat} {listed : Array Bool} (hok : (Plan.take i js r).ok ops fuel listed = true) (hsel : noSel ops = true) (hi : ops[i]? = some o) (hdst : o.dst = some d) {a : Act} {w : World}
    (hstep : ∀ w', KeepP (fun k => ∃ j ∈ js, S.at j k) w w' → stepO P ops o a w' fun v' w'' => v' = v ∧ Keep [] w' w'') (hrest : ∀ n, r.ok ops n (listed.setIfInBounds i true) = true → wpX P ops K S n (listed.setIfInBounds i true) (a.put (some d) v) w) : wpX P ops K S fuel listed a w := by
  obtain ⟨n, rfl, hir, hf, hjs, hok2⟩ := Z.take_ok hok
  subst hjs
  refine Z.wpX_first (U := fun k => ∃ j ∈ unord ops listed i, S.at j k) (v := v) hi (Region.noSelect_spec hsel) n listed a w (fun j oj hj hne hl hall => ?_) hir hstep ?_
  · have hm := Z.mem_unord (ops := ops) hj hne hl hall
    exact ⟨Z.mem_unord_iff hf hi hj hm, fun k hk => ⟨j, hm, hk⟩⟩
  · rw [hdst]
    exact hrest n hok2
include hcx in
theorem runD_take (hR : repR W c.R) (hD : Dr ρs S T m0) {i d : Nat} {js : List Nat} {r : Plan} {o : Oper} {fuel : Nat} {listed : Array Bool} {e : Env} {H : List Bk} (hok : (Plan.take i js r).ok ops fuel listed = true) (hsel : noSel ops = true) (hi : ops[i]? = some o) (hdst : o.dst = some d) (hd : Nat.blt d N = true)
    (hg : gdO ops.toList e o = .yes) (hrd : okRd T m0 js (rdO e H o.op) = true) {Φ : SV → Prop} (h : ((opV cx e H W o.op).one).all Φ) (hk : ∀ v, Φ v → ∀ n, r.ok ops n (listed.setIfInBounds i true) = true → YD P c ops K S m0 ρs N n (listed.setIfInBounds i true) ((d, v) :: e) H) :
    YD P c ops K S m0 ρs N fuel listed e H := fun ρ e' H' a w hx hm he hH ha hw hn0 => by
  have h : (opV cx e H W o.op).all Φ := by
    have : ∀ {t : Tr SV}, (t.one).all Φ → t.all Φ := by
      intro t
      induction t with
      | ret x => exact fun h => h
      | ite b t f i1 i2 => exact fun h => ⟨fun hb => i1 (h.1 hb), fun hb => i2 (h.2 hb)⟩
      | ass p t i => exact fun h => ⟨h.1, fun hp => i (h.2 hp)⟩
      | both => exact fun h => h.elim
      | hyp => exact fun h => h.elim
      | any => exact fun h => h.elim
      | stuck => exact fun h => h.elim
    exact this h
  obtain ⟨sv, v, h1, h2, h3⟩ := opV_sound hcx he hH hR hw.nodup h ha (mem_of_good hw _ _)
  simp only [okRd, Bool.and_eq_true, Bool.or_eq_true, Bool.not_eq_true'] at hrd
  refine take_core hok hsel hi hdst (v := v) (fun w' hkp => stepO_yes (gd_yes he hg ha) (h3 o a w' rfl ha ⟨fun n hn B hB => ?_, fun hrr row hrow => ?_⟩)) (fun n hn => ?_)
  · have hoff := offL_spec hrd.1 n hn
    have hid : ρ[n]? = some B.b := by rw [hH.ids, List.getElem?_map, hB]; rfl
    rw [hkp.block B.b (hw.lt (List.mem_of_getElem? hB)) ?_]
    · exact hw.has B (List.mem_of_getElem? hB)
    · rintro ⟨j, hj, hat⟩
      obtain ⟨o1, o2⟩ := offB_spec hoff j hj
      rcases hat with hat | ⟨hat1, hat2⟩
      · obtain ⟨n', hn', hlt, hb⟩ := (hD.l j B.b).1 hat
        have hb' := hx n' B.b hb
        have hnn : n' = n := by
          have hnd := hw.nodup
          rw [← hH.ids] at hnd
          exact (List.getElem?_inj (List.getElem?_eq_some_iff.1 hb').1 hnd).1 (hb'.trans hid.symm)
        subst hnn
        exact o1 hn'
      · rw [hD.nw] at hat1
        rcases o2 with o2 | o2
        · have hlt : n < ρs.length := by rw [hD.len]; exact o2
          have h5 : ρs[n]? = some ρs[n] := List.getElem?_eq_getElem hlt
          have h6 := hx n _ h5
          rw [hid] at h6
          have h6 := Option.some.inj h6
          have := hD.lt _ (List.mem_of_getElem? h5)
          omega
        · rw [o2] at hat1; cases hat1
  · rcases hrd.2 with h4 | h4
    · rw [hrr] at h4; cases h4
    · have hc := clearB_spec h4
      have hk0 := hkp.toK (fun k ⟨j, hj, hat⟩ => by
        rcases hat with hat | ⟨hat, _⟩
        · obtain ⟨n', hn', _⟩ := (hD.l j k).1 hat
          rw [hc j hj] at hn'
          cases hn'
        · rw [hD.nw, hc j hj] at hat
          cases hat)
      exact (hw.rows row hrow).1.same fun hne => hk0.block _ ((hw.rows row hrow).1.lt hne) (by simp)
  · exact hk sv h1 n hn ρ _ H' _ w hx hm (cons_rep he h2) hH (ha.put v hd) hw hn0
theorem runD_skip {i d : Nat} {js : List Nat} {r : Plan} {o : Oper} {fuel : Nat} {listed : Array Bool} {e : Env} {H : List Bk} (hok : (Plan.take i js r).ok ops fuel listed = true) (hsel : noSel ops = true) (hi : ops[i]? = some o) (hdst : o.dst = some d) (hd : Nat.blt d N = true)
    (hg : gdO ops.toList e o = .no) (hk : ∀ n, r.ok ops n (listed.setIfInBounds i true) = true → YD P c ops K S m0 ρs N n (listed.setIfInBounds i true) ((d, .und) :: e) H) : YD P c ops K S m0 ρs N fuel listed e H := fun ρ e' H' a w hx hm he hH ha hw hn0 =>
  take_core hok hsel hi hdst (v := undef) (fun w' _ => stepO_no (gd_no he hg ha) ⟨rfl, Keep.refl _ _⟩) fun n hn => hk n hn ρ _ H' _ w hx hm (cons_rep he rfl) hH (ha.put undef hd) hw hn0
/-- one effect's step -/
def YS (P : Program) (c : Cx) (ops : Array Oper) (K : Act → World → Prop) (S : Tn) (m0 : Nat) (ρs : List Nat) (N : Nat) (j : Nat) (r : Plan) (listed : Array Bool) (e : Env) (H : List Bk) : Prop :=
  ∃ o, ops[j]? = some o ∧ ∀ (ρ : List Nat) (e' : Z.Env) (H' : List Blk) (a : Act) (w : World), Ext ρs ρ → (∀ (n b : Nat), m0 ≤ n → ρ[n]? = some b → S.n0 ≤ b) → repE ρ c.R e e' → repH ρ c.R H H' → Fits N a e' → Z.Good c w H' → S.n0 ≤ w.heap.size →
    stepO P ops o a w fun v w' => KeepP (S.at j) w w' ∧ ∀ n, r.ok ops n (listed.setIfInBounds j true) = true → wpX P ops K S n (listed.setIfInBounds j true) (a.put o.dst v) w'
include hcx in
theorem runD_eff (hR : repR W c.R) (hD : Dr ρs S T m0) {j : Nat} {r : Plan} {listed : Array Bool} {e : Env} {H : List Bk} {o : Oper} (ho : ops[j]? = some o) {g : Tch}
    (h : (bif dOk N o.dst && !quiet cx o.op then match gdO ops.toList e o with
        | .no => runD cx N ops.toList W true T m0 r (updO e o.dst .und) H g
        | .yes => (opE cx e H W o.op).bind fun rs => bif !true || okT T m0 j rs.tch then runD cx N ops.toList W true T m0 r (updO e o.dst rs.v) rs.H ((j, rs.tch) :: g) else .stuck 287
        | _ => .stuck 288
      else .stuck 289 : Tr (St × Tch)).all (fun x => YK c K ρs N x.1.1 x.1.2))
    (ih : ∀ (e : Env) (H : List Bk) (g : Tch) (n : Nat) (listed : Array Bool), r.ok ops n listed = true → (runD cx N ops.toList W true T m0 r e H g).all (fun x => YK c K ρs N x.1.1 x.1.2) → YD P c ops K S m0 ρs N n listed e H) : YS P c ops K S m0 ρs N j r listed e H := by
  cases hd : (dOk N o.dst && !quiet cx o.op) with
  | false => simp only [hd, cond_false] at h; exact h.elim
  | true =>
  simp only [hd, cond_true] at h
  simp only [Bool.and_eq_true] at hd
  have hdo := dOk_spec hd.1
  refine ⟨o, ho, fun ρ e' H' a w hx hm he hH ha hw hn0 => ?_⟩
  split at h
  · rename_i hg
    exact stepO_no (gd_no he hg ha) ⟨⟨Nat.le_refl _, fun _ _ _ => rfl, rfl, rfl, rfl⟩, fun n hn => ih _ _ _ n _ hn h ρ _ H' _ w hx hm (updO_rep he (d := o.dst) (x := .und) (v := undef) rfl) hH (ha.putO undef hdo) hw hn0⟩
  · rename_i hg
    have h := Tr.all_bind h
    refine stepO_yes (gd_yes he hg ha) ((opE_sound hcx he hH hR h rfl ha hw).mono fun v w' ⟨rs, ρ', H1', h1, h2, h3, h4, h5, h6, h7⟩ => ?_)
    cases ht : okT T m0 j rs.tch with
    | false => simp only [ht, Bool.not_true, Bool.or_false, cond_false] at h1; exact h1.elim
    | true =>
    simp only [ht, Bool.not_true, Bool.or_true, cond_true] at h1
    have hot := okT_spec ht
    have hlen : m0 ≤ ρ.length := by
      rw [← hD.len]
      rcases Nat.eq_zero_or_pos ρs.length with h0 | h0
      · omega
      · have hl : ρs.length - 1 < ρs.length := by omega
        have := hx _ _ (List.getElem?_eq_getElem hl)
        have := (List.getElem?_eq_some_iff.1 this).1
        omega
    refine ⟨h6.mono fun k ⟨n, hn, hk⟩ => ?_, fun n hn => ih _ _ _ n _ hn h1 ρ' _ H1' _ w' (hx.trans h2) (fun n b hmn hb => ?_) (updO_rep (he.mono h2) h3) h4 (ha.putO v hdo) h5 (Nat.le_trans hn0 h6.size)⟩
    · by_cases hnm : n < m0
      · left
        refine (hD.l j k).2 ⟨n, (hot n hn).1 hnm, hnm, ?_⟩
        have hl : n < ρs.length := by rw [hD.len]; exact hnm
        have h8 := hx n _ (List.getElem?_eq_getElem hl)
        rw [hk] at h8
        cases h8
        exact List.getElem?_eq_getElem hl
      · right
        exact ⟨by rw [hD.nw]; exact (hot n hn).2 (by omega), hm n k (by omega) hk⟩
    · by_cases hnl : n < ρ.length
      · have h8 := h2 n _ (List.getElem?_eq_getElem hnl)
        rw [hb] at h8
        cases h8
        exact hm n _ hmn (List.getElem?_eq_getElem hnl)
      · exact Nat.le_trans hn0 (h7 n b (by omega) hb)
  · exact h.elim
theorem YS.go {fuel : Nat} {listed : Array Bool} {e : Env} {H : List Bk} (hs : ∀ j ∈ Region.ready .any ops listed, ∃ r : Plan, r.ok ops fuel (listed.setIfInBounds j true) = true ∧ YS P c ops K S m0 ρs N j r listed e H) (hne : Region.ready .any ops listed ≠ []) :
    YD P c ops K S m0 ρs N (fuel + 1) listed e H := fun ρ e' H' a w hx hm he hH ha hw hn0 w0 hk =>
  ⟨fun h0 => absurd h0 hne, fun i hi => by
    obtain ⟨r, hr, o, ho, hs⟩ := hs i hi
    refine ⟨o, ho, (hs ρ e' H' a w0 hx hm he hH ha (hw.ext hk) (Nat.le_trans hn0 hk.size)).mono fun v w' hx => ⟨hx.1, hx.2 _ hr⟩⟩⟩
include hcx in
theorem runD_sound (hR : repR W c.R) (hD : Dr ρs S T m0) (hsel : noSel ops = true) : ∀ (pl : Plan) (e : Env) (H : List Bk) (g : Tch) (fuel : Nat) (listed : Array Bool), pl.ok ops fuel listed = true →
    (runD cx N ops.toList W true T m0 pl e H g).all (fun x => YK c K ρs N x.1.1 x.1.2) → YD P c ops K S m0 ρs N fuel listed e H
  | .fin, e, H, g, fuel, listed, hok, h => fun ρ e' H' a w hx hm he hH ha hw hn0 => by
    have hr := Z.eqL_eq hok
    cases fuel with
    | zero => exact fun w0 hk => ⟨hr, h ρ e' H' a w0 hx he hH ha (hw.ext hk)⟩
    | succ n => exact fun w0 hk => ⟨fun _ => h ρ e' H' a w0 hx he hH ha (hw.ext hk), fun i hi => by rw [hr] at hi; cases hi⟩
  | .take i js r, e, H, g, fuel, listed, hok, h => by
    simp only [runD] at h
    split at h
    · exact h.elim
    · rename_i o ho
      rw [nth_eq] at ho
      have hi : ops[i]? = some o := by simpa using ho
      split at h
      · exact h.elim
      · rename_i d hdst
        cases hd : (Nat.blt d N && quiet cx o.op) with
        | false => simp only [hd, cond_false] at h; exact h.elim
        | true =>
        simp only [hd, cond_true] at h
        simp only [Bool.and_eq_true] at hd
        split at h
        · exact h.elim
        · rename_i hg
          exact runD_skip hok hsel hi hdst hd.1 hg fun n hn => runD_sound hR hD hsel r _ H g n _ hn h
        · rename_i hg
          cases hrd : okRd T m0 js (rdO e H o.op) with
          | false => simp only [hrd, Bool.not_true, Bool.or_false, cond_false] at h; exact h.elim
          | true =>
          simp only [hrd, Bool.not_true, Bool.or_true, cond_true] at h
          exact runD_take hcx hR hD hok hsel hi hdst hd.1 hg hrd (Tr.all_bind h) fun v hv n hn => runD_sound hR hD hsel r _ H g n _ hn hv
        · rename_i s x want hg
          obtain ⟨hs, hy, hn'⟩ := gd_ask hg
          obtain ⟨hT, hF⟩ := h
          cases hb : (x == want) with
          | true =>
            have hxw : x = want := by simpa using hb
            have h := hT hb
            cases hrd : okRd T m0 js (rdO ((s, .v (.c (.kb want))) :: e) H o.op) with
            | false => simp only [hrd, Bool.not_true, Bool.or_false, cond_false] at h; exact h.elim
            | true =>
            simp only [hrd, Bool.not_true, Bool.or_true, cond_true] at h
            refine Sub.yk (Sub.known hs hxw) ?_
            exact runD_take hcx hR hD hok hsel hi hdst hd.1 hy hrd (Tr.all_bind h) fun v hv n hn => runD_sound hR hD hsel r _ H g n _ hn hv
          | false =>
            have hxw : x = !want := by cases x <;> cases want <;> simp_all
            exact Sub.yk (Sub.known hs hxw) (runD_skip hok hsel hi hdst hd.1 hn' fun n hn => runD_sound hR hD hsel r _ H g n _ hn (hF hb))
  | .one j r, e, H, g, fuel, listed, hok, h => by
    simp only [runD] at h
    cases fuel with
    | zero => cases hok
    | succ n =>
    simp only [Plan.ok, Bool.and_eq_true] at hok
    have hr := Z.eqL_eq hok.1
    split at h
    · exact h.elim
    · rename_i o ho
      rw [nth_eq] at ho
      have hi : ops[j]? = some o := by simpa using ho
      refine YS.go (fun i hi' => ?_) (by rw [hr]; simp)
      rw [hr, List.mem_singleton] at hi'
      subst hi'
      exact ⟨r, hok.2, runD_eff hcx hR hD hi h fun e H g n l hn h => runD_sound hR hD hsel r e H g n l hn h⟩
  | .two j r j' r', e, H, g, fuel, listed, hok, h => by
    simp only [runD] at h
    cases fuel with
    | zero => cases hok
    | succ n =>
    simp only [Plan.ok, Bool.and_eq_true] at hok
    have hr := Z.eqL_eq hok.1
    obtain ⟨h1, h2⟩ := h
    refine YS.go (fun i hi' => ?_) (by rw [hr]; simp)
    rw [hr] at hi'
    simp only [List.mem_cons, List.not_mem_nil, or_false] at hi'
    rcases hi' with rfl | rfl
    · split at h1
      · exact h1.elim
      · rename_i o ho
        rw [nth_eq] at ho
        exact ⟨r, hok.2.1, runD_eff hcx hR hD (by simpa using ho) h1 fun e H g n l hn h => runD_sound hR hD hsel r e H g n l hn h⟩
    · split at h2
      · exact h2.elim
      · rename_i o ho
        rw [nth_eq] at ho
        exact ⟨r', hok.2.2, runD_eff hcx hR hD (by simpa using ho) h2 fun e H g n l hn h => runD_sound hR hD hsel r' e H g n l hn h⟩
include hcx in
theorem runDraw_sound {ρ0 : List Nat} (hmix : P.follows .mixedOrders = true) (hR : repR W c.R) {id : Nat} {Q : Exit → Act → World → Prop} {e : Env} {H : List Bk} (h : (runDraw cx N ops W e H).all fun st => ∀ (ρ : List Nat) (e' : Z.Env) (H' : List Blk), Ext ρ0 ρ → repE ρ c.R st.1 e' → repH ρ c.R st.2 H' → TE c Q N .normal e' H') :
    ∀ (ρ : List Nat) (e' : Z.Env) (H' : List Blk), Ext ρ0 ρ → repE ρ c.R e e' → repH ρ c.R H H' → TC P c Q N (.region id ops true) e' H' := by
  intro ρ e' H' hx he hH a w ha hw
  unfold runDraw at h
  simp only at h
  generalize mkPlan cx ops ops.size (Array.replicate ops.size false) = pl at h
  generalize gatherT (runD cx N ops.toList W false [] (Y.len H) pl e H []) = T at h
  cases hok : (pl.ok ops ops.size (Array.replicate ops.size false) && noSel ops) with
  | false => simp only [hok, cond_false] at h; exact h.elim
  | true =>
  simp only [hok, cond_true] at h
  simp only [Bool.and_eq_true] at hok
  have h := Tr.all_bind h
  have hl : ρ.length = Y.len H := by rw [hH.len, len_eq]
  have hD : Dr ρ (⟨fun j => (look T j).filterMap fun n => ρ[n]?, fun j => geAny (Y.len H) (look T j), w.heap.size⟩ : Tn) T (Y.len H) := by
    refine ⟨hl, fun j b => ?_, fun j => rfl, fun b hb => ?_⟩
    · simp only [List.mem_filterMap]
      constructor
      · rintro ⟨n, hn, hb⟩
        exact ⟨n, hn, by rw [← hl]; exact (List.getElem?_eq_some_iff.1 hb).1, hb⟩
      · rintro ⟨n, hn, _, hb⟩
        exact ⟨n, hn, hb⟩
    · rw [hH.ids] at hb
      obtain ⟨B, hB, rfl⟩ := List.mem_map.1 hb
      exact hw.lt hB
  refine wp_region_any hmix (Z.wpAny_of_wpX (S := ⟨fun j => (look T j).filterMap fun n => ρ[n]?, fun j => geAny (Y.len H) (look T j), w.heap.size⟩) _ _ _ _ ?_)
  refine runD_sound (K := Q .normal) (ρs := ρ) hcx hR hD hok.2 pl e H [] ops.size _ hok.1 (Tr.all_mono (fun x hx1 ρ1 e1 H1 a1 w1 hx2 he1 hH1 ha1 hw1 => hx1 ρ1 e1 H1 (hx.trans hx2) he1 hH1 a1 w1 ha1 hw1) h) ρ e' H' a _ (Ext.refl _) (fun n b hn hb => ?_) he hH ha (hw.drawn _) (Nat.le_refl _)
  have := (List.getElem?_eq_some_iff.1 hb).1
  omega
end
end Go.Y

set_option linter.unusedSimpArgs false
set_option linter.unusedVariables false
namespace Go.Y
open Go.Z (Row Blk plainV Keep KeepP RowAt Fits runsTo Pre Cx TL TC TE Ends cxOf)
def toX : X → Exit
  | .nor => .normal
  | .ret => .ret
  | .ex id => .exit id
section
variable {P : Program} {cx : Ctx} (hcx : CtxOK P cx) {c : Cx} {ρ0 : List Nat} {N : Nat} {W : List Rw}
def YC (P : Program) (c : Cx) (ρ0 : List Nat) (Q : Exit → Act → World → Prop) (N : Nat) (code : Code) (e : Env) (H : List Bk) : Prop :=
  ∀ (ρ : List Nat) (e' : Z.Env) (H' : List Blk), Ext ρ0 ρ → repE ρ c.R e e' → repH ρ c.R H H' → TC P c Q N code e' H'
def YE (c : Cx) (ρ0 : List Nat) (Q : Exit → Act → World → Prop) (N : Nat) (x : Exit) (e : Env) (H : List Bk) : Prop :=
  ∀ (ρ : List Nat) (e' : Z.Env) (H' : List Blk), Ext ρ0 ρ → repE ρ c.R e e' → repH ρ c.R H H' → TE c Q N x e' H'
/-- what is told of the loops holds -/
def LpOK (P : Program) (cx : Ctx) (c : Cx) (ρ0 : List Nat) (N : Nat) (W : List Rw) : Code → Prop
  | .seq a b => LpOK P cx c ρ0 N W a ∧ LpOK P cx c ρ0 N W b
  | .cond _ a b => LpOK P cx c ρ0 N W a ∧ LpOK P cx c ρ0 N W b
  | .block _ a => LpOK P cx c ρ0 N W a
  | .loop a => ∀ g, cx.lp (firstR a) = some g → ∀ Q e H, (g e H W).all (fun y => YE c ρ0 Q N (toX y.1) y.2.1 y.2.2) → YC P c ρ0 Q N (.loop a) e H
  | _ => True
def noLoop : Code → Bool
  | .seq a b => noLoop a && noLoop b
  | .cond _ a b => noLoop a && noLoop b
  | .block _ a => noLoop a
  | .loop _ => false
  | _ => true
theorem LpOK.no : ∀ {code : Code}, noLoop code = true → LpOK P cx c ρ0 N W code
  | .seq a b, h => by simp only [noLoop, Bool.and_eq_true] at h; exact ⟨LpOK.no h.1, LpOK.no h.2⟩
  | .cond _ a b, h => by simp only [noLoop, Bool.and_eq_true] at h; exact ⟨LpOK.no h.1, LpOK.no h.2⟩
  | .block _ a, h => LpOK.no (code := a) h
  | .loop _, h => by cases h
  | .skip, _ => trivial
  | .region .., _ => trivial
  | .rangeFunc .., _ => trivial
  | .exit _, _ => trivial
  | .scope _, _ => trivial
  | .label _, _ => trivial
  | .goto _, _ => trivial
  | .ret, _ => trivial
  | .refuse _, _ => trivial
theorem evS_bool {ρ : List Nat} {R : List Row} {e : Env} {e' : Z.Env} (he : repE ρ R e e') {x : Operand} {b : Bool} {y : Sc} (h : evS e x = some y) (hb : bo y = some b) : Z.ev e' x = some (.bool b) := by
  obtain ⟨v, hv, hr⟩ := evS_rep he h
  rw [bo_rep hb hr] at hv
  exact hv
theorem YC.weaken {Q : Exit → Act → World → Prop} {code : Code} {e e1 : Env} {H : List Bk} (hs : Sub e1 e) (h : YC P c ρ0 Q N code e1 H) : YC P c ρ0 Q N code e H := fun ρ e' H' hx0 he hH =>
  h ρ e' H' hx0 (fun t x hx => by
    obtain ⟨x', h1, h2⟩ := hs t x hx
    obtain ⟨v, h3, h4⟩ := he t x' h1
    exact ⟨v, h3, h2 _ _ _ h4⟩) hH
theorem YE.weaken {Q : Exit → Act → World → Prop} {x : Exit} {e e1 : Env} {H : List Bk} (hs : Sub e1 e) (h : YE c ρ0 Q N x e1 H) : YE c ρ0 Q N x e H := fun ρ e' H' hx0 he hH =>
  h ρ e' H' hx0 (fun t x hx => by
    obtain ⟨x', h1, h2⟩ := hs t x hx
    obtain ⟨v, h3, h4⟩ := he t x' h1
    exact ⟨v, h3, h2 _ _ _ h4⟩) hH
theorem knowX_sub {e : Env} {x : Operand} {v b : Bool} (hv : evS e x = some (.b v)) (hb : v = b) : Sub (knowX x b e) e := by
  cases x with
  | tmp t =>
    refine Sub.known (x := v) ?_ hb
    simp only [evS, ev] at hv
    split at hv
    · rename_i y hy
      cases hv
      exact hy
    · cases hv
  | const _ => exact fun t v hv => ⟨v, hv, Same.refl v⟩
  | global _ => exact fun t v hv => ⟨v, hv, Same.refl v⟩
  | func _ => exact fun t v hv => ⟨v, hv, Same.refl v⟩
theorem joinX_spec {e : Env} {l r : Code} {t : Nat} {x : Bool} (h : joinX cx e t l r = some x) : lk e t = some (.v (.c (.b x))) ∧ flat cx l = true ∧ flat cx r = true ∧ t ∈ dsC l ++ dsC r := by
  unfold joinX at h
  split at h
  · rename_i x' hx
    cases hb : (flat cx l && flat cx r && mem t (dsC l ++ dsC r) && asgC t l && asgC t r) with
    | false => simp [hb] at h
    | true =>
      simp only [hb, cond_true, Option.some.injEq] at h
      subst h
      simp only [Bool.and_eq_true] at hb
      exact ⟨hx, hb.1.1.1.1, hb.1.1.1.2, mem_iff.1 hb.1.1.2⟩
  · cases h
theorem joinO_spec {e : Env} {y : Operand} {l r : Code} {t : Nat} {x : Bool} (h : joinO cx e y l r = some (t, x)) : y = .tmp t ∧ joinX cx e t l r = some x := by
  unfold joinO at h
  split at h
  · rw [Option.map_eq_some_iff] at h
    obtain ⟨x', h1, h2⟩ := h
    cases h2
    exact ⟨rfl, h1⟩
  · cases h
theorem Inv.trans {H : List Bk} {d1 d2 : List Nat} {e : Env} {st st' : St} (h : Inv H d1 e st) (h' : Inv st.2 d2 st.1 st') : Inv H (d1 ++ d2) e st' := by
  refine ⟨h'.1.trans h.1, fun t v ht hv => ?_⟩
  simp only [List.mem_append, not_or] at ht
  obtain ⟨v1, h1, h2⟩ := h.2 t v ht.1 hv
  obtain ⟨v2, h3, h4⟩ := h'.2 t v1 ht.2 h1
  exact ⟨v2, h3, fun ρ R u hu => h2 ρ R u (h4 ρ R u hu)⟩
theorem Inv.refl (H : List Bk) (ds : List Nat) (e : Env) : Inv H ds e (e, H) := ⟨rfl, fun t v _ hv => ⟨v, hv, Same.refl v⟩⟩
theorem Inv.mono {H : List Bk} {d1 d2 : List Nat} {e : Env} {st : St} (hd : ∀ t, t ∈ d1 → t ∈ d2) (h : Inv H d1 e st) : Inv H d2 e st := ⟨h.1, fun t v ht hv => h.2 t v (fun hm => ht (hd t hm)) hv⟩
theorem wall_bind' {α β : Type} {K : α → Prop} {K' : β → Prop} {g : α → Tr β} (hg : ∀ x, K x → (g x).wall K') : ∀ {t : Tr α}, t.wall K → (t.bind g).wall K'
  | .ret x, h => hg x h
  | .ite _ _ _, h => ⟨fun hb => wall_bind' hg (h.1 hb), fun hb => wall_bind' hg (h.2 hb)⟩
  | .ass _ _, h => fun hp => wall_bind' hg (h hp)
  | .both _ _, h => ⟨wall_bind' hg h.1, wall_bind' hg h.2⟩
  | .hyp _ _, h => fun hp => wall_bind' hg (h hp)
  | .any _ _, h => fun x => wall_bind' hg (h x)
  | .stuck _, _ => trivial
theorem Inv.know {H : List Bk} {ds : List Nat} {e : Env} {x : Operand} {v b : Bool} (hv : evS e x = some (.b v)) (hb : v = b) {st : St} (h : Inv H ds (knowX x b e) st) : ∀ t u, t ∉ ds → lk e t = some u → ∃ v', lk st.1 t = some v' ∧ Same v' u := by
  cases x with
  | tmp s =>
    have hs : lk e s = some (.v (.c (.b v))) := by
      simp only [evS, ev] at hv
      split at hv
      · rename_i y hy
        cases hv
        exact hy
      · cases hv
    exact (Inv.known hb hs h).2
  | const _ => exact h.2
  | global _ => exact h.2
  | func _ => exact h.2
/-- a flat code changes no block, and no slot but its own -/
theorem runC_wall : ∀ (code : Code) (e : Env) (H : List Bk), flat cx code = true → (runC cx N W code e H).wall fun y => y.1 = .nor ∧ Inv H (dsC code) e y.2
  | .skip, e, H, _ => ⟨rfl, Inv.refl _ _ _⟩
  | .region id ops draw, e, H, h => by
    simp only [flat, Bool.and_eq_true, Bool.not_eq_true'] at h
    rw [h.1]
    simp only [runC, cond_false]
    exact wall_bind' (K := Inv H (dsts (Y.len ops.toList) ops.toList) e) (K' := fun y => y.1 = X.nor ∧ Inv H (dsts (Y.len ops.toList) ops.toList) e y.2) (g := fun st => .ret (X.nor, st.1, st.2)) (fun st hst => ⟨rfl, hst⟩) (runN_wall ops.toList _ _ _ e H h.2)
  | .seq a b, e, H, h => by
    simp only [flat, Bool.and_eq_true] at h
    simp only [runC]
    refine wall_bind' (fun y hy => ?_) (runC_wall a e H h.1)
    obtain ⟨x, e1, H1⟩ := y
    obtain ⟨hx, hinv⟩ := hy
    simp only at hx
    subst hx
    simp only
    refine wall_mono (fun y2 hy2 => ⟨hy2.1, ?_⟩) (runC_wall b e1 H1 h.2)
    exact Inv.trans hinv hy2.2
  | .cond x a b, e, H, h => by
    simp only [flat, Bool.and_eq_true] at h
    simp only [runC]
    have hL : ∀ {e1 : Env} {st : St}, Inv H (dsC a) e1 st → Inv H (dsC a ++ dsC b) e1 st := fun h => h.mono fun t ht => List.mem_append_left _ ht
    have hRr : ∀ {e1 : Env} {st : St}, Inv H (dsC b) e1 st → Inv H (dsC a ++ dsC b) e1 st := fun h => h.mono fun t ht => List.mem_append_right _ ht
    split
    · rename_i t y hj
      obtain ⟨rfl, hj2⟩ := joinO_spec hj
      obtain ⟨hlk, _, _, hmem⟩ := joinX_spec hj2
      refine wall_bind (fun z => ?_) _
      show X.nor = X.nor ∧ Inv H (dsC a ++ dsC b) e ((t, .v (.c (.b z))) :: dropD (t :: (dsC a ++ dsC b)) e, H)
      refine ⟨rfl, rfl, fun t' v ht hv => ?_⟩
      have htt : t ≠ t' := fun e => by subst e; exact ht hmem
      refine ⟨v, ?_, Same.refl v⟩
      show lk ((t, .v (.c (.b z))) :: dropD (t :: (dsC a ++ dsC b)) e) t' = some v
      rw [lk_cons, if_neg htt, lk_dropD, if_neg]
      · exact hv
      · simp only [List.mem_cons, not_or]
        exact ⟨fun e => htt e.symm, ht⟩
    split
    · rename_i v hv
      cases v with
      | true => exact wall_mono (fun y hy => ⟨hy.1, hL hy.2⟩) (runC_wall a e H h.1)
      | false => exact wall_mono (fun y hy => ⟨hy.1, hRr hy.2⟩) (runC_wall b e H h.2)
    · rename_i v hv
      refine ⟨fun hb => wall_mono (fun y hy => ⟨hy.1, ?_⟩) (runC_wall a (knowX x true e) H h.1), fun hb => wall_mono (fun y hy => ⟨hy.1, ?_⟩) (runC_wall b (knowX x false e) H h.2)⟩
      · have h1 := hL hy.2
        refine ⟨h1.1, fun t u ht hu => ?_⟩
        exact Inv.know hv hb h1 t u ht hu
      · have h1 := hRr hy.2
        refine ⟨h1.1, fun t u ht hu => ?_⟩
        exact Inv.know hv hb h1 t u ht hu
    · exact trivial
  | .block .., _, _, h => by cases h
  | .loop _, _, _, h => by cases h
  | .exit _, _, _, h => by cases h
  | .ret, _, _, h => by cases h
  | .rangeFunc .., _, _, h => by cases h
  | .scope _, _, _, h => by cases h
  | .label _, _, _, h => by cases h
  | .goto _, _, _, h => by cases h
  | .refuse _, _, _, h => by cases h
include hcx in
theorem runC_sound (hR : repR W c.R) : ∀ (code : Code) (Q : Exit → Act → World → Prop) (e : Env) (H : List Bk), LpOK P cx c ρ0 N W code → (runC cx N W code e H).all (fun y => YE c ρ0 Q N (toX y.1) y.2.1 y.2.2) → YC P c ρ0 Q N code e H
  | .skip, Q, e, H, _, h => fun ρ e' H' hx0 he hH => TC.skipE (h ρ e' H' hx0 he hH)
  | .region id ops false, Q, e, H, _, h => fun ρ e' H' hx0 he hH => by
    simp only [runC, cond_false] at h
    have h := Tr.all_bind h
    unfold runL at h
    have : YL P c ρ0 ops Q N ops.toList e H := runN_sound hcx hR _ _ _ _ _ (Tr.all_mono (fun st hst => by
      rw [len_eq, List.drop_length]
      intro ρ e' H' hx0 he hH
      exact TL.nilE (hst ρ e' H' hx0 he hH)) h)
    exact TC.region (this ρ e' H' hx0 he hH)
  | .region id ops true, Q, e, H, _, h => by
    simp only [runC, cond_true] at h
    have h := Tr.all_bind h
    exact runDraw_sound hcx hcx.mixed hR h
  | .seq a b, Q, e, H, hl, h => fun ρ e' H' hx0 he hH => by
    simp only [runC] at h
    have h := Tr.all_bind h
    have h1 := runC_sound hR a (Exit.then (fun a w => b.wp P Q a w) Q) e H hl.1 (Tr.all_mono (fun y hy => by
      obtain ⟨x, e1, H1⟩ := y
      cases x with
      | nor =>
        have h2 := runC_sound hR b Q e1 H1 hl.2 hy
        intro ρ e' H' hx0 he hH
        exact TE.thenN (h2 ρ e' H' hx0 he hH)
      | ret => exact hy
      | ex id => exact hy) h)
    exact TC.seq (h1 ρ e' H' hx0 he hH)
  | .cond x a b, Q, e, H, hl, h => fun ρ e' H' hx0 he hH => by
    simp only [runC] at h
    split at h
    · rename_i t x' hj
      obtain ⟨rfl, hj2⟩ := joinO_spec hj
      obtain ⟨hlk, hfl, hfr, _⟩ := joinX_spec hj2
      have h := Tr.all_bind h
      obtain ⟨hT, hF⟩ := mrgT_all h
      have hway : ∀ (y : Bool) (k : Code), x' = y → flat cx k = true → (∀ s, s ∈ dsC k → s ∈ dsC a ++ dsC b) → ((runC cx N W k ((t, .v (.c (.kb y))) :: e) H).bind (lastX t)).all (fun z => YE c ρ0 Q N .normal ((t, .v (.c (.b z))) :: dropD (t :: (dsC a ++ dsC b)) e) H) →
          (∀ e H, (runC cx N W k e H).all (fun y => YE c ρ0 Q N (toX y.1) y.2.1 y.2.2) → YC P c ρ0 Q N k e H) → YC P c ρ0 Q N k e H := fun y k hxy hfk hsub hh ihk => by
        subst hxy
        have h1 : YC P c ρ0 Q N k ((t, .v (.c (.kb x'))) :: e) H := by
          refine ihk _ _ (Tr.all_mono (fun st hst => ?_) (all_wall (Tr.all_bind hh) (runC_wall k ((t, .v (.c (.kb x'))) :: e) H hfk)))
          obtain ⟨hst, hn, hinv⟩ := hst
          obtain ⟨xx, e1, H1⟩ := st
          simp only at hn
          subst hn
          simp only [lastX, lastB] at hst
          split at hst
          · rename_i s hs
            obtain ⟨z, hz, hst⟩ := peelO hst
            have hH1 : H1 = H := hinv.1
            show YE c ρ0 Q N .normal e1 H1
            rw [hH1]
            refine YE.weaken (fun t' v hv => ?_) hst
            rw [lk_cons] at hv
            by_cases htt : t = t'
            · subst htt
              rw [if_pos rfl] at hv
              cases hv
              exact ⟨_, hs, fun ρ R u hu => bo_rep hz hu⟩
            · rw [if_neg htt, lk_dropD] at hv
              split at hv
              · cases hv
              · rename_i hnm
                simp only [List.mem_cons, not_or] at hnm
                obtain ⟨v', h3, h4⟩ := hinv.2 t' v (fun hm => hnm.2 (hsub _ hm)) (by rw [lk_cons, if_neg htt]; exact hv)
                exact ⟨v', h3, h4⟩
          · exact hst.elim
        exact YC.weaken (Sub.known hlk rfl) h1
      have hev : Z.ev e' (.tmp t) = some (.bool x') := evS_bool (x := .tmp t) (y := .b x') he (by simp [evS, ev, hlk]) rfl
      refine TC.cond hev (fun hb => ?_) (fun hb => ?_)
      · exact hway true a hb hfl (fun s hs => List.mem_append_left _ hs) (hT hb) (fun e H h => runC_sound hR a Q e H hl.1 h) ρ e' H' hx0 he hH
      · exact hway false b hb hfr (fun s hs => List.mem_append_right _ hs) (hF hb) (fun e H h => runC_sound hR b Q e H hl.2 h) ρ e' H' hx0 he hH
    split at h
    · rename_i v hv
      have hev := evS_bool he hv rfl
      cases v with
      | true => exact TC.condT hev (runC_sound hR a Q e H hl.1 h ρ e' H' hx0 he hH)
      | false => exact TC.condF hev (runC_sound hR b Q e H hl.2 h ρ e' H' hx0 he hH)
    · rename_i v hv
      have hev := evS_bool he hv rfl
      exact TC.cond hev (fun hb => YC.weaken (knowX_sub hv hb) (runC_sound hR a Q _ H hl.1 (h.1 hb)) ρ e' H' hx0 he hH) (fun hb => YC.weaken (knowX_sub hv hb) (runC_sound hR b Q _ H hl.2 (h.2 hb)) ρ e' H' hx0 he hH)
    · exact h.elim
  | .block id a, Q, e, H, hl, h => fun ρ e' H' hx0 he hH => by
    simp only [runC] at h
    have h := Tr.all_bind h
    refine TC.block (runC_sound hR a (Exit.inBlock id Q) e H hl (Tr.all_mono (fun y hy => ?_) h) ρ e' H' hx0 he hH)
    obtain ⟨x, e1, H1⟩ := y
    intro ρ e' H' hx0 he hH
    cases x with
    | nor => exact TE.inN (hy ρ e' H' hx0 he hH)
    | ret => exact TE.inRet (hy ρ e' H' hx0 he hH)
    | ex n =>
      simp only at hy
      cases hb : Nat.beq n id with
      | true =>
        simp only [hb, cond_true] at hy
        have := Nat.eq_of_beq_eq_true hb
        subst this
        exact TE.inExit (hy ρ e' H' hx0 he hH)
      | false =>
        simp only [hb, cond_false] at hy
        exact TE.inOther hb (hy ρ e' H' hx0 he hH)
  | .loop a, Q, e, H, hl, h => by
    simp only [runC] at h
    split at h
    · rename_i g hg
      exact hl g hg Q e H h
    · exact h.elim
  | .exit id, Q, e, H, _, h => fun ρ e' H' hx0 he hH => TC.exit (h ρ e' H' hx0 he hH)
  | .ret, Q, e, H, _, h => fun ρ e' H' hx0 he hH => TC.ret (h ρ e' H' hx0 he hH)
  | .rangeFunc .., _, _, _, _, h => h.elim
  | .scope _, _, _, _, _, h => h.elim
  | .label _, _, _, _, _, h => h.elim
  | .goto _, _, _, _, _, h => h.elim
  | .refuse _, _, _, _, _, h => h.elim
end
end Go.Y
