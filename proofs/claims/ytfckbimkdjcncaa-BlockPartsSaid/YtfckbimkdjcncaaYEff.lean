/- Effects: stores, new blocks, calls that write. Generic in the program. -/
import Derived.Test.YtfckbimkdjcncaaYCall
set_option linter.unusedSimpArgs false
set_option linter.unusedVariables false
namespace Go.Y
open Go.Z (Row Blk plainV Keep KeepP RowAt Fits runsTo Pre Cx)
/-- what an effect leaves -/
def Eff (c : Cx) (ρ : List Nat) (Ψ : Rs → Prop) (w : World) (v : Value) (w' : World) : Prop :=
  ∃ (rs : Rs) (ρ' : List Nat) (H1' : List Blk), Ψ rs ∧ (∀ (n b : Nat), ρ[n]? = some b → ρ'[n]? = some b) ∧ repV ρ' c.R rs.v v ∧ repH ρ' c.R rs.H H1' ∧ Z.Good c w' H1' ∧
    KeepP (fun k => ∃ n ∈ rs.tch, ρ[n]? = some k) w w' ∧ (∀ (n b : Nat), ρ.length ≤ n → ρ'[n]? = some b → w.heap.size ≤ b)
theorem ext_app (ρ new : List Nat) : ∀ (n b : Nat), ρ[n]? = some b → (ρ ++ new)[n]? = some b := fun n b h => by
  rw [List.getElem?_append_left (List.getElem?_eq_some_iff.1 h).1]
  exact h
section
variable {P : Program} {ρ : List Nat} {c : Cx} {H : List Bk} {H' : List Blk} {W : List Rw}
theorem repH.mono {ρ' : List Nat} {R : List Row} (hρ : ∀ (n b : Nat), ρ[n]? = some b → ρ'[n]? = some b) (h : repH ρ R H H') : A2 (repB ρ' R) H H' := h.bs.mono fun _ _ hx => hx.mono hρ
theorem repH.len {R : List Row} (h : repH ρ R H H') : ρ.length = H.length := by rw [h.ids, List.length_map, h.bs.len]
theorem A2.setR {α β : Type} {r : α → β → Prop} : ∀ {xs : List α} {ys : List β} {n : Nat} {x : α} {y : β}, A2 r xs ys → r x y → A2 r (xs.set n x) (ys.set n y)
  | _, _, n, _, _, h, hxy => h.set hxy n
/-- a new block -/
theorem eff_new {Ψ : Rs → Prop} (hH : repH ρ c.R H H') {w : World} (hw : Z.Good c w H') {t : Nat} {ss : List Seg} {cs : List Value} {x : Sc} {v : Value} (hcs : repG ρ c.R ss cs) (h : Ψ ⟨rd1 x, H ++ [⟨t, ss, true⟩], []⟩)
    (hx : ∀ ρ' : List Nat, ρ'[Y.len H]? = some w.heap.size → repS ρ' c.R x v) : Eff c ρ Ψ w v (w.alloc (.cells cs.toArray t)) := by
  have hl : Y.len H = ρ.length := by rw [len_eq, hH.len]
  refine ⟨_, ρ ++ [w.heap.size], H' ++ [⟨w.heap.size, t, cs, (0, 0), true⟩], h, ext_app _ _, hx _ (by rw [hl]; simp), ⟨by simp [hH.ids], ?_⟩, hw.alloc t cs (0, 0), ?_, ?_⟩
  · exact (repH.mono (ext_app _ _) hH).app (.cons ⟨rfl, rfl, rfl, hcs.mono (ext_app _ _)⟩ .nil)
  · exact ⟨by rw [Z.heap_alloc_size]; omega, fun k hk _ => Z.heap_alloc_old _ _ hk, rfl, rfl, rfl⟩
  · intro n b hn hb
    rw [List.getElem?_append_right hn] at hb
    have := (List.getElem?_eq_some_iff.1 hb).1
    simp at this
    have hn0 : n - ρ.length = 0 := by omega
    rw [hn0] at hb
    simp at hb
    omega
theorem good_sub {w : World} {L T : List Blk} (h : Z.Good c w L) (hm : ∀ x ∈ T, x ∈ L) (hn : (T.map Blk.b).Nodup) : Z.Good c w T :=
  ⟨fun x hx => h.has x (hm x hx), hn, fun x hx => h.mine x (hm x hx), fun x hx => h.own x (hm x hx), h.keep, fun r hr => ⟨(h.rows r hr).1, fun x hx => (h.rows r hr).2 x (hm x hx)⟩⟩
/-- a block's cells turned -/
theorem setB_set : ∀ (H : List Blk) (i : Nat) (B : Blk) (cs : List Value), H[i]? = some B → Z.setB H i cs = H.set i { B with cs := cs }
  | [], _, _, _, h => by simp at h
  | _ :: _, 0, _, _, h => by simp at h; subst h; rfl
  | x :: r, i + 1, B, cs, h => by simp at h; simp [Z.setB, setB_set r i B cs h]
theorem eff_set {Ψ : Rs → Prop} (hH : repH ρ c.R H H') {w : World} (hw : Z.Good c w H') {n : Nat} {B : Bk} {B' : Blk} (hB : nth H n = some B) (hB' : H'[n]? = some B') (hwr : B.wr = true) {ss : List Seg} {o : Nat} {vs : List Value} (hvs : vs.all plainV = true)
    (hss : repG ρ c.R ss (Z.setL B'.cs o vs)) (ho : o + vs.length ≤ B'.cs.length) (h : Ψ ⟨.und, setAt H n ⟨B.t, ss, true⟩, [n]⟩) :
    ∃ w', (storeCells ⟨B'.b, o, none⟩ vs 0).run P w = .ok () w' ∧ Eff c ρ Ψ w undef w' := by
  obtain ⟨B'', hB'', hrep, hid⟩ := hH.nth hB
  rw [hB'] at hB''
  cases hB''
  have hwr' : B'.wr = true := by rw [hrep.wr, hwr]
  obtain ⟨w', hrun, hgood⟩ := Z.run_storeCells (P := P) vs 0 hw hB' hwr' hrep.fz hvs (o := o) (by omega)
  have h1 : Z.Good ⟨w, [B'.b], [B'.b], []⟩ w [B'] := ⟨fun x hx => by rw [List.mem_singleton] at hx; subst hx; exact hw.has _ (List.mem_of_getElem? hB'), by simp, fun x hx _ => by rw [List.mem_singleton] at hx; subst hx; exact .inr (by simp),
    fun x hx => by rw [List.mem_singleton] at hx; subst hx; exact .inr (by simp), Keep.refl _ _, fun r hr => by cases hr⟩
  obtain ⟨w2, hrun2, hgood2⟩ := Z.run_storeCells (P := P) (i := 0) vs 0 h1 rfl hwr' hrep.fz hvs (o := o) (by omega)
  have hww : w2 = w' := by rw [hrun] at hrun2; injection hrun2 with _ h3; exact h3.symm
  subst hww
  rw [setB_set _ _ _ _ hB'] at hgood
  refine ⟨w2, hrun, _, ρ, _, h, fun _ _ hb => hb, rfl, ⟨?_, ?_⟩, hgood, ?_, ?_⟩
  · rw [hH.ids]
    have hlt := (List.getElem?_eq_some_iff.1 hB').1
    have he := (List.getElem?_eq_some_iff.1 hB').2
    apply List.ext_getElem?
    intro i
    simp only [List.getElem?_map, List.getElem?_set]
    split
    · rename_i hni
      subst hni
      rw [hB']
      rfl
    · rfl
  · rw [setAt_eq]
    refine A2.set hH.bs (?_ : repB ρ c.R ⟨B.t, ss, true⟩ _) n
    exact ⟨hrep.t, hwr', hrep.fz, by simpa using hss⟩
  · exact hgood2.keep.toP fun k hk => by rw [List.mem_singleton] at hk; subst hk; exact ⟨n, by simp, hid⟩
  · intro m b hm hb
    have := (List.getElem?_eq_some_iff.1 hb).1
    omega
theorem ones_rep {R : List Row} : ∀ {ss : List Seg} {cs : List Sc} {vs : List Value}, ones ss = some cs → repG ρ R ss vs → A2 (repS ρ R) cs vs
  | [], cs, vs, h, hr => by cases h; exact hr.2
  | .one x :: r, cs, vs, h, ⟨hw, hr⟩ => by
    simp only [ones, Option.map_eq_some_iff] at h
    obtain ⟨cs', h', rfl⟩ := h
    obtain ⟨v, us, rfl, h1, h2⟩ := A2.cons_inv hr
    exact .cons h1 (ones_rep h' ⟨hw, h2⟩)
  | .arr .. :: _, _, _, h, _ => by cases h
theorem scOf_rep {R : List Row} {x : V1} {cs : List Sc} {v : Value} {vs : List Value} (h : scOf x = some cs) (hv : repG ρ R (segsOf x) vs) : A2 (repS ρ R) cs vs := by
  cases x with
  | c x => cases h; exact hv.2
  | agg ss => exact ones_rep h hv
theorem elL_rep {R : List Row} {ss qs r : List Seg} {o sz : Nat} {cs vs : List Value} (h : elL sz o qs ss = some r) (hs : repG ρ R ss cs) (hx : repG ρ R qs vs) : repG ρ R r (Z.setL cs o vs) ∧ o + vs.length ≤ cs.length ∧ vs.length = sz := by
  unfold elL at h
  split at h
  · rename_i id k l
    cases hq : (Nat.beq (Sh.sz id) sz && Nat.blt 0 sz && Nat.beq (o % sz) 0 && Nat.blt (o / sz) k) with
    | false => simp only [hq, cond_false] at h; cases h
    | true =>
      simp only [hq, cond_true] at h
      simp only [Bool.and_eq_true] at hq
      obtain ⟨⟨⟨q1, q2⟩, q3⟩, q4⟩ := hq
      have q1 := Nat.eq_of_beq_eq_true q1
      have q2 := blt_lt q2
      have q3 := Nat.eq_of_beq_eq_true q3
      have q4 := blt_lt q4
      rw [Option.map_eq_some_iff] at h
      obtain ⟨z, hz, rfl⟩ := h
      rw [Option.bind_eq_some_iff] at hz
      obtain ⟨zc, hzc, hz⟩ := hz
      have hun := Sh.un_rep id hz (ones_rep hzc hx)
      have hul : vs.length = Sh.sz id := by rw [← hun.len, Sh.f_len]
      have hln : l.length = k := hs.1.1
      have hcs : A2 (repS ρ R) (l.flatMap (Sh.f id)) cs := by have := hs.2; simpa [cellsOf] using this
      have ho : o / sz * sz = o := Nat.div_mul_cancel (Nat.dvd_of_mod_eq_zero q3)
      have hcl : cs.length = l.length * Sh.sz id := by rw [← hcs.len, flat_len]
      have hset := el_set hcs (m := o / sz) (by omega) hun
      subst q1
      have hle : o + Sh.sz id ≤ cs.length := by
        rw [hcl]
        have := Nat.mul_le_mul_right (Sh.sz id) (show o / Sh.sz id + 1 ≤ l.length by omega)
        rw [Nat.add_mul, Nat.one_mul, ho] at this
        exact this
      rw [ho] at hset
      rw [setAt_eq]
      refine ⟨⟨⟨by simpa using hln, trivial⟩, ?_⟩, by omega, hul⟩
      rw [Zset_eq (by omega), hul]
      simpa [cellsOf] using hset
  · cases h
theorem layV_rep {R : List Row} {ss qs : List Seg} {o sz : Nat} {x : V1} {cs vs : List Value} (h : layV ss o sz x = some qs) (hs : repG ρ R ss cs) (hx : repG ρ R (segsOf x) vs) : repG ρ R qs (Z.setL cs o vs) ∧ o + vs.length ≤ cs.length ∧ vs.length = sz := by
  cases x with
  | c x =>
    simp only [layV] at h
    cases hb : Nat.beq sz 1 with
    | false => simp [hb] at h
    | true =>
      simp only [hb, cond_true] at h
      obtain ⟨v, us, rfl, h1, h2⟩ := A2.cons_inv hx.2
      have := A2.nil' h2
      subst this
      obtain ⟨g1, g2⟩ := setC_rep hs h h1
      exact ⟨g1, by simp; omega, (Nat.eq_of_beq_eq_true hb).symm⟩
  | agg ys =>
    simp only [layV] at h
    cases he : elL sz o ys ss with
    | some r =>
      simp only [he, orO, Option.some.injEq] at h
      subst h
      exact elL_rep he hs hx
    | none =>
    simp only [he, orO] at h
    cases hb : Nat.beq sz ((ys.map segSz).foldr (· + ·) 0) with
    | false => simp [hb] at h
    | true =>
      simp only [hb, cond_true] at h
      obtain ⟨g1, g2⟩ := setN_rep hs h hx
      rw [Zset_eq g2]
      refine ⟨g1, g2, ?_⟩
      rw [Nat.eq_of_beq_eq_true hb, ← hx.2.len]
      have : ∀ {ys : List Seg}, wfG ys → (cellsOf ys).length = (ys.map segSz).foldr (· + ·) 0 := by
        intro ys
        induction ys with
        | nil => intro _; rfl
        | cons s r ih => intro hw; rw [cells_len hw, ih (wfG_tail hw)]; rfl
      exact this hx.1
theorem setL_len : ∀ (ys : List Sc) (l : List Sc) (o : Nat), (Y.setL l o ys).length = l.length
  | [], _, _ => rfl
  | y :: r, l, o => by rw [Y.setL, setL_len r, setAt_eq]; simp
theorem setLc_rep {R : List Row} : ∀ {ys : List Sc} {us : List Value} {l : List Sc} {cs : List Value} (o : Nat), A2 (repS ρ R) l cs → A2 (repS ρ R) ys us → A2 (repS ρ R) (Y.setL l o ys) (Z.setL cs o us)
  | [], _, _, _, _, h, h' => by have := A2.nil' h'; subst this; exact h
  | y :: r, _, l, cs, o, h, .cons h0 ht => by
    simp only [Y.setL, Z.setL, setAt_eq]
    exact setLc_rep (o + 1) (h.set h0 o) ht
theorem storeE_sound {t : Nat} {ti : TyI} (hti : TyOK P t ti) (hH : repH ρ c.R H H') {y : V1} {b : Value} (hy : rep1 ρ c.R y b) {x : Sc} {u : Value} (hu : repS ρ c.R x u) {Ψ : Rs → Prop} (h : (storeE ti H y x).all Ψ) {w : World} (hw : Z.Good c w H') :
    ∃ w', (Instr.storeAt t u b).run P w = .ok () w' ∧ Eff c ρ Ψ w undef w' := by
  obtain ⟨vs, hcells, hvs⟩ := rep1.cells hy
  have hpl := repG.plain hvs
  unfold storeE at h
  split at h
  · rename_i n o
    obtain ⟨bb, hb, rfl⟩ := hu
    obtain ⟨B, hB, h⟩ := peel h
    obtain ⟨B', hB', hrep, hid⟩ := hH.nth hB
    rw [hb] at hid
    cases hid
    cases hwr : B.wr with
    | false => simp only [hwr, cond_false] at h; exact h.elim
    | true =>
      simp only [hwr, cond_true] at h
      obtain ⟨ss, hss, h⟩ := peel h
      obtain ⟨g1, g2, g3⟩ := layV_rep hss hrep.cs hvs
      obtain ⟨w', hrun, heff⟩ := eff_set (P := P) hH hw hB hB' hwr hpl g1 g2 (Ψ := Ψ) h
      refine ⟨w', ?_, heff⟩
      simp [Instr.storeAt, Instr.sureAddr, storeVar, hti.size w, hcells, g3, hrun]
  · rename_i n base sz m k
    obtain ⟨bb, hb, rfl⟩ := hu
    obtain ⟨B, hB, h⟩ := peel h
    obtain ⟨B', hB', hrep, hid⟩ := hH.nth hB
    rw [hb] at hid
    cases hid
    cases hwr : B.wr with
    | false => simp only [hwr, cond_false] at h; exact h.elim
    | true =>
      simp only [hwr, cond_true] at h
      obtain ⟨s, hs, h⟩ := peel h
      split at h
      · rename_i id k' l
        cases hz : Nat.beq (Sh.sz id) sz with
        | false => simp only [hz, cond_false] at h; exact h.elim
        | true =>
          simp only [hz, cond_true] at h
          have hz := Nat.eq_of_beq_eq_true hz
          subst hz
          obtain ⟨cs, hcs, h⟩ := peel h
          cases hq : (Nat.beq ti.sz (Y.len cs) && Nat.ble (k + Y.len cs) (Sh.sz id)) with
          | false => simp only [hq, cond_false] at h; exact h.elim
          | true =>
            simp only [hq, cond_true] at h
            simp only [Bool.and_eq_true] at hq
            have hq1 := Nat.eq_of_beq_eq_true hq.1
            have hq2 := Nat.le_of_ble_eq_true hq.2
            rw [len_eq] at hq1 hq2
            obtain ⟨hm, h⟩ := h
            obtain ⟨z, hzz, h⟩ := peel (h hm)
            obtain ⟨ss, hss, h⟩ := peel h
            obtain ⟨hl, c1, c2, c3, hcc, e1, a2, e2⟩ := arr_mid hrep.cs hs
            have hcv := scOf_rep (v := b) hcs hvs
            have hlv : vs.length = cs.length := hcv.len.symm
            have hml : m < l.length := by rw [hl]; exact hm
            have hel := Sh.un_rep id hzz (setLc_rep k (el_rep a2 hml) hcv)
            have hset := el_set a2 hml hel
            obtain ⟨pre, post, hpre, hpost, hplen⟩ := setR_split hrep.cs.1 hs hss
            have hle : m * Sh.sz id + Sh.sz id ≤ c2.length := by
              rw [e2]
              have := Nat.mul_le_mul_right (Sh.sz id) (show m + 1 ≤ k' by omega)
              rwa [Nat.add_mul, Nat.one_mul] at this
            have hmid : Z.setL B'.cs (base + m * Sh.sz id + k) vs = c1 ++ (c2.take (m * Sh.sz id) ++ Z.setL ((c2.drop (m * Sh.sz id)).take (Sh.sz id)) k vs ++ c2.drop (m * Sh.sz id + Sh.sz id)) ++ c3 := by
              have hq : ((c2.drop (m * Sh.sz id)).take (Sh.sz id)).length = Sh.sz id := by simp; omega
              rw [Zset_eq (cs := (c2.drop (m * Sh.sz id)).take (Sh.sz id)) (by rw [hq]; omega), Zset_eq (by rw [hcc]; simp; omega), hcc]
              have hms := mid_split c2 (m * Sh.sz id) (Sh.sz id)
              have hme := mid_split ((c2.drop (m * Sh.sz id)).take (Sh.sz id)) k vs.length
              generalize hA : c2.take (m * Sh.sz id) = A at *
              generalize hD : c2.drop (m * Sh.sz id + Sh.sz id) = D at *
              generalize hE : (c2.drop (m * Sh.sz id)).take (Sh.sz id) = E at *
              have hAl : A.length = m * Sh.sz id := by rw [← hA]; simp; omega
              rw [hms]
              have t1 : (c1 ++ (A ++ E ++ D) ++ c3).take (base + m * Sh.sz id + k) = c1 ++ A ++ E.take k := by
                have : c1 ++ (A ++ E ++ D) ++ c3 = (c1 ++ A) ++ (E ++ (D ++ c3)) := by simp
                rw [this, List.take_append, List.take_of_length_le (by simp; omega)]
                congr 1
                rw [List.take_append_of_le_length (by simp; omega)]
                congr 1
                simp; omega
              have t2 : (c1 ++ (A ++ E ++ D) ++ c3).drop (base + m * Sh.sz id + k + vs.length) = E.drop (k + vs.length) ++ D ++ c3 := by
                have : c1 ++ (A ++ E ++ D) ++ c3 = (c1 ++ A) ++ (E ++ (D ++ c3)) := by simp
                rw [this, List.drop_append, List.drop_of_length_le (by simp; omega), List.nil_append, List.drop_append_of_le_length (by simp; omega)]
                rw [List.append_assoc]
                congr 1
                congr 1
                simp; omega
              rw [t1, t2]
              simp
            have hrg : repG ρ c.R ss (Z.setL B'.cs (base + m * Sh.sz id + k) vs) := by
              have hw0 := hrep.cs.1
              rw [hpre] at hw0
              obtain ⟨w1, w2⟩ := wfG_app.1 hw0
              have hr0 := hrep.cs.2
              rw [hpre, cellsOf_app] at hr0
              obtain ⟨d1, d2, hd, b1, b2⟩ := hr0.split
              simp only [cellsOf] at b2
              obtain ⟨d3, d4, rfl, b3, b4⟩ := b2.split
              have l1 : d1.length = base := by rw [← b1.len, hplen]
              have l3 : d3.length = k' * Sh.sz id := by rw [← b3.len, flat_len, hl]
              have hcd : c1 = d1 ∧ c2 ++ c3 = d3 ++ d4 := List.append_inj (by rw [← List.append_assoc, ← hcc, hd]) (by rw [e1, l1])
              obtain ⟨rfl, hcd⟩ := hcd
              obtain ⟨rfl, rfl⟩ := List.append_inj hcd (by rw [e2, l3])
              refine ⟨?_, ?_⟩
              · rw [hpost]
                exact wfG_app.2 ⟨w1, by simp [hl], w2.2⟩
              · rw [hpost, cellsOf_app, hmid, List.append_assoc]
                refine b1.app ?_
                simp only [cellsOf]
                exact hset.app b4
            have hbd : base + m * Sh.sz id + k + vs.length ≤ B'.cs.length := by rw [hcc]; simp; omega
            obtain ⟨w', hrun, heff⟩ := eff_set (P := P) hH hw hB hB' hwr hpl hrg hbd (Ψ := Ψ) h
            refine ⟨w', ?_, heff⟩
            simp [Instr.storeAt, Instr.sureAddr, storeVar, hti.size w, hcells, hlv, hq1, hrun]
      · exact h.elim
  · exact h.elim
/-! ### Calls that write -/
def putR : List Nat → List Blk → List Blk → List Blk
  | [], H, new => H ++ new
  | n :: r, H, B :: Bs => putR r (H.set n B) Bs
  | _ :: _, H, [] => H
theorem put_rep {ρn : List Nat} {R : List Row} {g : Nat → Nat} : ∀ {ns : List Nat} {H Bs : List Bk} {H' Bs' : List Blk}, A2 (repB ρn R) H H' → A2 (repB ρn R) (Bs.map (rnB g)) Bs' → A2 (repB ρn R) (putB g ns H Bs) (putR ns H' Bs')
  | [], _, _, _, _, h, h' => h.app h'
  | n :: r, H, [], H', Bs', h, h' => by have := A2.nil' h'; subst this; exact h
  | n :: r, H, B :: Bs, H', Bs', h, h' => by
    obtain ⟨B', Bs'', rfl, h1, h2⟩ := A2.cons_inv h'
    simp only [putB, putR, setAt_eq]
    exact put_rep (h.set h1 n) h2
theorem putR_mem : ∀ {ns : List Nat} {H Bs : List Blk}, ∀ x ∈ putR ns H Bs, x ∈ Bs ∨ ∃ j, H[j]? = some x ∧ j ∉ ns.take Bs.length
  | [], H, Bs, x, hx => by
    rcases List.mem_append.1 hx with hx | hx
    · obtain ⟨j, hj, rfl⟩ := List.mem_iff_getElem.1 hx
      exact .inr ⟨j, List.getElem?_eq_getElem hj, by simp⟩
    · exact .inl hx
  | n :: r, H, [], x, hx => by
    obtain ⟨j, hj, rfl⟩ := List.mem_iff_getElem.1 hx
    exact .inr ⟨j, List.getElem?_eq_getElem hj, by simp⟩
  | n :: r, H, B :: Bs, x, hx => by
    rcases putR_mem (ns := r) x hx with hx | ⟨j, hj, hn⟩
    · exact .inl (List.mem_cons_of_mem _ hx)
    · rw [List.getElem?_set] at hj
      split at hj
      · split at hj
        · cases hj; exact .inl List.mem_cons_self
        · cases hj
      · rename_i hne
        refine .inr ⟨j, hj, ?_⟩
        simp only [List.length_cons, List.take_succ_cons, List.mem_cons, not_or]
        exact ⟨fun e => hne e.symm, hn⟩
theorem putR_ids : ∀ {ns : List Nat} {H Bs : List Blk}, A2 (fun n (B : Blk) => (H.map Blk.b)[n]? = some B.b) ns (Bs.take ns.length) → (putR ns H Bs).map Blk.b = H.map Blk.b ++ (Bs.drop ns.length).map Blk.b
  | [], H, Bs, _ => by simp [putR]
  | n :: r, H, [], h => by simp at h; cases h
  | n :: r, H, B :: Bs, h => by
    simp only [List.length_cons, List.take_succ_cons] at h
    obtain ⟨B0, Bs0, he, h1, h2⟩ := A2.cons_inv h
    cases he
    have hm : (H.set n B).map Blk.b = H.map Blk.b := by
      apply List.ext_getElem?
      intro i
      simp only [List.getElem?_map, List.getElem?_set]
      split
      · rename_i hni
        subst hni
        rw [List.getElem?_map] at h1
        split
        · rw [h1]; rfl
        · rename_i hlt
          rw [List.getElem?_eq_none (by omega)] at h1
          cases h1
      · rfl
    have ih := putR_ids (ns := r) (H := H.set n B) (Bs := Bs) (by rw [hm]; exact h2)
    simp only [putR, List.length_cons, List.drop_succ_cons]
    rw [ih, hm]
theorem wrN_mem {R : List Row} (hH : repH ρ R H H') : ∀ {ns : List Nat} {n : Nat} {B : Blk}, n ∈ ns → H'[n]? = some B → B.wr = true → n ∈ wrN H ns
  | x :: r, n, B, hn, hB, hwr => by
    simp only [wrN]
    obtain ⟨B0, hB0, hrep⟩ := hH.bs.get' hB
    rcases List.mem_cons.1 hn with rfl | hn
    · rw [nth_eq, hB0]
      simp only
      rw [← hrep.wr, hwr]
      simp
    · have ih := wrN_mem hH hn hB hwr
      split
      · rename_i C _
        cases C.wr
        · exact ih
        · exact List.mem_cons_of_mem _ ih
      · exact ih
theorem callE_sound {f : FuncId} {con : Con} (hcon : ConOK P f con) (hro : con.ro = false) {vs : List SV} {args' : List Value} {Ψ : Rs → Prop} (h : (callE con vs H W).all Ψ) (hvs : A2 (repV ρ c.R) vs args') (hH : repH ρ c.R H H') (hR : repR W c.R)
    {w : World} (hw : Z.Good c w H') : Calls P f args'.toArray w fun en w' => ∃ v, en = .returned v ∧ Eff c ρ Ψ w v w' := by
  unfold callE at h
  simp only at h
  generalize callN vs H = ns at h
  obtain ⟨Bs, hBs, h⟩ := peel h
  cases hok : okN ns vs Bs with
  | false => simp only [hok, cond_false] at h; exact h.elim
  | true =>
  simp only [hok, cond_true] at h
  obtain ⟨hns, hna, hnb⟩ := okN_spec hok
  obtain ⟨Bs', p1, p2⟩ := pickB_rep hH hBs
  have h := Tr.all_bind h
  have hnd := hw.nodup
  have hg : ∀ n, n ∈ ns → ∀ b : Nat, ρ[n]? = some b → (Bs'.map Blk.b)[idx n ns]? = some b := fun n hn b hb => pick_ids p1 hH hn hb
  have hH1 : repH (Bs'.map Blk.b) c.R (Bs.map (rnB (idx · ns))) Bs' := ⟨rfl, rnBs_rep (fun n hn => hg n (hnb n hn)) p2⟩
  have hspec := hcon _ _ W _ h (fun e => by rw [hro] at e; cases e) (Bs'.map Blk.b) c.R args' Bs' (rnA_rep (fun n hn => hg n (hna n hn)) hvs) hH1 hR
  have hsub : ∀ x ∈ Bs', x ∈ H' := fun x hx => by
    obtain ⟨n, _, hn⟩ := pick_mem p1 x hx
    exact List.mem_of_getElem? hn
  have hnB := pick_nodup hnd hns p1
  have hpre : Pre w Bs' c.R := ⟨fun x hx => hw.has x (hsub x hx), hnB, fun r hr => ⟨(hw.rows r hr).1, fun x hx => (hw.rows r hr).2 x (hsub x hx)⟩⟩
  refine (hspec w hpre).mono ?_
  rintro en w' ⟨v, H2, rfl, ⟨sv, H1, ρ1, hΨ, hext, hv, hrep1⟩, hgood⟩
  have hnl : ns.length = Bs'.length := p1.len
  -- the callee's blocks keep their places
  have hfst : A2 (fun n (B : Blk) => (H'.map Blk.b)[n]? = some B.b) ns (H2.take ns.length) := by
    have hge : ∀ i, i < ns.length → ∃ B, H2[i]? = some B ∧ ∃ n, ns[i]? = some n ∧ (H'.map Blk.b)[n]? = some B.b := fun i hi => by
      obtain ⟨B', h1, h2⟩ := p1.get (List.getElem?_eq_getElem hi)
      have h3 := hext i B'.b (by rw [List.getElem?_map, h1]; rfl)
      rw [hrep1.ids, List.getElem?_map, Option.map_eq_some_iff] at h3
      obtain ⟨B, hB, e⟩ := h3
      exact ⟨B, hB, ns[i], List.getElem?_eq_getElem hi, by rw [List.getElem?_map, h2, e]; rfl⟩
    clear hgood hrep1 hspec hpre hΨ
    have : ∀ (ns : List Nat) (H2 : List Blk), (∀ i, i < ns.length → ∃ B, H2[i]? = some B ∧ ∃ n, ns[i]? = some n ∧ (H'.map Blk.b)[n]? = some B.b) → A2 (fun n (B : Blk) => (H'.map Blk.b)[n]? = some B.b) ns (H2.take ns.length) := by
      intro ns
      induction ns with
      | nil => intro H2 _; simpa using A2.nil
      | cons n r ih =>
        intro H2 hh
        obtain ⟨B, hB, n', hn', hb⟩ := hh 0 (by simp)
        cases H2 with
        | nil => simp at hB
        | cons B0 H2 =>
          simp at hB hn'
          subst hB hn'
          simp only [List.length_cons, List.take_succ_cons]
          exact .cons hb (ih H2 fun i hi => by simpa using hh (i + 1) (by simpa using hi))
    exact this ns H2 hge
  have hids := putR_ids hfst
  have hlen2 : ns.length ≤ H2.length := by have := hfst.len; rw [List.length_take] at this; omega
  -- the others
  have hother : Z.Good c w (Bs' ++ H'.filter fun B => !(Bs'.map Blk.b).contains B.b) := by
    refine good_sub hw (fun x hx => ?_) ?_
    · rcases List.mem_append.1 hx with hx | hx
      · exact hsub x hx
      · exact (List.mem_filter.1 hx).1
    · rw [List.map_append, List.nodup_append]
      refine ⟨hnB, (hnd.sublist (List.filter_sublist.map _)), fun a ha b hb e => ?_⟩
      subst e
      obtain ⟨y, hy, rfl⟩ := List.mem_map.1 hb
      have := (List.mem_filter.1 hy).2
      simp only [Bool.not_eq_true', List.contains_eq_mem, decide_eq_false_iff_not] at this
      exact this ha
  have hback := hother.back hgood
  have hinH : ∀ x ∈ putR ns H' H2, x ∈ H2 ++ H'.filter fun B => !(Bs'.map Blk.b).contains B.b := fun x hx => by
    rcases putR_mem x hx with hx | ⟨j, hj, hn⟩
    · exact List.mem_append_left _ hx
    · refine List.mem_append_right _ (List.mem_filter.2 ⟨List.mem_of_getElem? hj, ?_⟩)
      simp only [Bool.not_eq_true', List.contains_eq_mem, decide_eq_false_iff_not]
      intro hm
      obtain ⟨C, hC, e⟩ := List.mem_map.1 hm
      obtain ⟨n, hn', hC'⟩ := pick_mem p1 C hC
      have := id_inj hnd hj hC' e.symm
      subst this
      rw [List.take_of_length_le hlen2] at hn
      exact hn hn'
  have hnd2 : ((putR ns H' H2).map Blk.b).Nodup := by
    rw [hids, List.nodup_append]
    have h2 := hback.nodup
    rw [List.map_append, List.nodup_append] at h2
    have hH2 := h2.1
    have hsplit : H2.map Blk.b = (H2.take ns.length).map Blk.b ++ (H2.drop ns.length).map Blk.b := by rw [← List.map_append, List.take_append_drop]
    rw [hsplit, List.nodup_append] at hH2
    refine ⟨hnd, hH2.2.1, fun a ha b hb e => ?_⟩
    subst e
    obtain ⟨B, hB, rfl⟩ := List.mem_map.1 ha
    by_cases hin : B.b ∈ Bs'.map Blk.b
    · obtain ⟨C, hC, e⟩ := List.mem_map.1 hin
      obtain ⟨i, hi, rfl⟩ := List.mem_iff_getElem.1 hC
      have h3 := hext i Bs'[i].b (by rw [List.getElem?_map, List.getElem?_eq_getElem hi]; rfl)
      rw [hrep1.ids, List.getElem?_map, Option.map_eq_some_iff] at h3
      obtain ⟨D, hD, e2⟩ := h3
      refine hH2.2.2 B.b ?_ B.b hb rfl
      refine List.mem_map.2 ⟨D, ?_, by rw [e2, e]⟩
      have : (H2.take ns.length)[i]? = some D := by rw [List.getElem?_take, if_pos (by omega)]; exact hD
      exact List.mem_of_getElem? this
    · refine h2.2.2 B.b ?_ B.b (List.mem_map.2 ⟨B, List.mem_filter.2 ⟨hB, by simpa using hin⟩, rfl⟩) rfl
      rw [hsplit]
      exact List.mem_append_right _ hb
  have hgoodT := good_sub hback hinH hnd2
  have hbk : ∀ (n b : Nat), ρ1[n]? = some b → (ρ ++ (H2.drop ns.length).map Blk.b)[backN ns (Y.len H) n]? = some b := fun n b hb => by
    unfold backN
    rw [nth_eq]
    by_cases hn : n < ns.length
    · rw [List.getElem?_eq_getElem hn]
      simp only
      obtain ⟨B', h1, h2⟩ := p1.get (List.getElem?_eq_getElem hn)
      have h3 := hext n B'.b (by rw [List.getElem?_map, h1]; rfl)
      rw [hb] at h3
      cases h3
      refine ext_app _ _ _ _ ?_
      rw [hH.ids, List.getElem?_map, h2]
      rfl
    · have hnone : ns[n]? = none := List.getElem?_eq_none (by omega)
      rw [hnone]
      simp only
      rw [len_eq, len_eq, ← hH.len, List.getElem?_append_right (by omega), Nat.add_sub_cancel_left]
      rw [hrep1.ids] at hb
      rw [List.map_drop, List.getElem?_drop, show ns.length + (n - ns.length) = n by omega]
      exact hb
  refine ⟨v, rfl, _, ρ ++ (H2.drop ns.length).map Blk.b, putR ns H' H2, hΨ, ext_app _ _, rnV_rep (fun n _ b hb => hbk n b hb) hv, ⟨by rw [hids, hH.ids], ?_⟩, hgoodT, ?_, ?_⟩
  · exact put_rep (repH.mono (ext_app _ _) hH) (rnBs_rep (fun n _ b hb => hbk n b hb) hrep1.bs)
  · refine hgood.keep.toP fun k hk => ?_
    obtain ⟨x, hx, hwr, rfl⟩ := Z.mem_wids.1 hk
    obtain ⟨n, hn, hB⟩ := pick_mem p1 x hx
    exact ⟨n, wrN_mem hH hn hB hwr, by rw [hH.ids, List.getElem?_map, hB]; rfl⟩
  · intro n b hn hb
    rw [List.getElem?_append_right hn] at hb
    have hmem := List.mem_of_getElem? hb
    obtain ⟨B, hB, rfl⟩ := List.mem_map.1 hmem
    rcases hgood.own B (List.mem_of_mem_drop hB) with h1 | h1
    · exact h1
    · exfalso
      have h1 : B.b ∈ Bs'.map Blk.b := h1
      have hnd3 := hnd2
      rw [hids, List.nodup_append] at hnd3
      obtain ⟨C, hC, e⟩ := List.mem_map.1 h1
      exact hnd3.2.2 B.b (List.mem_map.2 ⟨C, hsub C hC, e⟩) B.b (List.mem_map.2 ⟨B, hB, rfl⟩) rfl
end
end Go.Y
