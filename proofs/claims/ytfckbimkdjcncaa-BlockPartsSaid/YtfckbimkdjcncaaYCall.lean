/- Calls: a callee's blocks by numbers of its own. Generic in the program. -/
import Derived.Test.YtfckbimkdjcncaaYPart
set_option linter.unusedSimpArgs false
set_option linter.unusedVariables false
namespace Go.Y
open Go.Z (Row Blk plainV Keep KeepP RowAt Fits runsTo Pre Good Cx)
theorem mem_iff {n : Nat} : ∀ {l : List Nat}, mem n l = true ↔ n ∈ l
  | [] => by simp [mem]
  | x :: r => by
    simp only [mem, Bool.or_eq_true, mem_iff (l := r), List.mem_cons]
    constructor
    · rintro (h | h)
      · exact .inl (Nat.eq_of_beq_eq_true h).symm
      · exact .inr h
    · rintro (rfl | h)
      · exact .inl (Nat.beq_refl _)
      · exact .inr h
theorem allIn_iff {ns : List Nat} : ∀ {l : List Nat}, allIn ns l = true ↔ ∀ n ∈ l, n ∈ ns
  | [] => by simp [allIn]
  | x :: r => by simp [allIn, Bool.and_eq_true, mem_iff, allIn_iff (l := r)]
theorem allLt_iff {n : Nat} : ∀ {l : List Nat}, allLt n l = true ↔ ∀ x ∈ l, x < n
  | [] => by simp [allLt]
  | x :: r => by
    have : Nat.blt x n = true ↔ x < n := by simp [Nat.blt_eq]
    simp [allLt, Bool.and_eq_true, this, allLt_iff (l := r)]
theorem nodupB_nodup : ∀ {l : List Nat}, nodupB l = true → l.Nodup
  | [], _ => by simp
  | x :: r, h => by
    simp only [nodupB, Bool.and_eq_true, Bool.not_eq_true'] at h
    refine List.nodup_cons.2 ⟨fun hm => ?_, nodupB_nodup h.2⟩
    rw [mem_iff.2 hm] at h
    cases h.1
theorem idx_get {n : Nat} : ∀ {ns : List Nat}, n ∈ ns → ns[idx n ns]? = some n
  | [], h => by cases h
  | x :: r, h => by
    unfold idx
    cases hb : Nat.beq x n with
    | true => simp [Nat.eq_of_beq_eq_true hb]
    | false =>
      have : n ∈ r := by
        rcases List.mem_cons.1 h with rfl | h
        · rw [Nat.beq_refl] at hb; cases hb
        · exact h
      simp only [cond_false, List.getElem?_cons_succ]
      exact idx_get this
/-! ### Told anew -/
section
variable {R : List Row} {ρa ρb : List Nat} {g : Nat → Nat}
theorem rnS_rep {x : Sc} {v : Value} (hg : ∀ n ∈ nmS x, ∀ b : Nat, ρa[n]? = some b → ρb[g n]? = some b) (h : repS ρa R x v) : repS ρb R (rnS g x) v := by
  cases x <;> simp only [repS, rnS, nmS] at h hg ⊢
  all_goals first
    | exact h
    | (obtain ⟨b, hb, rfl⟩ := h; exact ⟨b, hg _ (by simp) _ hb, rfl⟩)
theorem rnG_cells : ∀ {ss : List Seg} {cs : List Value}, (∀ n ∈ nmG ss, ∀ b : Nat, ρa[n]? = some b → ρb[g n]? = some b) → repG ρa R ss cs → repG ρb R (rnG g ss) cs
  | [], _, _, h => ⟨trivial, by have := A2.nil' h.2; subst this; exact .nil⟩
  | .one x :: r, cs, hg, ⟨hw, h⟩ => by
    obtain ⟨v, vs, rfl, h1, h2⟩ := A2.cons_inv h
    have ih := rnG_cells (ss := r) (fun n hn => hg n (by simp [nmG, hn])) ⟨hw, h2⟩
    exact ⟨ih.1, .cons (rnS_rep (fun n hn => hg n (by simp [nmG, hn])) h1) ih.2⟩
  | .arr id n l :: r, cs, hg, ⟨⟨hl, hw⟩, h⟩ => by
    simp only [cellsOf] at h
    obtain ⟨c1, c2, rfl, a1, a2⟩ := h.split
    have ih := rnG_cells (ss := r) (fun n hn => hg n (by simpa [nmG] using hn)) ⟨hw, a2⟩
    refine ⟨⟨hl, ih.1⟩, ?_⟩
    have hb : ∀ y ∈ l.flatMap (Sh.f id), bare y = true := fun y hy => by
      obtain ⟨x, _, hx⟩ := List.mem_flatMap.1 hy
      exact Sh.f_bare id x y hx
    have key : ∀ {xs : List Sc} {vs : List Value}, (∀ y ∈ xs, bare y = true) → A2 (repS ρa R) xs vs → A2 (repS ρb R) xs vs := fun hb h => by
      induction h with
      | nil => exact .nil
      | cons h0 _ ih => exact .cons (repS.bare (hb _ List.mem_cons_self) h0) (ih fun y hy => hb y (List.mem_cons_of_mem _ hy))
    exact (key hb a1).app ih.2
theorem rn1_rep {x : V1} {v : Value} (hg : ∀ n ∈ nm1 x, ∀ b : Nat, ρa[n]? = some b → ρb[g n]? = some b) (h : rep1 ρa R x v) : rep1 ρb R (rn1 g x) v := by
  cases x with
  | c x => exact rnS_rep hg h
  | agg ss => obtain ⟨cs, e, h⟩ := h; exact ⟨cs, e, rnG_cells hg h⟩
theorem rnV_rep {x : SV} {v : Value} (hg : ∀ n ∈ nmV x, ∀ b : Nat, ρa[n]? = some b → ρb[g n]? = some b) (h : repV ρa R x v) : repV ρb R (rnV g x) v := by
  cases x with
  | v x => exact rn1_rep hg h
  | und => exact h
  | tup xs =>
    obtain ⟨vs, e, h⟩ := h
    refine ⟨vs, e, ?_⟩
    simp only [nmV] at hg
    clear e
    induction h with
    | nil => exact .nil
    | @cons y u ys us h0 _ ih => exact .cons (rn1_rep (fun n hn => hg n (by simp [nmL, hn])) h0) (ih fun n hn => hg n (by simp [nmL, hn]))
theorem rnA_rep {xs : List SV} {vs : List Value} (hg : ∀ n ∈ nmA xs, ∀ b : Nat, ρa[n]? = some b → ρb[g n]? = some b) (h : A2 (repV ρa R) xs vs) : A2 (repV ρb R) (xs.map (rnV g)) vs := by
  induction h with
  | nil => exact .nil
  | @cons y u ys us h0 _ ih => exact .cons (rnV_rep (fun n hn => hg n (by simp [nmA, hn])) h0) (ih fun n hn => hg n (by simp [nmA, hn]))
theorem rnB_rep {B : Bk} {B' : Blk} (hg : ∀ n ∈ nmG B.ss, ∀ b : Nat, ρa[n]? = some b → ρb[g n]? = some b) (h : repB ρa R B B') : repB ρb R (rnB g B) B' := ⟨h.t, h.wr, h.fz, rnG_cells hg h.cs⟩
theorem rnBs_rep {Bs : List Bk} {Bs' : List Blk} (hg : ∀ n ∈ nmBs Bs, ∀ b : Nat, ρa[n]? = some b → ρb[g n]? = some b) (h : A2 (repB ρa R) Bs Bs') : A2 (repB ρb R) (Bs.map (rnB g)) Bs' := by
  induction h with
  | nil => exact .nil
  | @cons y u ys us h0 _ ih => exact .cons (rnB_rep (fun n hn => hg n (by simp [nmBs, hn])) h0) (ih fun n hn => hg n (by simp [nmBs, hn]))
theorem repS_fun {ρ : List Nat} {x : Sc} {u v : Value} (h : repS ρ R x u) (h' : repS ρ R x v) : u = v := by
  cases x <;> simp only [repS] at h h'
  all_goals first
    | rw [h, h']
    | (obtain ⟨b, hb, rfl⟩ := h
       obtain ⟨b', hb', rfl⟩ := h'
       rw [hb] at hb'
       cases hb'
       rfl)
    | (obtain ⟨rfl, _⟩ := h
       obtain ⟨rfl, _⟩ := h'
       rfl)
theorem A2_fun {α : Type} {r : α → Value → Prop} (hr : ∀ x u v, r x u → r x v → u = v) {xs : List α} {us : List Value} (h : A2 r xs us) : ∀ {vs : List Value}, A2 r xs vs → us = vs := by
  induction h with
  | nil => intro vs h'; exact (A2.nil' h').symm
  | cons h0 _ ih =>
    intro vs h'
    obtain ⟨y, ys, rfl, h1, h2⟩ := A2.cons_inv h'
    rw [hr _ _ _ h0 h1, ih h2]
theorem rep1_fun {ρ : List Nat} {x : V1} {u v : Value} (h : rep1 ρ R x u) (h' : rep1 ρ R x v) : u = v := by
  cases x with
  | c x => exact repS_fun h h'
  | agg ss =>
    obtain ⟨us, rfl, h⟩ := h
    obtain ⟨vs, rfl, h'⟩ := h'
    rw [A2_fun (r := repS ρ R) (fun _ _ _ h h' => repS_fun h h') h.2 h'.2]
theorem repV_fun {ρ : List Nat} {x : SV} {u v : Value} (h : repV ρ R x u) (h' : repV ρ R x v) : u = v := by
  cases x with
  | v x => exact rep1_fun h h'
  | und => rw [h, h']
  | tup xs =>
    obtain ⟨us, rfl, h⟩ := h
    obtain ⟨vs, rfl, h'⟩ := h'
    rw [A2_fun (r := rep1 ρ R) (fun _ _ _ h h' => rep1_fun h h') h h']
end
/-! ### The blocks that a callee gets -/
section
variable {ρ : List Nat} {R : List Row} {H : List Bk} {H' : List Blk}
theorem pickB_rep (hH : repH ρ R H H') : ∀ {ns : List Nat} {Bs : List Bk}, pickB H ns = some Bs → ∃ Bs', A2 (fun n B' => H'[n]? = some B') ns Bs' ∧ A2 (repB ρ R) Bs Bs'
  | [], Bs, h => by cases h; exact ⟨[], .nil, .nil⟩
  | n :: r, Bs, h => by
    simp only [pickB] at h
    split at h
    · rename_i B Bs0 h1 h2
      cases h
      obtain ⟨B', e1, e2, _⟩ := hH.nth h1
      obtain ⟨Bs', e3, e4⟩ := pickB_rep hH h2
      exact ⟨B' :: Bs', .cons e1 e3, .cons e2 e4⟩
    · cases h
theorem pick_ids {ns : List Nat} {Bs' : List Blk} (h : A2 (fun n B' => H'[n]? = some B') ns Bs') (hH : repH ρ R H H') {n b : Nat} (hn : n ∈ ns) (hb : ρ[n]? = some b) : (Bs'.map Blk.b)[idx n ns]? = some b := by
  obtain ⟨B', h1, h2⟩ := h.get (idx_get hn)
  rw [hH.ids, List.getElem?_map, h2] at hb
  rw [List.getElem?_map, h1]
  exact hb
theorem pick_mem {ns : List Nat} {Bs' : List Blk} (h : A2 (fun n B' => H'[n]? = some B') ns Bs') : ∀ B ∈ Bs', ∃ n ∈ ns, H'[n]? = some B := fun B hB => by
  obtain ⟨i, hi, rfl⟩ := List.mem_iff_getElem.1 hB
  obtain ⟨n, h1, h2⟩ := h.get' (List.getElem?_eq_getElem hi)
  exact ⟨n, List.mem_of_getElem? h1, h2⟩
theorem id_inj (hnd : (H'.map Blk.b).Nodup) {i j : Nat} {B C : Blk} (hi : H'[i]? = some B) (hj : H'[j]? = some C) (h : B.b = C.b) : i = j := by
  have h1 : (H'.map Blk.b)[i]? = some B.b := by rw [List.getElem?_map, hi]; rfl
  have h2 : (H'.map Blk.b)[j]? = some B.b := by rw [List.getElem?_map, hj, h]; rfl
  have hli := (List.getElem?_eq_some_iff.1 h1).1
  exact (List.getElem?_inj hli hnd).1 (h1.trans h2.symm)
theorem pick_nodup (hnd : (H'.map Blk.b).Nodup) : ∀ {ns : List Nat} {Bs' : List Blk}, ns.Nodup → A2 (fun n B' => H'[n]? = some B') ns Bs' → (Bs'.map Blk.b).Nodup
  | [], _, _, .nil => by simp
  | n :: r, _, hn, .cons (y := B) h0 ht => by
    rw [List.nodup_cons] at hn
    rw [List.map_cons, List.nodup_cons]
    refine ⟨fun hm => ?_, pick_nodup hnd hn.2 ht⟩
    obtain ⟨C, hC, e⟩ := List.mem_map.1 hm
    obtain ⟨m, hm', hC'⟩ := pick_mem ht C hC
    have := id_inj hnd h0 hC' e.symm
    exact hn.1 (this ▸ hm')
end
theorem ro_rep {ρ : List Nat} {R : List Row} {L : List Bk} {L' : List Blk} (h : A2 (repB ρ R) L L') : A2 (repB ρ R) (roB L) (Z.ro L') := by
  induction h with
  | nil => exact .nil
  | cons h0 _ ih => exact .cons ⟨h0.t, rfl, h0.fz, h0.cs⟩ ih
theorem one_bind {α β : Type} {Φ : β → Prop} {g : α → Tr β} : ∀ {t : Tr α}, ((t.one).bind g).all Φ → ∃ x, t.all (· = x) ∧ (g x).all Φ
  | .ret x, h => ⟨x, rfl, h⟩
  | .ite b t f, h => by
    cases b with
    | true => obtain ⟨x, h1, h2⟩ := one_bind (h.1 rfl); exact ⟨x, ⟨fun _ => h1, (fun e => by cases e)⟩, h2⟩
    | false => obtain ⟨x, h1, h2⟩ := one_bind (h.2 rfl); exact ⟨x, ⟨(fun e => by cases e), fun _ => h1⟩, h2⟩
  | .ass p t, h => by
    obtain ⟨hp, h⟩ := h
    obtain ⟨x, h1, h2⟩ := one_bind (h hp)
    exact ⟨x, ⟨hp, fun _ => h1⟩, h2⟩
  | .both _ _, h => h.elim
  | .hyp _ _, h => h.elim
  | .any _ _, h => h.elim
  | .stuck _, h => h.elim
theorem okN_spec {ns : List Nat} {args : List SV} {Bs : List Bk} (h : okN ns args Bs = true) : ns.Nodup ∧ (∀ n ∈ nmA args, n ∈ ns) ∧ ∀ n ∈ nmBs Bs, n ∈ ns := by
  simp only [okN, Bool.and_eq_true] at h
  exact ⟨nodupB_nodup h.1, allIn_iff.1 h.2.1, allIn_iff.1 h.2.2⟩
section
variable {P : Program} {ρ : List Nat} {R : List Row} {H : List Bk} {H' : List Blk} {W : List Rw}
theorem callRo_sound {f : FuncId} {con : Con} (hcon : ConOK P f con) (hro : con.ro = true) {vs : List SV} {args' : List Value} {Φ : SV → Prop} (h : (callRo con vs H W).all Φ) (hvs : A2 (repV ρ R) vs args') (hH : repH ρ R H H') (hR : repR W R) (hnd : (H'.map Blk.b).Nodup)
    {w0 : World} (hw0 : Mem H' R (callN vs H) true w0) : ∃ sv v, Φ sv ∧ repV ρ R sv v ∧ ∀ w, Mem H' R (callN vs H) true w → Calls P f args'.toArray w fun e w' => e = .returned v ∧ Keep [] w w' := by
  unfold callRo at h
  simp only at h
  generalize callN vs H = ns at h hw0 ⊢
  obtain ⟨Bs, hBs, h⟩ := peel h
  cases hok : okN ns vs Bs with
  | false => simp only [hok, cond_false] at h; exact h.elim
  | true =>
  simp only [hok, cond_true] at h
  obtain ⟨hns, hna, hnb⟩ := okN_spec hok
  obtain ⟨Bs', p1, p2⟩ := pickB_rep hH hBs
  obtain ⟨⟨sv, H1⟩, ht, h⟩ := one_bind h
  cases hlt : allLt (Y.len ns) (nmV sv) with
  | false => simp only [hlt, cond_false] at h; exact h.elim
  | true =>
  simp only [hlt, cond_true] at h
  have hlt := allLt_iff.1 hlt
  rw [len_eq] at hlt
  have hg : ∀ n, n ∈ ns → ∀ b : Nat, ρ[n]? = some b → (Bs'.map Blk.b)[idx n ns]? = some b := fun n hn b hb => pick_ids p1 hH hn hb
  have hroL := ro_rep (rnBs_rep (R := R) (g := (idx · ns)) (fun n hn => hg n (hnb n hn)) p2)
  have hH1 : repH (Bs'.map Blk.b) R (roB (Bs.map (rnB (idx · ns)))) (Z.ro Bs') := ⟨by rw [Z.ro_b], hroL⟩
  have hspec := hcon _ _ W _ ht (fun _ B hB => by
    unfold roB at hB
    obtain ⟨C, _, rfl⟩ := List.mem_map.1 hB
    rfl) (Bs'.map Blk.b) R args' (Z.ro Bs') (rnA_rep (fun n hn => hg n (hna n hn)) hvs) hH1 hR
  have hcalls : ∀ w, Mem H' R ns true w → Calls P f args'.toArray w fun e w' => ∃ v, e = .returned v ∧ repV ρ R (rnV (backN ns (Y.len H)) sv) v ∧ Keep [] w w' := fun w hw => by
    have hpre : Pre w (Z.ro Bs') R := by
      refine ⟨fun x hx => ?_, by rw [Z.ro_b]; exact pick_nodup hnd hns p1, fun r hr => ⟨hw.row rfl r hr, fun x hx hwr => ?_⟩⟩
      · obtain ⟨y, hy, rfl⟩ := Z.mem_ro hx
        obtain ⟨n, hn, hB⟩ := pick_mem p1 y hy
        exact hw.blk n hn y hB
      · obtain ⟨y, _, rfl⟩ := Z.mem_ro hx
        cases hwr
    refine (hspec w hpre).mono ?_
    rintro en w' ⟨v, H2, rfl, ⟨sv', H1', ρ', he, hext, hv, _⟩, hgood⟩
    cases he
    refine ⟨v, rfl, rnV_rep (fun n hn b hb => ?_) hv, ?_⟩
    · have hln := hlt n hn
      have hnn : nth ns n = some ns[n] := by rw [nth_eq, List.getElem?_eq_getElem hln]
      have hbk : backN ns (Y.len H) n = ns[n] := by simp [backN, hnn]
      rw [hbk]
      obtain ⟨B', h1, h2⟩ := p1.get (List.getElem?_eq_getElem hln)
      have h3 := hext n B'.b (by rw [List.getElem?_map, h1]; rfl)
      rw [hb] at h3
      cases h3
      rw [hH.ids, List.getElem?_map, h2]
      rfl
    · have hk := hgood.keep
      have hwid : Z.wids (Z.ro Bs') = [] := by
        unfold Z.wids
        rw [List.map_eq_nil_iff, List.filter_eq_nil_iff]
        intro x hx
        obtain ⟨y, _, rfl⟩ := Z.mem_ro hx
        simp
      simp only [Z.cxOf, hwid] at hk
      exact hk
  obtain ⟨en, w1, fr, ⟨v, _, hv, _⟩, _⟩ := hcalls w0 hw0 []
  refine ⟨_, v, h, hv, fun w hw => (hcalls w hw).mono ?_⟩
  rintro en w' ⟨v', rfl, hv', hk⟩
  exact ⟨by rw [repV_fun hv hv'], hk⟩
end
end Go.Y
