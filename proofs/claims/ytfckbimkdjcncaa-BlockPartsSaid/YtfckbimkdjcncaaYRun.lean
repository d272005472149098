/- Regions in the text's order, code, functions. Generic in the program. -/
import Derived.Test.YtfckbimkdjcncaaYEff
set_option linter.unusedSimpArgs false
set_option linter.unusedVariables false
namespace Go.Y
open Go.Z (Row Blk plainV Keep KeepP RowAt Fits runsTo Pre Cx TL TC TE Ends cxOf)
section
variable {P : Program} {cx : Ctx} (hcx : CtxOK P cx)
include hcx
omit hcx in
theorem buildV_sound {t : Nat} {ti : TyI} (hti : TyOK P t ti) {ρ : List Nat} {R : List Row} {e : Env} {e' : Z.Env} (he : repE ρ R e e') {pl : Nat → Option (Nat × Nat)} (hpl : ∀ i o sz, placeO cx t i = some (o, sz) → pl i = some (o, sz)) :
    ∀ {ps : List (Nat × Operand)} {ss qs : List Seg} {cs : List Value}, repG ρ R ss cs → buildV cx t e ss ps = some qs → ∃ vs, Z.evp e' ps = some vs ∧ ∃ ds, Instr.fill pl cs.toArray vs = some ds.toArray ∧ repG ρ R qs ds
  | [], ss, qs, cs, hs, h => by
    cases h
    exact ⟨[], rfl, cs, rfl, hs⟩
  | (i, x) :: r, ss, qs, cs, hs, h => by
    simp only [buildV] at h
    split at h
    · rename_i o sz v hp hv
      split at h
      · rename_i ms hms
        obtain ⟨u, hu, hr⟩ := ev1_rep he hv
        obtain ⟨us, hc, hus⟩ := rep1.cells hr
        obtain ⟨g1, g2, g3⟩ := layV_rep hms hs hus
        obtain ⟨vs, e1, ds, e2, e3⟩ := buildV_sound hti he hpl g1 h
        refine ⟨(i, u) :: vs, by simp [Z.evp, hu, e1], ds, ?_, e3⟩
        simp only [Instr.fill, hpl _ _ _ hp]
        have hsz : u.cells.size = sz := by rw [hc]; simpa using g3
        have hcond : ¬ (u.cells.size ≠ sz || o + u.cells.size > cs.toArray.size) = true := by
          simp [hsz]; omega
        rw [if_neg (by simpa using hcond)]
        have hfold : (u.cells.zipIdx.foldl (fun cs (x : Value × Nat) => cs.setIfInBounds (o + x.2) x.1) cs.toArray) = (Z.setL cs o us).toArray := by
          apply Array.toList_inj.1
          rw [hc]
          have := Z.fold_setL us cs.toArray o 0
          simpa using this
        rw [← e2]
        congr 1
      · cases h
    · cases h
theorem placeO_struct {t i o sz : Nat} {fs : Array Field} (hu : P.underlying t = some (.struct fs)) (h : placeO cx t i = some (o, sz)) : ∃ fd, fs[i]? = some fd ∧ fd.offset = o ∧ ∀ w, (sizeOf fd.type).run P w = .ok sz w := by
  unfold placeO at h
  rw [Option.bind_eq_some_iff] at h
  obtain ⟨ti, hti, h⟩ := h
  have hund := (hcx.ty _ _ hti).und
  split at h
  · rename_i fs' hd
    rw [hd, hu] at hund
    cases hund
    rw [Option.bind_eq_some_iff] at h
    obtain ⟨fd, hfd, h⟩ := h
    rw [Option.map_eq_some_iff] at h
    obtain ⟨ft, hft, h⟩ := h
    cases h
    rw [nth_eq] at hfd
    exact ⟨fd, by simpa using hfd, rfl, (hcx.ty _ _ hft).size⟩
  · rename_i n el hd
    rw [hd, hu] at hund
    cases hund
  · cases h
theorem placeO_array {t i o sz n el : Nat} (hu : P.underlying t = some (.array n el)) (h : placeO cx t i = some (o, sz)) : o = i * sz ∧ ∀ w, (sizeOf el).run P w = .ok sz w := by
  unfold placeO at h
  rw [Option.bind_eq_some_iff] at h
  obtain ⟨ti, hti, h⟩ := h
  have hund := (hcx.ty _ _ hti).und
  split at h
  · rename_i fs' hd
    rw [hd, hu] at hund
    cases hund
  · rename_i n' el' hd
    rw [hd, hu] at hund
    cases hund
    rw [Option.map_eq_some_iff] at h
    obtain ⟨ft, hft, h⟩ := h
    cases h
    exact ⟨rfl, (hcx.ty _ _ hft).size⟩
  · cases h
theorem fieldsOk_size : ∀ {fs : List Field}, fieldsOk cx fs = true → ∀ f ∈ fs, ∃ n, ∀ w, (sizeOf f.type).run P w = .ok n w
  | [], _, _, h => by cases h
  | g :: r, h, f, hf => by
    simp only [fieldsOk, Bool.and_eq_true, Option.isSome_iff_exists] at h
    obtain ⟨⟨ti, hti⟩, h2⟩ := h
    rcases List.mem_cons.1 hf with rfl | hf
    · exact ⟨ti.sz, (hcx.ty _ _ hti).size⟩
    · exact fieldsOk_size h2 f hf
omit hcx in
theorem places_list : ∀ {fs : List Field}, (∀ f ∈ fs, ∃ n, ∀ w, (sizeOf f.type).run P w = .ok n w) → ∃ pl : List (Nat × Nat), (∀ w, (fs.mapM (fun f => do pure (f.offset, ← sizeOf f.type) : Field → Sem (Nat × Nat))).run P w = .ok pl w) ∧
    ∀ (i : Nat) (f : Field) (n : Nat), fs[i]? = some f → (∀ w, (sizeOf f.type).run P w = .ok n w) → pl[i]? = some (f.offset, n)
  | [], _ => ⟨[], fun w => by simp, fun i f n h => by simp at h⟩
  | g :: r, h => by
    obtain ⟨m, hm⟩ := h g List.mem_cons_self
    obtain ⟨pl, h1, h2⟩ := places_list (fs := r) fun f hf => h f (List.mem_cons_of_mem _ hf)
    refine ⟨(g.offset, m) :: pl, fun w => by rw [List.mapM_cons]; simp only [Sem.run_bind, hm w, Result.andThen_ok, h1 w, Sem.run_pure], fun i f n hi hn => ?_⟩
    cases i with
    | zero =>
      simp at hi
      subst hi
      have e1 := hm default
      rw [hn default] at e1
      injection e1 with e1
      subst e1
      rfl
    | succ i => simp at hi; simpa using h2 i f n hi hn
theorem places_struct {t : Nat} {fs : Array Field} (hu : P.underlying t = some (.struct fs)) (h : fieldsOk cx fs.toList = true) : ∃ pl : Array (Nat × Nat), (∀ w, (fs.mapM (fun f => do pure (f.offset, ← sizeOf f.type) : Field → Sem (Nat × Nat))).run P w = .ok pl w) ∧ ∀ i o sz, placeO cx t i = some (o, sz) → pl[i]? = some (o, sz) := by
  obtain ⟨pl, h1, h2⟩ := places_list (fieldsOk_size hcx h)
  refine ⟨pl.toArray, fun w => ?_, fun i o sz hp => ?_⟩
  · rw [Array.mapM_eq_mapM_toList]
    simp only [map_eq_pure_bind, Sem.run_bind, h1 w, Result.andThen_ok, Sem.run_pure]
  · obtain ⟨fd, e1, rfl, e3⟩ := placeO_struct hcx hu hp
    have := h2 i fd sz (by simpa using e1) e3
    simpa using this
omit hcx in
theorem optI_rep {ρ : List Nat} {R : List Row} {e : Env} {e' : Z.Env} (he : repE ρ R e e') {x : Option Operand} {n : Option Int} (h : optI e x = some n) : ∃ v, repO n v ∧ ∀ (N : Nat) (a : Act), Fits N a e' → x.map a.eval = v := by
  cases x with
  | none => cases h; exact ⟨none, rfl, fun _ _ _ => rfl⟩
  | some x =>
    simp only [optI] at h
    split at h
    · rename_i k m hm
      cases h
      obtain ⟨v, hv, hr⟩ := evS_rep he hm
      simp only [repS] at hr
      subst hr
      exact ⟨some (.int k m), ⟨k, rfl⟩, fun N a ha => by simp [ha.ev hv]⟩
    · cases h
omit hcx in
theorem arr1 {α : Type} {xs : Array α} {x : α} (h : xs.toList = [x]) : xs = #[x] := Array.toList_inj.1 h
omit hcx in
theorem arr2 {α : Type} {xs : Array α} {x y : α} (h : xs.toList = [x, y]) : xs = #[x, y] := Array.toList_inj.1 h
omit hcx in
theorem oper_eta (o : Oper) {op : Op} (h : o.op = op) : ∀ ρ, execOp ρ o = execOp ρ { o with op := op } := fun ρ => by subst h; rfl
theorem opV_sound {ρ : List Nat} {R : List Row} {e : Env} {e' : Z.Env} {H : List Bk} {H' : List Blk} {W : List Rw} (he : repE ρ R e e') (hH : repH ρ R H H') (hR : repR W R) (hnd : (H'.map Blk.b).Nodup) {op : Op} {Φ : SV → Prop} (h : (opV cx e H W op).all Φ)
    {N : Nat} {w0 : World} {a0 : Act} (ha0 : Fits N a0 e') (hw0 : Mem H' R (rdO e H op).1 (rdO e H op).2 w0) : ∃ sv v, Φ sv ∧ repV ρ R sv v ∧ Runs P op N e' v (Mem H' R (rdO e H op).1 (rdO e H op).2) := by
  unfold opV at h
  split at h
  · -- move
    obtain ⟨sv, hsv, h⟩ := peelO h
    obtain ⟨v, hv, hr⟩ := ev_rep he hsv
    exact ⟨sv, v, h, hr, Runs.val fun o a w ho ha _ => by simp [execOp, ho, ha.ev hv]⟩
  · obtain ⟨sv, hsv, h⟩ := peelO h
    obtain ⟨v, hv, hr⟩ := ev_rep he hsv
    exact ⟨sv, v, h, hr, Runs.val fun o a w ho ha _ => by simp [execOp, ho, ha.ev hv]⟩
  · -- pick
    rename_i x y z
    obtain ⟨sx, hsx, h⟩ := peel h
    obtain ⟨vx, hvx, hrx⟩ := evS_rep he hsx
    split at h
    · rename_i b
      simp only [repS] at hrx
      subst hrx
      obtain ⟨sv, hsv, h⟩ := peelO h
      obtain ⟨v, hv, hr⟩ := ev_rep he hsv
      exact ⟨sv, v, h, hr, Runs.val fun o a w ho ha _ => by
        have h1 := ha.ev hvx
        have h2 := ha.ev hv
        cases b <;> simp at h2 <;> simp [execOp, ho, h1, asBool, h2]⟩
    · rename_i b
      simp only [repS] at hrx
      subst hrx
      obtain ⟨u, hu, h⟩ := peel h
      obtain ⟨v, hv, h⟩ := peel h
      obtain ⟨r, hr, h⟩ := peel h
      obtain ⟨a1, h1, r1⟩ := ev1_rep he hu
      obtain ⟨a2, h2, r2⟩ := ev1_rep he hv
      exact ⟨_, _, h, mrgV_rep hr r1 r2, Runs.val fun o a w ho ha _ => by simp [execOp, ho, ha.ev hvx, asBool, ha.ev h1, ha.ev h2]⟩
    · exact h.elim
  · -- nilCheck
    obtain ⟨sx, hsx, h⟩ := peel h
    obtain ⟨vx, hvx, hrx⟩ := evS_rep he hsx
    split at h
    · obtain ⟨b, hb, rfl⟩ := hrx
      exact ⟨_, _, h, ⟨b, hb, rfl⟩, Runs.val fun o a w ho ha _ => by simp [execOp, ho, ha.ev hvx]⟩
    · obtain ⟨b, hb, rfl⟩ := hrx
      exact ⟨_, _, h, ⟨b, hb, rfl⟩, Runs.val fun o a w ho ha _ => by simp [execOp, ho, ha.ev hvx]⟩
    · obtain ⟨b, hb, rfl⟩ := hrx
      exact ⟨_, _, h, ⟨b, hb, rfl⟩, Runs.val fun o a w ho ha _ => by simp [execOp, ho, ha.ev hvx]⟩
    · exact h.elim
  · -- binOp
    rename_i op t x y yt
    obtain ⟨u, hu, h⟩ := peel h
    obtain ⟨v, hv, h⟩ := peel h
    obtain ⟨a1, h1, r1⟩ := ev1_rep he hu
    obtain ⟨a2, h2, r2⟩ := ev1_rep he hv
    obtain ⟨sv, r, g1, g2, g3⟩ := binV_sound hcx h r1 r2
    exact ⟨sv, r, g1, g2, Runs.val fun o a w ho ha _ => by
      have := g3 x y w
      simp only [execOp, ho, ha.ev h1, ha.ev h2]
      simp only [Sem.run_bind] at this ⊢
      simp [this]⟩
  · -- unOp
    obtain ⟨u, hu, h⟩ := peel h
    obtain ⟨a1, h1, r1⟩ := evS_rep he hu
    obtain ⟨sv, r, g1, g2, g3⟩ := unV_sound (P := P) h r1
    exact ⟨sv, r, g1, g2, Runs.val fun o a w ho ha _ => by simp [execOp, ho, ha.ev h1, g3 w]⟩
  · -- convert
    obtain ⟨ts, hts, h⟩ := peel h
    obtain ⟨td, htd, h⟩ := peel h
    obtain ⟨u, hu, h⟩ := peel h
    obtain ⟨a1, h1, r1⟩ := evS_rep he hu
    obtain ⟨sv, r, g1, g2, g3⟩ := convV_sound (hcx.ty _ _ hts) (hcx.ty _ _ htd) h r1
    exact ⟨sv, r, g1, g2, Runs.val fun o a w ho ha _ => by simp [execOp, ho, ha.ev h1, g3 w]⟩
  · -- load
    rename_i t x
    obtain ⟨ti, hti, h⟩ := peel h
    obtain ⟨u, hu, h⟩ := peel h
    obtain ⟨a1, h1, r1⟩ := evS_rep he hu
    obtain ⟨sv, r, g1, g2, g3⟩ := loadV_sound (hcx.ty _ _ hti) hH hR (rd := (rdO e H (.load t x)).1) (rr := (rdO e H (.load t x)).2) h r1 (by simp only [rdO, hu]; cases u <;> simp) (by simp only [rdO, hu]; cases u <;> simp)
    exact ⟨sv, r, g1, g2, Runs.val fun o a w ho ha hm => by simp [execOp, ho, ha.ev h1, g3 w hm]⟩
  · -- fieldAddr
    obtain ⟨⟨of, ft⟩, hf, h⟩ := peel h
    obtain ⟨fs, fd, e1, e2, e3, e4⟩ := fieldO_spec hcx hf
    simp only at h
    cases hz : Nat.beq ft.sz 0 with
    | true => simp only [hz, cond_true] at h; exact h.elim
    | false =>
      simp only [hz, cond_false] at h
      obtain ⟨u, hu, h⟩ := peel h
      obtain ⟨a1, h1, r1⟩ := evS_rep he hu
      obtain ⟨sv, r, g1, g2, g3⟩ := fieldA_sound h r1 e1 e2 e3 e4.size (fun e => by rw [e] at hz; cases hz)
      exact ⟨sv, r, g1, g2, Runs.val fun o a w ho ha _ => by simp [execOp, ho, ha.ev h1, g3 w]⟩
  · -- indexAddr
    obtain ⟨⟨n, el⟩, hel, h⟩ := peel h
    obtain ⟨elt, htel, hT⟩ := elemO_spec hcx hel
    obtain ⟨si, hsi, h⟩ := peel h
    obtain ⟨vi, hvi, hri⟩ := evS_rep he hsi
    split at h
    · simp only [repS] at hri
      subst hri
      obtain ⟨u, hu, h⟩ := peel h
      obtain ⟨a1, h1, r1⟩ := evS_rep he hu
      obtain ⟨sv, r, g1, g2, g3⟩ := indexA_sound (k := by assumption) h r1 hT htel.size
      exact ⟨sv, r, g1, g2, Runs.val fun o a w ho ha _ => by simp [execOp, ho, ha.ev h1, ha.ev hvi, g3 w]⟩
    · exact h.elim
  · -- index
    obtain ⟨si, hsi, h⟩ := peel h
    obtain ⟨vi, hvi, hri⟩ := evS_rep he hsi
    split at h
    · simp only [repS] at hri
      subst hri
      obtain ⟨u, hu, h⟩ := peel h
      obtain ⟨a1, h1, r1⟩ := ev1_rep he hu
      obtain ⟨sv, r, g1, g2, g3⟩ := indexV_sound hcx (k := by assumption) h r1
      exact ⟨sv, r, g1, g2, Runs.val fun o a w ho ha _ => by simp [execOp, ho, ha.ev h1, ha.ev hvi, g3 w]⟩
    · exact h.elim
  · -- field
    obtain ⟨⟨of, ft⟩, hf, h⟩ := peel h
    obtain ⟨fs, fd, e1, e2, e3, e4⟩ := fieldO_spec hcx hf
    obtain ⟨u, hu, h⟩ := peel h
    obtain ⟨a1, h1, r1⟩ := ev1_rep he hu
    obtain ⟨sv, r, g1, g2, g3⟩ := fieldV_sound h r1 e1 e2 e3 e4
    exact ⟨sv, r, g1, g2, Runs.val fun o a w ho ha _ => by simp [execOp, ho, ha.ev h1, g3 w]⟩
  · -- extract
    obtain ⟨u, hu, h⟩ := peel h
    obtain ⟨a1, h1, r1⟩ := ev_rep he hu
    split at h
    · obtain ⟨vs, rfl, hvs⟩ := r1
      obtain ⟨y, hy, h⟩ := peel h
      rw [nth_eq] at hy
      obtain ⟨v, hv, hr⟩ := hvs.get hy
      exact ⟨_, v, h, hr, Runs.val fun o a w ho ha _ => by simp [execOp, ho, ha.ev h1, Instr.extract, hv]⟩
    · exact h.elim
  · -- build
    rename_i t ps
    obtain ⟨ti, hti, h⟩ := peel h
    cases hpk : placesOk cx ti.d with
    | false => simp only [hpk, Bool.not_false, cond_true] at h; exact h.elim
    | true =>
    simp only [hpk, Bool.not_true, cond_false] at h
    obtain ⟨z, hz, h⟩ := peel h
    obtain ⟨ss, hss, h⟩ := peel h
    have hT := hcx.ty _ _ hti
    obtain ⟨vz, hvz, hrz⟩ := hT.zero z hz
    obtain ⟨cs, hcs, hg⟩ := rep1.cells (hrz ρ R)
    have key : ∀ (pl : Nat → Option (Nat × Nat)), (∀ i o sz, placeO cx t i = some (o, sz) → pl i = some (o, sz)) → ∃ vs, Z.evp e' ps.toList = some vs ∧ ∃ ds, Instr.fill pl cs.toArray vs = some ds.toArray ∧ repG ρ R ss ds := fun pl hpl => buildV_sound hT he hpl hg hss
    have hund := hT.und
    unfold placesOk at hpk
    split at hpk
    · rename_i fs hd
      rw [hd] at hund
      obtain ⟨pl, hpm, hpp⟩ := places_struct hcx hund hpk
      obtain ⟨vs, e1, ds, e2, e3⟩ := key (fun i => pl[i]?) hpp
      refine ⟨_, .agg ds.toArray, h, ⟨ds, rfl, e3⟩, Runs.val fun o a w ho ha _ => ?_⟩
      have h1 : ps.map (fun (i, x) => (i, a.eval x)) = vs.toArray := Array.toList_inj.1 (by rw [Array.toList_map]; exact ha.evp e1)
      have hb : (Instr.build t vs.toArray).run P w = .ok (.agg ds.toArray) w := by
        simp only [Instr.build, Sem.run_bind, hvz w, Result.andThen_ok, run_underlying hund, hpm w, hcs, e2]
        rfl
      simp [execOp, ho, h1, hb]
    · rename_i n el hd
      rw [hd] at hund
      rw [Option.isSome_iff_exists] at hpk
      obtain ⟨te, hte⟩ := hpk
      have hs0 := (hcx.ty _ _ hte).size
      obtain ⟨vs, e1, ds, e2, e3⟩ := key (fun i => some (i * te.sz, te.sz)) (fun i o sz' hp => by
        obtain ⟨q1, q2⟩ := placeO_array hcx hund hp
        have : sz' = te.sz := by have h1 := q2 w0; have h2 := hs0 w0; rw [h1] at h2; injection h2
        subst this
        rw [q1])
      refine ⟨_, .agg ds.toArray, h, ⟨ds, rfl, e3⟩, Runs.val fun o a w ho ha _ => ?_⟩
      have h1 : ps.map (fun (i, x) => (i, a.eval x)) = vs.toArray := Array.toList_inj.1 (by rw [Array.toList_map]; exact ha.evp e1)
      simp [execOp, ho, h1, Instr.build, hvz w, underlying, hund, hs0 w, hcs, e2]
    · cases hpk
  · -- slice
    split at h
    · exact h.elim
    · obtain ⟨lo, hlo, h⟩ := peel h
      obtain ⟨hi, hhi, h⟩ := peel h
      obtain ⟨u, hu, h⟩ := peel h
      obtain ⟨a1, h1, r1⟩ := evS_rep he hu
      obtain ⟨vl, hl0, hl1⟩ := optI_rep he hlo
      obtain ⟨vh, hh0, hh1⟩ := optI_rep he hhi
      obtain ⟨sv, r, g1, g2, g3⟩ := sliceV_sound hcx h r1 hl0 hh0
      exact ⟨sv, r, g1, g2, Runs.val fun o a w ho ha _ => by simp [execOp, ho, ha.ev h1, hl1 N a ha, hh1 N a ha, g3 w]⟩
  · -- len
    split at h
    · rename_i x t hxs hts
      have hxs := arr1 hxs
      have hts := arr1 hts
      subst hxs hts
      obtain ⟨u, hu, h⟩ := peel h
      obtain ⟨a1, h1, r1⟩ := evS_rep he hu
      obtain ⟨sv, r, g1, g2, g3⟩ := lenV_sound hcx h r1
      exact ⟨sv, r, g1, g2, Runs.val fun o a w ho ha _ => by simp [execOp, ho, resolve, ha.ev h1, invoke, builtin, g3]⟩
    · exact h.elim
  · -- min
    split at h
    · rename_i x y hxs
      have hxs := arr2 hxs
      subst hxs
      obtain ⟨u, hu, h⟩ := peel h
      obtain ⟨a1, h1, r1⟩ := evS_rep he hu
      split at h
      · rename_i k m
        simp only [repS] at r1
        subst r1
        obtain ⟨v, hv, h⟩ := peel h
        obtain ⟨a2, h2, r2⟩ := evS_rep he hv
        split at h
        · rename_i k' n
          simp only [repS] at r2
          subst r2
          cases hk : Nat.beq (kc k) (kc k') with
          | false => simp only [hk, cond_false] at h; exact h.elim
          | true =>
            simp only [hk, cond_true] at h
            have := kc_inj hk
            subst this
            exact ⟨_, .int k _, h, rfl, Runs.val fun o a w ho ha _ => by simp [execOp, ho, resolve, ha.ev h1, ha.ev h2, invoke, builtin, Builtin.min_, Builtin.min2]⟩
        · exact h.elim
      · exact h.elim
    · exact h.elim
  · -- max
    split at h
    · rename_i x y hxs
      have hxs := arr2 hxs
      subst hxs
      obtain ⟨u, hu, h⟩ := peel h
      obtain ⟨a1, h1, r1⟩ := evS_rep he hu
      split at h
      · rename_i k m
        simp only [repS] at r1
        subst r1
        obtain ⟨v, hv, h⟩ := peel h
        obtain ⟨a2, h2, r2⟩ := evS_rep he hv
        split at h
        · rename_i k' n
          simp only [repS] at r2
          subst r2
          cases hk : Nat.beq (kc k) (kc k') with
          | false => simp only [hk, cond_false] at h; exact h.elim
          | true =>
            simp only [hk, cond_true] at h
            have := kc_inj hk
            subst this
            exact ⟨_, .int k _, h, rfl, Runs.val fun o a w ho ha _ => by simp [execOp, ho, resolve, ha.ev h1, ha.ev h2, invoke, builtin, Builtin.max_, Builtin.max2]⟩
        · exact h.elim
      · exact h.elim
    · exact h.elim
  · -- a call that reads alone
    rename_i f xs ts
    split at h
    · rename_i con hcon
      obtain ⟨hok, hcall⟩ := hcx.con _ _ hcon
      cases hro : con.ro with
      | false => simp only [hro, cond_false] at h; exact h.elim
      | true =>
        simp only [hro, cond_true] at h
        obtain ⟨vs, hvs, h⟩ := peel h
        obtain ⟨us, hus, hr⟩ := evs_rep he hvs
        simp only [rdO, hvs] at hw0 ⊢
        obtain ⟨sv, v, g1, g2, g3⟩ := callRo_sound hok hro h hr hH hR hnd hw0
        refine ⟨sv, v, g1, g2, fun o a w ho ha hm => ?_⟩
        have hargs : xs.map a.eval = us.toArray := by
          rw [← ha.evs hus]
          exact Array.toList_inj.1 (by rw [Array.toList_map])
        have hrun : (execOp a.eval o).run P w = .ok (.enter f us.toArray) w := by
          simp [execOp, ho, resolve, hargs, Act.eval, Deferred.ofValue, invoke, hcall]
        unfold runsTo
        rw [hrun]
        exact (g3 w hm).mono fun e w' ⟨e1, e2⟩ => ⟨v, e1, rfl, e2⟩
    · exact h.elim
  · exact h.elim
end
end Go.Y
