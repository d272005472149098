/- Parts of values, slices, built values: each gives what the reckoner says. Generic in the program. -/
import Derived.Test.YtfckbimkdjcncaaYMem
set_option linter.unusedSimpArgs false
set_option linter.unusedVariables false
namespace Go.Y
open Go.Z (Row Blk plainV Keep RowAt Fits runsTo Pre)
section
variable {P : Program} {ρ : List Nat} {R : List Row} {Φ : SV → Prop}
theorem part_agg {t : Nat} {ti : TyI} (hti : TyOK P t ti) (hag : ti.ag = true) {cs vs : List Value} {o : Nat} (h : (cs.drop o).take ti.sz = vs) (w : World) : (part t cs.toArray o).run P w = .ok (.agg vs.toArray) w := by
  simp [part, hti.agg w, hag, hti.size w, ← h, List.take_drop]
theorem part_one {t : Nat} {ti : TyI} (hti : TyOK P t ti) (hag : ti.ag = false) {cs : List Value} {v : Value} {o : Nat} (h : cs[o]? = some v) (w : World) : (part t cs.toArray o).run P w = .ok v w := by
  simp [part, hti.agg w, hag, h]
theorem fieldV_sound {s f o : Nat} {fs : Array Field} {fd : Field} {ft : TyI} {x : V1} {u : Value} (h : (fieldV o ft x).all Φ) (hu : rep1 ρ R x u) (hund : P.underlying s = some (.struct fs)) (hf : fs[f]? = some fd) (ho : fd.offset = o) (hft : TyOK P fd.type ft) :
    ∃ sv v, Φ sv ∧ repV ρ R sv v ∧ ∀ w, (Instr.field s u f).run P w = .ok v w := by
  subst ho
  unfold fieldV at h
  split at h
  · obtain ⟨cs, rfl, hg⟩ := hu
    cases hag : ft.ag with
    | true =>
      simp only [hag, cond_true] at h
      obtain ⟨qs, hqs, h⟩ := peel h
      obtain ⟨g1, g2⟩ := getN_rep hg hqs
      exact ⟨_, _, h, ⟨_, rfl, g1⟩, fun w => by simp [Instr.field, underlying, hund, hf, asAgg, part_agg hft hag rfl w]⟩
    | false =>
      simp only [hag, cond_false] at h
      obtain ⟨y, hy, h⟩ := peel h
      obtain ⟨v, hv, hr⟩ := getC_rep hg hy
      exact ⟨_, v, h, hr, fun w => by simp [Instr.field, underlying, hund, hf, asAgg, part_one hft hag hv w]⟩
  · exact h.elim
theorem fieldO_spec {cx : Ctx} (hcx : CtxOK P cx) {t f o : Nat} {ft : TyI} (h : fieldO cx t f = some (o, ft)) : ∃ fs fd, P.underlying t = some (.struct fs) ∧ fs[f]? = some fd ∧ fd.offset = o ∧ TyOK P fd.type ft := by
  unfold fieldO at h
  rw [Option.bind_eq_some_iff] at h
  obtain ⟨ti, hti, h⟩ := h
  rw [Option.bind_eq_some_iff] at h
  obtain ⟨fd, hfd, h⟩ := h
  rw [Option.map_eq_some_iff] at h
  obtain ⟨ft', hft, h⟩ := h
  cases h
  have hund := (hcx.ty _ _ hti).und
  rw [nth_eq] at hfd
  cases hd : ti.d <;> simp only [hd, fields] at hfd <;> first | (simp at hfd; done) | skip
  rename_i fs
  exact ⟨fs, fd, by rw [hund, hd], by simpa using hfd, rfl, hcx.ty _ _ hft⟩
theorem elemO_spec {cx : Ctx} (hcx : CtxOK P cx) {t : Nat} {n : Option Nat} {e : TyI} (h : elemO cx t = some (n, e)) : ∃ el, TyOK P el e ∧ ((∃ m, n = some m ∧ P.underlying t = some (.array m el)) ∨ (n = none ∧ P.underlying t = some (.slice el))) := by
  unfold elemO at h
  rw [Option.bind_eq_some_iff] at h
  obtain ⟨ti, hti, h⟩ := h
  have hund := (hcx.ty _ _ hti).und
  split at h
  · rename_i m el hd
    rw [Option.map_eq_some_iff] at h
    obtain ⟨e', he, h⟩ := h
    cases h
    exact ⟨el, hcx.ty _ _ he, .inl ⟨m, rfl, by rw [hund, hd]⟩⟩
  · rename_i el hd
    rw [Option.map_eq_some_iff] at h
    obtain ⟨e', he, h⟩ := h
    cases h
    exact ⟨el, hcx.ty _ _ he, .inr ⟨rfl, by rw [hund, hd]⟩⟩
  · cases h
theorem str_get {l : List UInt8} {n : Nat} (h : n < l.length) : (ByteArray.mk l.toArray)[n]? = some (l.getD n 0) := by
  have h1 : n < (ByteArray.mk l.toArray).size := by rw [str_size]; exact h
  have h2 : (ByteArray.mk l.toArray)[n]? = some ((ByteArray.mk l.toArray)[n]'h1) := by simp [getElem?_def, h1]
  rw [h2]
  simp [List.getD_eq_getElem?_getD, h, ByteArray.getElem_eq_getElem_data]
theorem isStr_of {cx : Ctx} (hcx : CtxOK P cx) {t n : Nat} {tr : Tr SV} (h : (bif isStr cx t then tr else .stuck n).all Φ) : P.underlying t = some .string ∧ tr.all Φ := by
  cases hs : isStr cx t with
  | false => simp only [hs, cond_false] at h; exact h.elim
  | true =>
    simp only [hs, cond_true] at h
    refine ⟨?_, h⟩
    unfold isStr at hs
    split at hs
    · rename_i ti hti
      split at hs
      · rename_i hd
        rw [(hcx.ty _ _ hti).und, hd]
      · cases hs
    · cases hs
theorem isSl_of {cx : Ctx} (hcx : CtxOK P cx) {t n : Nat} {tr : Tr SV} (h : (bif isSl cx t then tr else .stuck n).all Φ) : (∃ el, P.underlying t = some (.slice el)) ∧ tr.all Φ := by
  cases hs : isSl cx t with
  | false => simp only [hs, cond_false] at h; exact h.elim
  | true =>
    simp only [hs, cond_true] at h
    refine ⟨?_, h⟩
    unfold isSl at hs
    split at hs
    · rename_i ti hti
      split at hs
      · rename_i el hd
        exact ⟨el, by rw [(hcx.ty _ _ hti).und, hd]⟩
      · cases hs
    · cases hs
theorem indexV_sound {cx : Ctx} (hcx : CtxOK P cx) {t : Nat} {i : Int} {k : IntKind} {x : V1} {u : Value} (h : (indexV cx t i x).all Φ) (hu : rep1 ρ R x u) :
    ∃ sv v, Φ sv ∧ repV ρ R sv v ∧ ∀ w, (Instr.index t u (.int k i)).run P w = .ok v w := by
  unfold indexV at h
  split at h
  · rename_i l
    simp only [rep1, repS] at hu
    subst hu
    obtain ⟨hstr, h⟩ := isStr_of hcx h
    obtain ⟨hi, h⟩ := h
    replace h := h hi
    have hlt : i.toNat < l.length := by omega
    refine ⟨_, .int .u8 ((l.getD i.toNat 0).toNat), h, rfl, fun w => ?_⟩
    have e := str_get hlt
    simp [Instr.index, asIntOf, underlying, hstr, hi.1, e]
  · rename_i ss
    obtain ⟨cs, rfl, hg⟩ := hu
    obtain ⟨⟨n, e⟩, he, h2⟩ := peel h
    obtain ⟨m, hm, h3⟩ := peel h2
    obtain ⟨s, hs, h4⟩ := peel h3
    clear h h2 h3
    have h := h4
    clear h4
    subst hm
    obtain ⟨el, hel, hT⟩ := elemO_spec hcx he
    rcases hT with ⟨m', e', hT⟩ | ⟨e', _⟩
    · cases e'
      split at h
      · rename_i id k' l
        cases hz : (Nat.beq (Sh.sz id) e.sz && Nat.beq k' m) with
        | false => simp only [hz, cond_false] at h; exact h.elim
        | true =>
          simp only [hz, cond_true] at h
          simp only [Bool.and_eq_true] at hz
          have hz1 := Nat.eq_of_beq_eq_true hz.1
          have hz2 := Nat.eq_of_beq_eq_true hz.2
          subst hz2
          obtain ⟨hi, h⟩ := h
          replace h := h hi
          obtain ⟨hl, c1, c2, c3, hcs, e1, a2, e2⟩ := arr_mid hg hs
          have hc1 : c1 = [] := List.length_eq_zero_iff.1 e1
          subst hc1
          simp only [List.nil_append] at hcs
          have hm : i.toNat < l.length := by rw [hl]; omega
          have hle : i.toNat * Sh.sz id + Sh.sz id ≤ c2.length := by
            rw [e2]
            have := Nat.mul_le_mul_right (Sh.sz id) (show i.toNat + 1 ≤ k' by omega)
            rwa [Nat.add_mul, Nat.one_mul] at this
          cases hag : e.ag with
          | true =>
            simp only [hag, cond_true] at h
            have h1 := el_rep a2 hm
            have e3 : (cs.drop (i.toNat * e.sz)).take e.sz = (c2.drop (i.toNat * Sh.sz id)).take (Sh.sz id) := by
              rw [← hz1, hcs, List.drop_append_of_le_length (by omega), List.take_append_of_le_length (by simp; omega)]
            refine ⟨_, _, h, ⟨_, rfl, repG_ones h1⟩, fun w => ?_⟩
            have := part_agg hel hag e3 w
            simp [Instr.index, asIntOf, underlying, hT, hi.1, hi.2, hel.size w, this]
          | false =>
            simp only [hag, cond_false] at h
            obtain ⟨y, hy, h⟩ := peel h
            obtain ⟨v, hv, hr, _⟩ := el_slot a2 hm hy
            refine ⟨_, v, h, hr, fun w => ?_⟩
            have e3 : cs[i.toNat * e.sz]? = some v := by
              rw [← hz1, hcs, List.getElem?_append_left (by have := (List.getElem?_eq_some_iff.1 hv).1; omega)]
              simpa using hv
            have := part_one hel hag e3 w
            simp [Instr.index, asIntOf, underlying, hT, hi.1, hi.2, hel.size w, this]
      · exact h.elim
    · cases e'
  · exact h.elim
theorem lenV_sound {cx : Ctx} (hcx : CtxOK P cx) {t : Nat} {x : Sc} {u : Value} (h : (lenV cx t x).all Φ) (hu : repS ρ R x u) : ∃ sv v, Φ sv ∧ repV ρ R sv v ∧ ∀ ty w, (Builtin.len_ #[t] ty #[u]).run P w = .ok v w := by
  unfold lenV at h
  split at h
  · simp only [repS] at hu
    subst hu
    obtain ⟨hT, h⟩ := isStr_of hcx h
    exact ⟨_, _, h, rfl, fun ty w => by simp [Builtin.len_, goInt, underlying, hT, str_size]⟩
  · obtain ⟨b, _, rfl⟩ := hu
    obtain ⟨⟨el, hT⟩, h⟩ := isSl_of hcx h
    exact ⟨_, _, h, rfl, fun ty w => by simp [Builtin.len_, goInt, underlying, hT]⟩
  · obtain ⟨rfl, _⟩ := hu
    obtain ⟨⟨el, hT⟩, h⟩ := isSl_of hcx h
    exact ⟨_, _, h, rfl, fun ty w => by simp [Builtin.len_, goInt, underlying, hT]⟩
  · simp only [repS] at hu
    subst hu
    obtain ⟨⟨el, hT⟩, h⟩ := isSl_of hcx h
    exact ⟨_, _, h, rfl, fun ty w => by simp [Builtin.len_, goInt, underlying, hT]⟩
  · exact h.elim
/-! ### Slices -/
theorem bound_ok {v : Value} {n : Int} {k : IntKind} (hv : v = .int k n) {y : Nat} {c : BoundsCode} (h : 0 ≤ n ∧ n ≤ y) (w : World) : (Instr.sliceBound v y c).run P w = .ok n.toNat w := by
  subst hv
  simp [Instr.sliceBound, asIntOf, h.1, h.2]
/-- a bound that is told or not -/
def repO (x : Option Int) (v : Option Value) : Prop := match x with
  | none => v = none
  | some n => ∃ k, v = some (.int k n)
theorem bounds_ok {isSl : Bool} {len cap : Nat} {lo hi : Option Int} {vl vh : Option Value} (hl : repO lo vl) (hh : repO hi vh) (h1 : 0 ≤ bnd len hi ∧ bnd len hi ≤ cap) (h2 : 0 ≤ bnd 0 lo ∧ bnd 0 lo ≤ (bnd len hi).toNat) (w : World) :
    (Instr.sliceBounds isSl len cap vl vh none).run P w = .ok ((bnd 0 lo).toNat, (bnd len hi).toNat, cap) w := by
  cases lo with
  | none =>
    simp only [repO] at hl
    subst hl
    cases hi with
    | none =>
      simp only [repO] at hh
      subst hh
      simp [Instr.sliceBounds, bnd]
    | some n =>
      obtain ⟨k, rfl⟩ := hh
      simp only [bnd] at h1 h2 ⊢
      simp [Instr.sliceBounds, bound_ok rfl h1 w]
  | some m =>
    obtain ⟨k, rfl⟩ := hl
    cases hi with
    | none =>
      simp only [repO] at hh
      subst hh
      simp only [bnd] at h1 h2 ⊢
      have h2' : 0 ≤ m ∧ m ≤ (len : Int) := by omega
      simp [Instr.sliceBounds, bound_ok rfl h2' w]
    | some n =>
      obtain ⟨k', rfl⟩ := hh
      simp only [bnd] at h1 h2 ⊢
      simp [Instr.sliceBounds, bound_ok rfl h1 w, bound_ok rfl h2 w]
theorem str_extract (l : List UInt8) (a b : Nat) : (⟨l.toArray⟩ : ByteArray).extract a b = ⟨((l.drop a).take (b - a)).toArray⟩ := by
  apply ByteArray.ext
  simp [ByteArray.data_extract, List.extract_eq_take_drop]
theorem sliceV_sound {cx : Ctx} (hcx : CtxOK P cx) {t : Nat} {lo hi : Option Int} {vl vh : Option Value} {x : Sc} {u : Value} (h : (sliceV cx t lo hi x).all Φ) (hu : repS ρ R x u) (hl : repO lo vl) (hh : repO hi vh) :
    ∃ sv v, Φ sv ∧ repV ρ R sv v ∧ ∀ w, (Instr.sliceAt t u vl vh none).run P w = .ok v w := by
  unfold sliceV at h
  split at h
  · rename_i l
    simp only [repS] at hu
    subst hu
    obtain ⟨hstr, h⟩ := isStr_of hcx h
    obtain ⟨h1, h⟩ := h
    obtain ⟨h2, h⟩ := h h1
    replace h := h h2
    refine ⟨_, _, h, rfl, fun w => ?_⟩
    have hb := bounds_ok (P := P) (isSl := false) (len := l.length) (cap := l.length) hl hh h1 h2 w
    simp [Instr.sliceAt, Instr.slice, underlying, hstr, str_size, hb, str_extract]
  · rename_i b base sz eo len cap
    obtain ⟨bb, hbb, rfl⟩ := hu
    obtain ⟨⟨n, e⟩, he, h⟩ := peel h
    obtain ⟨el, hel, hT⟩ := elemO_spec hcx he
    simp only at h
    split at h
    · rcases hT with ⟨_, e', _⟩ | ⟨_, hT⟩
      · cases e'
      cases hz : Nat.beq sz e.sz with
      | false => simp only [hz, cond_false] at h; exact h.elim
      | true =>
        simp only [hz, cond_true] at h
        have hz := Nat.eq_of_beq_eq_true hz
        subst hz
        obtain ⟨h1, h⟩ := h
        obtain ⟨h2, h⟩ := h h1
        replace h := h h2
        have hb := fun w => bounds_ok (P := P) (isSl := true) (len := len) (cap := cap) hl hh h1 h2 w
        cases lo with
        | none =>
          have hl' : (bnd 0 (none : Option Int)).toNat = 0 := rfl
          refine ⟨_, _, h, ⟨bb, hbb, rfl⟩, fun w => ?_⟩
          simp [Instr.sliceAt, Instr.slice, underlying, hT, hb w, hel.size w, hl', add_addr]
        | some l =>
          have hl' : (bnd 0 (some l)).toNat = l.toNat := rfl
          refine ⟨_, _, h, ⟨bb, hbb, rfl⟩, fun w => ?_⟩
          by_cases hc : cap = l.toNat
          · subst hc
            have : Nat.beq l.toNat l.toNat = true := Nat.beq_refl _
            simp [Instr.sliceAt, Instr.slice, underlying, hT, hb w, hel.size w, hl', add_addr]
          · have : Nat.beq cap l.toNat = false := Z.beq_ne hc
            simp [Instr.sliceAt, Instr.slice, underlying, hT, hb w, hel.size w, hl', add_addr, hc, this, Nat.add_mul, Nat.add_assoc]
    · exact h.elim
  · rename_i r sz eo len cap A
    obtain ⟨rfl, hA⟩ := hu
    obtain ⟨⟨n, e⟩, he, h⟩ := peel h
    obtain ⟨el, hel, hT⟩ := elemO_spec hcx he
    simp only at h
    split at h
    · rcases hT with ⟨_, e', _⟩ | ⟨_, hT⟩
      · cases e'
      cases hz : Nat.beq sz e.sz with
      | false => simp only [hz, cond_false] at h; exact h.elim
      | true =>
        simp only [hz, cond_true] at h
        have hz := Nat.eq_of_beq_eq_true hz
        subst hz
        obtain ⟨h1, h⟩ := h
        obtain ⟨h2, h⟩ := h h1
        replace h := h h2
        obtain ⟨h3, h⟩ := h
        replace h := h h3
        have hb := fun w => bounds_ok (P := P) (isSl := true) (len := len) (cap := cap) hl hh ⟨h1.1, by have := h1.2; omega⟩ h2 w
        cases lo with
        | none =>
          have hl' : (bnd 0 (none : Option Int)).toNat = 0 := rfl
          refine ⟨_, .slice A (bnd len hi).toNat cap, h, ⟨rfl, ?_⟩, fun w => ?_⟩
          · rcases hA with h0 | hA
            · left; have := h1.2; omega
            · exact .inr hA
          · cases A <;> simp [Instr.sliceAt, Instr.slice, underlying, hT, hb w, hel.size w, hl', add_addr, Addr.add]
        | some l =>
          have hl' : (bnd 0 (some l)).toNat = l.toNat := rfl
          by_cases hc : cap = l.toNat
          · subst hc
            have hbq : Nat.beq l.toNat l.toNat = true := Nat.beq_refl _
            refine ⟨_, .slice A ((bnd len hi).toNat - l.toNat) (l.toNat - l.toNat), h, ⟨by simp [hbq], ?_⟩, fun w => ?_⟩
            · left; have := h1.2; have := h2.2; simp only [bnd] at this; omega
            · simp [Instr.sliceAt, Instr.slice, underlying, hT, hb w, hel.size w, hl']
          · have hbq : Nat.beq cap l.toNat = false := Z.beq_ne hc
            refine ⟨_, .slice (A.map (·.add (l.toNat * e.sz))) ((bnd len hi).toNat - l.toNat) (cap - l.toNat), h, ⟨by simp [hbq], ?_⟩, fun w => ?_⟩
            · rcases hA with h0 | ⟨row, hrow, rfl⟩
              · left; have := h1.2; omega
              · refine .inr ⟨row, hrow, ?_⟩
                simp [hbq, add_addr, Nat.add_mul, Nat.add_assoc]
            · simp [Instr.sliceAt, Instr.slice, underlying, hT, hb w, hel.size w, hl', hc]
    · exact h.elim
  · rename_i b o
    obtain ⟨bb, hbb, rfl⟩ := hu
    obtain ⟨a, ha, h⟩ := peel h
    obtain ⟨⟨n, e⟩, he, h⟩ := peel h
    obtain ⟨m, hm, h⟩ := peel h
    obtain ⟨el, hel, hT⟩ := elemO_spec hcx he
    subst hm
    rcases hT with ⟨_, e', hT⟩ | ⟨e', _⟩
    · cases e'
      obtain ⟨h1, h⟩ := h
      obtain ⟨h2, h⟩ := h h1
      replace h := h h2
      have hb := fun w => bounds_ok (P := P) (isSl := false) (len := m) (cap := m) hl hh h1 h2 w
      have hrun : ∀ w, (Instr.sliceAt t (.pointer (some ⟨bb, o, none⟩)) vl vh none).run P w = .ok (.slice (some (if m = (bnd 0 lo).toNat then ⟨bb, o, none⟩ else ⟨bb, o + (bnd 0 lo).toNat * e.sz, none⟩)) ((bnd m hi).toNat - (bnd 0 lo).toNat) (m - (bnd 0 lo).toNat)) w := fun w => by
        unfold arrOf at ha
        split at ha
        · rename_i ti hti
          have hund := (hcx.ty _ _ hti).und
          split at ha
          · cases ha
            simp [Instr.sliceAt, underlying, hT, hb w, hel.size w, add_addr, Instr.sureAddr]
          · rename_i a' hd
            cases ha
            rw [hd] at hund
            simp [Instr.sliceAt, Instr.slice, underlying, hund, hT, hb w, hel.size w, add_addr, asAddr]
          · cases ha
        · cases ha
      cases lo with
      | none =>
        have hl' : (bnd 0 (none : Option Int)).toNat = 0 := rfl
        refine ⟨_, _, h, ⟨bb, hbb, rfl⟩, fun w => ?_⟩
        rw [hrun w]
        simp [hl']
      | some l =>
        have hl' : (bnd 0 (some l)).toNat = l.toNat := rfl
        refine ⟨_, _, h, ⟨bb, hbb, rfl⟩, fun w => ?_⟩
        rw [hrun w, hl']
        by_cases hc : m = l.toNat
        · simp [hc]
        · have : Nat.beq m l.toNat = false := Z.beq_ne hc
          simp [hc, this]
    · cases e'
  · obtain rfl := hu
    obtain ⟨⟨n, e⟩, he, h⟩ := peel h
    obtain ⟨el, hel, hT⟩ := elemO_spec hcx he
    simp only at h
    split at h
    · rcases hT with ⟨_, e', _⟩ | ⟨_, hT⟩
      · cases e'
      obtain ⟨h1, h⟩ := h
      obtain ⟨h2, h⟩ := h h1
      replace h := h h2
      have hb := fun w => bounds_ok (P := P) (isSl := true) (len := 0) (cap := 0) hl hh h1 (by omega) w
      have e1 : (bnd 0 lo).toNat = 0 := by omega
      have e2 : (bnd ((0 : Nat) : Int).toNat hi).toNat = 0 := by
        have : bnd ((0 : Nat) : Int).toNat hi = bnd 0 hi := rfl
        omega
      refine ⟨_, _, h, rfl, fun w => ?_⟩
      have e3 : (bnd 0 hi).toNat = 0 := by omega
      simp [Instr.sliceAt, Instr.slice, underlying, hT, hb w, hel.size w, e1, e3]
    · exact h.elim
  · exact h.elim
end
end Go.Y
