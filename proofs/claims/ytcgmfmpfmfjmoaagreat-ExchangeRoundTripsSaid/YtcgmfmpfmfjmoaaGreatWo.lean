/-
  THE LAWS ON THE CODES OF MAILS (the laws).
  Conditions: none.
-/
import Derived.Test.YtcgmfmpfmfjmoaaGreatWn
set_option linter.all false
namespace Go.Proofs.YtcgmfmpfmfjmoaaGreat
open Go.ChangeShapes

theorem few_mw {m : TMail} (o : okTMail m) (h1 : m.Keys.length ≤ 10 ∧ ∀ x ∈ m.Keys, x.length ≤ 100) (h2 : m.Pairs.length ≤ 10) (h3 : ∀ x ∈ m.Pairs, x.Key.length ≤ 100 ∧ x.Val.S.length ≤ 100) : MW m := by
  obtain ⟨a1, a2, a3, _, a5⟩ := o
  exact ⟨a1, a2, a3, by omega, fun x hx => by have := h1.2 x hx; omega, by omega, fun x hx => ⟨by have := h3 x hx; omega, (a5.2 x hx).2.2.1, by have := h3 x hx; omega⟩⟩

theorem mailB_small {m : TMail} (h : MW m) (h1 : m.Keys.length ≤ 10) (h2 : m.Pairs.length ≤ 10) : (mailB m).length ≤ 100000 := by
  have g1 := headB_len h
  have g2 := uintB_len64 (u := m.Keys.length) (by omega)
  have g3 := keysB_max h.k
  have g4 := prsB_max h.p
  have g5 := uintB_len64 (u := m.Pairs.length) (by omega)
  simp only [mailB, stateB, List.length_append]
  omega

theorem asc_keys {l : List Str} (h : ascB l = true) : ∀ x ∈ l, x.length ≤ 24 := by
  intro x hx
  obtain ⟨i, hi, rfl⟩ := List.getElem_of_mem hx
  simp only [ascB, Bool.not_eq_true', List.any_eq_false, List.mem_range] at h
  have := h i hi
  simp only [ascBad, Bool.or_eq_true, not_or, Bool.not_eq_true, Bool.not_eq_false', atI_nat hi] at this
  have hk := this.1
  simp only [kvB, Bool.and_eq_true, decide_eq_true_eq] at hk
  exact hk.1.2

theorem vv_len {v : TValue} (h : vvB v = true) : v.S.length ≤ 64 := by
  unfold vvB at h
  cases h0 : v.Kind == 0 with
  | true => rw [h0, cond_true] at h; simp only [Bool.and_eq_true, beq_iff_eq] at h; rw [h.2]; simp
  | false =>
    rw [h0, cond_false] at h
    cases h1 : v.Kind == 1 with
    | true => rw [h1, cond_true] at h; simp only [beq_iff_eq] at h; rw [h]; simp
    | false => rw [h1, cond_false] at h; simp only [Bool.and_eq_true] at h; exact plainB_len h.2

theorem valid_mr {m : TMail} (o : okTMail m) (h : validM m = true) : MR m := by
  obtain ⟨a1, a2, a3, _, a5⟩ := o
  have h' := h
  simp only [validM, Bool.and_eq_true, decide_eq_true_eq] at h'
  obtain ⟨⟨_, hkl⟩, ha, hst⟩ := h'
  have hg := (sta_iff.1 hst).1
  refine ⟨a1, a2, a3, hkl, asc_keys ha, fun x hx => ?_, h⟩
  obtain ⟨g1, g2, _⟩ := hg x hx
  simp only [kvB, Bool.and_eq_true, decide_eq_true_eq] at g1
  exact ⟨g1.1.2, (a5.2 x hx).2.2.1, vv_len g2, g2⟩

theorem mr_ok {m : TMail} (h : MR m) (hp : m.Pairs.length ≤ 1000000) : MOk m := by
  have e : big = 9223372036854775808 := rfl
  have := h.kl
  exact ⟨by omega, by omega, fun x hx => by have h1 := (h.p x hx).k; have h2 := (h.p x hx).v.s; omega⟩

theorem dec_ok {s : Str} (hs : s.length ≤ 1000000) : MOk (decodeM s).1 := by
  rcases decodeM_cases s with ⟨e, h, _⟩ | ⟨m, h, h1, h2, _⟩
  · rw [h]; exact ⟨by simp [mZ], PrOk.nil⟩
  · rw [h]; exact mr_ok (m := m) h1 (by omega)

theorem mail_self {m : TMail} (h : MOk m) : F_clockworkref31_Same m m = some true := by
  rw [same31 h h, (mailEq_iff m m).2 rfl]

theorem ok_mail {m : TMail} (o : okTMail m) : MOk m := by
  have e : big = 9223372036854775808 := rfl
  obtain ⟨_, _, _, a4, a5⟩ := o
  have h4 := a4.1
  have h5 := a5.1
  refine ⟨by omega, by omega, fun x hx => ?_⟩
  obtain ⟨b1, _, _, b3⟩ := a5.2 x hx
  have b1 : x.Key.length ≤ 9223372036854775807 := b1
  have b3 : x.Val.S.length ≤ 9223372036854775807 := b3
  omega

theorem plain_ExchangeCodes (x0 : TMail) (x1 : Str) (o0 : okTMail x0) (o1 : okS x1) : F_clockworklaw31_ExchangeCodes x0 x1 = some true := by
  have hM := ok_mail o0
  obtain ⟨b, hb, hb2⟩ := few_one hM.kl hM.p.l
  have hw := lives_true
  unfold F_clockworklaw31_ExchangeCodes
  rw [hb, bnd_mk, hw, bnd_mk]
  by_cases hB : b = true ∧ x1.length ≤ 500
  · obtain ⟨rfl, hs⟩ := hB
    obtain ⟨g1, g2, g3⟩ := hb2 rfl
    have hmw := few_mw o0 g1 g2 g3
    rw [decide_eq_false (by omega), mail_Dec (by omega), mail_DecR (by omega), mail_Enc hmw, mail_EncR hmw]
    simp only [bnd_mk, Bool.not_true, Bool.or_self, cond_false, BEq.rfl, gcall_t, mail_self (dec_ok (s := x1) (by omega)), Bool.and_self]
  · have : (!b || decide ((500 : Int) < (x1.length : Int))) = true := by
      cases b with
      | false => rfl
      | true =>
        have : ¬ x1.length ≤ 500 := fun h => hB ⟨rfl, h⟩
        simp only [Bool.not_true, Bool.false_or, decide_eq_true_eq]
        omega
    rw [this, cond_true]

theorem plain_ExchangeRoundTrips (x0 : TMail) (x1 : Str) (o0 : okTMail x0) (o1 : okS x1) : F_clockworklaw31_ExchangeRoundTrips x0 x1 = some true := by
  have hM := ok_mail o0
  have eb : big = 9223372036854775808 := rfl
  obtain ⟨b, hb, hb2⟩ := few_one hM.kl hM.p.l
  have hw := lives_true
  unfold F_clockworklaw31_ExchangeRoundTrips
  rw [hb, bnd_mk, hw, bnd_mk]
  by_cases hB : b = true ∧ x1.length ≤ 500
  · obtain ⟨rfl, hs⟩ := hB
    obtain ⟨g1, g2, g3⟩ := hb2 rfl
    have hmw := few_mw o0 g1 g2 g3
    have hsm := mailB_small hmw g1.1 g2
    have hdo := dec_ok (s := mailB x0) (by omega)
    rw [decide_eq_false (by omega), mail_Enc hmw, bnd_mk, mail_Dec (s := mailB x0) (by omega), bnd_mk, mail_Dec (s := x1) (by omega), bnd_mk, mvalid_ref hM.kl (fun x hx => by have := g1.2 x hx; omega) hM.p]
    simp only [bnd_mk, Bool.not_true, Bool.or_self, cond_false, jn_mk]
    have hin : (bnd (gcall ((((decodeM x1).2 != (0 : Int))) == false) (F_exchange_Encode (decodeM x1).1)) fun x25 => (bnd (gcall ((((x25 == x1)) == true) && ((((decodeM x1).2 != (0 : Int))) == false)) (F_clockworkref31_Valid (decodeM x1).1)) fun x26 => (bnd (gcall (((((decodeM x1).2 != (0 : Int)) || ((x25 == x1) && x26))) == true) (some true)) fun x27 => (some ((((decodeM x1).2 != (0 : Int)) || ((x25 == x1) && x26)) && x27))))) = some true := by
      rcases decodeM_cases x1 with ⟨e, h, he⟩ | ⟨m, h, h1, h2, h3⟩
      · rw [h]
        simp only [neB, decide_eq_false he, Bool.not_false, show (true == false) = false from rfl, gcall_f, bnd_mk, Bool.and_false, Bool.true_or, BEq.rfl, gcall_t, Bool.and_self]
      · have ho := mr_ok h1 (by omega)
        have hkl := h1.kl
        have hmw1 : MW m := ⟨h1.t, h1.f, h1.o, by omega, fun x hx => by have := h1.k x hx; omega, by omega, fun x hx => (h1.p x hx).w⟩
        rw [h]
        simp only [bne_self_eq_false, BEq.rfl, gcall_t]
        rw [mail_Enc hmw1, bnd_mk, ← h3]
        simp only [BEq.rfl, Bool.and_self, gcall_t]
        rw [mvalid_ref ho.kl (fun x hx => by have := h1.k x hx; omega) ho.p, h1.v]
        rfl
    rw [hin]
    cases hv : validM x0 with
    | true =>
      have hmr := valid_mr o0 hv
      rw [decodeM_of hmr (by omega)]
      simp only [cond_true, bne_self_eq_false, BEq.rfl, gcall_t, mail_self hM, bnd_mk, Bool.not_true, Bool.or_self, cond_false]
    | false =>
      rw [cond_false]
      rcases decodeM_cases (mailB x0) with ⟨e, h, he⟩ | ⟨m, h, h1, h2, h3⟩
      · have he' : (e == (0 : Int)) = false := by simpa using he
        rw [h]
        simp only [he', show (false == true) = false from rfl, gcall_f, bnd_mk, Bool.and_false, Bool.false_and, cond_false]
      · have ho := mr_ok h1 (by omega)
        have hne : mailEq m x0 = false := by
          rw [Bool.eq_false_iff]
          intro hq
          have := (mailEq_iff m x0).1 hq
          rw [← this, h1.v] at hv
          simp at hv
        rw [h]
        simp only [BEq.rfl, gcall_t]
        rw [mvalid_ref ho.kl (fun x hx => by have := h1.k x hx; omega) ho.p, h1.v]
        simp only [bnd_mk, Bool.not_true, BEq.rfl, Bool.and_self, gcall_t, same31 ho hM, hne, Bool.or_self, Bool.and_false, cond_false]
  · have : (!b || decide ((500 : Int) < (x1.length : Int))) = true := by
      cases b with
      | false => rfl
      | true =>
        have : ¬ x1.length ≤ 500 := fun h => hB ⟨rfl, h⟩
        simp only [Bool.not_true, Bool.false_or, decide_eq_true_eq]
        omega
    rw [this, cond_true]

end Go.Proofs.YtcgmfmpfmfjmoaaGreat
