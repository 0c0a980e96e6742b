/-
  Chapter 31, plain texts: the chapter's example; the laws on what is sent, waited for and collected.
  Conditions: none.
-/
import Derived.Test.YtcgmfmpfmfjmoaaGreatYr
import Derived.Test.YtcgmfmpfmfjmoaaGreatOp
set_option linter.all false
namespace Go.Proofs.YtcgmfmpfmfjmoaaGreat

/-! ### Arguments that are data -/

theorem okP_facts {p : TPlacement} (h : okTPlacement p) : p.Parts.length < big ∧ ∀ x ∈ p.Parts, x.From.length < big ∧ x.Done.length < big := by
  obtain ⟨_, h1, h2⟩ := h
  have e : big = 9223372036854775808 := rfl
  refine ⟨by rw [e]; omega, fun x hx => ?_⟩
  obtain ⟨_, h3, _, _, h4⟩ := h2 x hx
  have h3 : x.From.length ≤ 9223372036854775807 := h3
  have h4 : x.Done.length ≤ 9223372036854775807 := h4
  rw [e]
  omega

theorem okP30 {x0 : TPlacement} (o0 : okTPlacement x0) : POk x0 := by
  obtain ⟨hl, hs⟩ := okP_facts o0
  exact ⟨hl, hs⟩

theorem okF30 {x0 : TFootprint} (o0 : okTFootprint x0) : FOk x0 := by
  obtain ⟨_, ⟨h1, h2⟩, ⟨h3, h4⟩⟩ := o0
  exact ⟨by omega, by omega, fun k hk => by have := h2 k hk; simp only [okS] at this; have e : big = 9223372036854775808 := rfl; omega, fun k hk => by have := h4 k hk; simp only [okS] at this; have e : big = 9223372036854775808 := rfl; omega⟩

theorem okPr {l : List TPair} (o : okL okTPair l) : PrOk l := by
  obtain ⟨h1, h2⟩ := o
  refine ⟨by omega, fun x hx => ?_⟩
  obtain ⟨h3, _, _, h4⟩ := h2 x hx
  have h3 : x.Key.length ≤ 9223372036854775807 := h3
  have h4 : x.Val.S.length ≤ 9223372036854775807 := h4
  have e : big = 9223372036854775808 := rfl
  rw [e]; omega

theorem okMs {l : List TMail} (o : okL okTMail l) : l.length < 9223372036854775808 ∧ ∀ m ∈ l, MOk m := by
  obtain ⟨h1, h2⟩ := o
  refine ⟨by omega, fun m hm => ?_⟩
  obtain ⟨_, _, _, ⟨h3, _⟩, h4⟩ := h2 m hm
  exact ⟨by omega, okPr h4⟩

/-! ### The example -/

def lvP : TPlacement := ⟨0, ([(⟨(1 : Int), [], (1 : Int), 0, []⟩ : TPart), (⟨(2 : Int), ([109] : Str), (2 : Int), 0, []⟩ : TPart)] : List TPart)⟩
def lvF : TFootprint := ⟨false, ([([97] : Str), ([120] : Str)] : List Str), ([([120] : Str)] : List Str)⟩
def lvA : TPair := ⟨[97], ⟨1, 1, []⟩⟩
def lvB : TPair := ⟨[98], ⟨1, 2, []⟩⟩
def lvX : TPair := ⟨[120], ⟨1, 3, []⟩⟩
def lvM : TMail := ⟨5, 1, 2, [[97]], [lvA]⟩
def lvN : TMail := ⟨5, 2, 2, [[120]], [lvX]⟩

theorem lvP_ok : POk lvP := ⟨by decide, by simp [lvP, big]⟩
theorem lvF_ok : FOk lvF := ⟨by decide, by decide, by simp [lvF, big], by simp [lvF, big]⟩
theorem lv1_ok : PrOk [lvA, lvB] := ⟨by decide, by simp [lvA, lvB, big]⟩
theorem lv2_ok : PrOk [lvX] := ⟨by decide, by simp [lvX, big]⟩
theorem lvA_ok : PrOk [lvA] := ⟨by decide, by simp [lvA, big]⟩

theorem lvM_ok : MOk lvM := ⟨by decide, lvA_ok⟩
theorem lvN_ok : MOk lvN := ⟨by decide, lv2_ok⟩

theorem lv_union : clP [] [] [lvN, lvM] = ([lvA, lvX], 0) := by
  have h1 : staB [lvX] = true := by kernel_rfl
  have h2 : staB [lvA] = true := by kernel_rfl
  have h3 : staB ([] : List TPair) = true := by kernel_rfl
  have e1 : unionP [] [lvX] = ([lvX], 0) := by
    rw [unionP, h1, h3, mg]; rfl
  have e2 : unionP [lvX] [lvA] = ([lvA, lvX], 0) := by
    rw [unionP, h1, h2, mg, if_neg (by decide +kernel), if_pos (by decide +kernel), mg_nil]; rfl
  rw [clP, show lvN.Pairs = [lvX] from rfl, e1, clP, show lvM.Pairs = [lvA] from rfl]
  dsimp only
  rw [e2, clP]
  rfl

theorem lives_true : F_clockworklaw31_lives = some true := by
  have s1 : F_exchange_Send lvP ⟨1, [lvA, lvB]⟩ 5 lvF = some [lvM] := by
    rw [send_impl lvP_ok lvF_ok lv1_ok (by decide)]
    exact congrArg some (by kernel_rfl)
  have s2 : F_exchange_Send lvP ⟨2, [lvX]⟩ 5 lvF = some [lvN] := by
    rw [send_impl lvP_ok lvF_ok lv2_ok (by decide)]
    exact congrArg some (by kernel_rfl)
  have s3 : F_exchange_Complete lvP lvF 5 2 [lvM] = some false := by
    rw [complete_impl lvP_ok lvF_ok (by decide)]
    exact congrArg some (by kernel_rfl)
  have s4 : F_exchange_Complete lvP lvF 5 2 [lvN, lvM] = some true := by
    rw [complete_impl lvP_ok lvF_ok (by decide)]
    exact congrArg some (by kernel_rfl)
  have s5 : F_exchange_Collect 5 2 [lvN, lvM, lvN] = some ([lvA, lvX], 0) := by
    rw [collect_impl (by decide) (fun m hm => by
      simp only [List.mem_cons, List.not_mem_nil, or_false] at hm
      rcases hm with rfl | rfl | rfl
      · exact ⟨lvN_ok, by decide⟩
      · exact ⟨lvM_ok, by decide⟩
      · exact ⟨lvN_ok, by decide⟩)]
    rw [show mine 5 2 [lvN, lvM, lvN] = [lvN, lvM] by kernel_rfl, collectP, lv_union]
    exact congrArg some (by kernel_rfl)
  have s6 : F_clockworkref04_Same [[97]] [[97]] = some true := by rw [same04 (by decide) (by decide)]; rfl
  have s7 : F_clockworkref06_Same [lvA, lvX] [lvA, lvX] = some true := by
    rw [same06 (by decide) (by decide)]; exact congrArg some (by kernel_rfl)
  have h : F_clockworklaw31_lives = bnd (F_exchange_Send lvP ⟨1, [lvA, lvB]⟩ 5 lvF) fun x13 => bnd (F_exchange_Send lvP ⟨2, [lvX]⟩ 5 lvF) fun x27 => (req (((((((x13).length : Nat) : Int) != (1 : Int))) == false) = true → 0 ≤ (0 : Int) ∧ (0 : Int) < ((x13).length : Int)) (req ((((((((x13).length : Nat) : Int) != (1 : Int)) || ((cond ((((((x13).length : Nat) : Int) != (1 : Int))) == false) (atI x13 ((0 : Int))) default).To != (2 : Int)))) == false) = true → 0 ≤ (0 : Int) ∧ (0 : Int) < ((x13).length : Int)) (bnd (gcall (((((((x13).length : Nat) : Int) != (1 : Int)) || ((cond ((((((x13).length : Nat) : Int) != (1 : Int))) == false) (atI x13 ((0 : Int))) default).To != (2 : Int)))) == false) (F_clockworkref04_Same ((cond (((((((x13).length : Nat) : Int) != (1 : Int)) || ((cond ((((((x13).length : Nat) : Int) != (1 : Int))) == false) (atI x13 ((0 : Int))) default).To != (2 : Int)))) == false) (atI x13 ((0 : Int))) default).Keys) (([([97] : Str)] : List Str)))) fun x58 => (bnd (gcall (((((((((x13).length : Nat) : Int) != (1 : Int)) || ((cond ((((((x13).length : Nat) : Int) != (1 : Int))) == false) (atI x13 ((0 : Int))) default).To != (2 : Int))) || (!x58)) || ((((x27).length : Nat) : Int) != (1 : Int)))) == false) (F_exchange_Complete lvP lvF ((5 : Int)) ((2 : Int)) x13)) fun x59 => (cond ((((((((x13).length : Nat) : Int) != (1 : Int)) || ((cond ((((((x13).length : Nat) : Int) != (1 : Int))) == false) (atI x13 ((0 : Int))) default).To != (2 : Int))) || (!x58)) || ((((x27).length : Nat) : Int) != (1 : Int))) || x59) (some false) (req (0 ≤ (0 : Int) ∧ (0 : Int) < ((x27).length : Int)) (req (0 ≤ (0 : Int) ∧ (0 : Int) < ((x13).length : Int)) (req (0 ≤ (0 : Int) ∧ (0 : Int) < ((x27).length : Int)) (bnd (F_exchange_Collect ((5 : Int)) ((2 : Int)) (([(atI x27 ((0 : Int))), (atI x13 ((0 : Int))), (atI x27 ((0 : Int)))] : List TMail))) fun x89 => (req (0 ≤ (0 : Int) ∧ (0 : Int) < ((x27).length : Int)) (req (0 ≤ (0 : Int) ∧ (0 : Int) < ((x13).length : Int)) (bnd (F_exchange_Complete lvP lvF ((5 : Int)) ((2 : Int)) (([(atI x27 ((0 : Int))), (atI x13 ((0 : Int)))] : List TMail))) fun x142 => (bnd (gcall ((x142) == true) (some lvA)) fun x143 => (bnd (gcall ((x142) == true) (some lvX)) fun x144 => (bnd (gcall ((x142) == true) (F_clockworkref06_Same x89.1 (([x143, x144] : List TPair)))) fun x171 => (some ((x142 && x171) && (x89.2 == (0 : Int))))))))))))))))))) := rfl
  rw [h, s1, bnd_mk, s2, bnd_mk]
  have a1 : atI [lvM] (0 : Int) = lvM := rfl
  have a2 : atI [lvN] (0 : Int) = lvN := rfl
  rw [req_pos (fun _ => by decide), req_pos (fun _ => by decide)]
  simp only [a1, a2]
  rw [show ((([lvM].length : Nat) : Int) != 1) = false by rfl, show ((([lvN].length : Nat) : Int) != 1) = false by rfl]
  simp only [BEq.rfl, cond_true, Bool.false_or, show (lvM.To != 2) = false by rfl, gcall_t]
  rw [show lvM.Keys = [[97]] from rfl, s6, bnd_mk]
  simp only [Bool.not_true, BEq.rfl, gcall_t, Bool.or_self]
  rw [s3, bnd_mk, Bool.or_self, cond_false, req_pos (by decide), req_pos (by decide), req_pos (by decide), s5, bnd_mk, req_pos (by decide), req_pos (by decide), s4, bnd_mk]
  simp only [BEq.rfl, gcall_t, bnd_mk]
  rw [s7]
  rfl

/-! ### The laws -/

theorem pairs_self {l : List TPair} (hl : l.length < 9223372036854775808) : F_clockworkref06_Same l l = some true := by
  rw [same06 hl hl, (eqL_iff pairEq_iff).2 rfl]

theorem few19_eq {f : TFootprint} (hf : FOk f) : ∃ b, F_clockworkref19_Few f 20 = some b := by
  unfold F_clockworkref19_Few
  cases (decide ((20 : Int) < ((f.Reads.length : Nat) : Int)) || decide ((20 : Int) < ((f.Writes.length : Nat) : Int))) with
  | true => exact ⟨false, rfl⟩
  | false =>
    simp only [cond_false, jn_mk]
    have h1 : ∀ J : Option Bool, F_clockworkref19_Few_L2 f J (((f.Reads.length : Nat) : Int).toNat + 1) 0 = cond (f.Reads.any fun k => decide ((100 : Int) < (k.length : Int))) (some false) J := by
      intro J
      refine loopAny0 (l := f.Reads) hf.r (L := fun n i => F_clockworkref19_Few_L2 f J n i) (q := fun k => decide ((100 : Int) < (k.length : Int))) (n := ((f.Reads.length : Nat) : Int).toNat + 1) (by omega) ?_ ?_
      · intro n i hi
        try dsimp only
        rw [F_clockworkref19_Few_L2]
        simp only [show (i : Int) < (f.Reads.length : Int) by omega, decide_true, cond_true, show 0 ≤ (i : Int) by omega, and_self, req_t, atI_nat hi]
      · intro n
        try dsimp only
        rw [F_clockworkref19_Few_L2]
        simp
    have h2 : ∀ J : Option Bool, F_clockworkref19_Few_L1 f J (((f.Writes.length : Nat) : Int).toNat + 1) 0 = cond (f.Writes.any fun k => decide ((100 : Int) < (k.length : Int))) (some false) J := by
      intro J
      refine loopAny0 (l := f.Writes) hf.w (L := fun n i => F_clockworkref19_Few_L1 f J n i) (q := fun k => decide ((100 : Int) < (k.length : Int))) (n := ((f.Writes.length : Nat) : Int).toNat + 1) (by omega) ?_ ?_
      · intro n i hi
        try dsimp only
        rw [F_clockworkref19_Few_L1]
        simp only [show (i : Int) < (f.Writes.length : Int) by omega, decide_true, cond_true, show 0 ≤ (i : Int) by omega, and_self, req_t, atI_nat hi]
      · intro n
        try dsimp only
        rw [F_clockworkref19_Few_L1]
        simp
    rw [h1, h2]
    cases (f.Reads.any fun k => decide ((100 : Int) < (k.length : Int))) <;> cases (f.Writes.any fun k => decide ((100 : Int) < (k.length : Int))) <;> exact ⟨_, rfl⟩

theorem light_eq {p : TPlacement} {f : TFootprint} (hp : POk p) (hf : FOk f) : ∃ b, F_clockworkref31_Light p f = some b := by
  unfold F_clockworkref31_Light
  obtain ⟨b, e⟩ := few19_eq hf
  rw [e]
  cases decide ((20 : Int) < ((p.Parts.length : Nat) : Int)) with
  | true => exact ⟨false, rfl⟩
  | false =>
    simp only [BEq.rfl, gcall_t, bnd_mk, Bool.false_or, jn_mk]
    cases b with
    | false => exact ⟨false, rfl⟩
    | true =>
      simp only [Bool.not_true, cond_false]
      have h1 : F_clockworkref31_Light_L1 p (some true) (((p.Parts.length : Nat) : Int).toNat + 1) 0 = cond (p.Parts.any fun x => decide ((100 : Int) < (x.From.length : Int)) || decide ((100 : Int) < (x.Done.length : Int))) (some false) (some true) := by
        refine loopAny0 (l := p.Parts) hp.l (L := fun n i => F_clockworkref31_Light_L1 p (some true) n i) (q := fun x => decide ((100 : Int) < (x.From.length : Int)) || decide ((100 : Int) < (x.Done.length : Int))) (n := ((p.Parts.length : Nat) : Int).toNat + 1) (by omega) ?_ ?_
        · intro n i hi
          try dsimp only
          rw [F_clockworkref31_Light_L1]
          simp only [show (i : Int) < (p.Parts.length : Int) by omega, decide_true, cond_true, show 0 ≤ (i : Int) by omega, and_self, implies_true, req_t, atI_nat hi]
          cases decide ((100 : Int) < (p.Parts[i].From.length : Int)) <;> simp
        · intro n
          try dsimp only
          rw [F_clockworkref31_Light_L1]
          simp
      rw [h1]
      cases (p.Parts.any fun x => decide ((100 : Int) < (x.From.length : Int)) || decide ((100 : Int) < (x.Done.length : Int))) <;> exact ⟨_, rfl⟩

theorem plain_ExchangeSends (x0 : TPlacement) (x1 : TShard) (x2 : Int) (x3 : TFootprint) (o0 : okTPlacement x0) (o1 : okTShard x1) (o2 : (okI .i64) x2) (o3 : okTFootprint x3) : F_clockworklaw31_ExchangeSends x0 x1 x2 x3 = some true := by
  have hp := okP30 o0
  have hf := okF30 o3
  have hs := okPr o1.2
  unfold F_clockworklaw31_ExchangeSends
  obtain ⟨b, e⟩ := light_eq hp hf
  rw [e, bnd_mk]
  cases b with
  | false => simp only [Bool.not_false]; rw [lives_true]; rfl
  | true =>
    simp only [Bool.not_true, BEq.rfl, gcall_t, Bool.false_or]
    obtain ⟨c, e, hc⟩ := few_eq hs.l (m := 12) (by decide)
    rw [show ((12 : Int)) = ((12 : Nat) : Int) from rfl, e, bnd_mk]
    cases c with
    | false => simp only [Bool.not_false]; rw [lives_true]; rfl
    | true =>
      have hl : x1.Pairs.length ≤ 1000 := by have := hc rfl; omega
      obtain ⟨h1, h2⟩ := send_ok hp hf hs x2
      have hloc : (localP x0 x1 x3).length < 9223372036854775808 := by
        unfold localP
        cases v31 x0 x1 x3 with
        | false => simp
        | true => exact Nat.lt_of_le_of_lt (List.length_filter_le _ _) hs.l
      simp only [Bool.not_true, cond_false]
      rw [local_impl hp hf hs hl, local_ref hp hf hs hl, bnd_mk, bnd_mk, pairs_self hloc, bnd_mk, send_impl hp hf hs hl, send_ref hp hf hs hl]
      simp only [BEq.rfl, gcall_t, bnd_mk]
      rw [sameList31 (by omega) h2, bnd_mk, lives_true]
      rfl

theorem plain_ExchangeWaits (x0 : TPlacement) (x1 : TFootprint) (x2 : Int) (x3 : Int) (x4 : List TMail) (o0 : okTPlacement x0) (o1 : okTFootprint x1) (o2 : (okI .i64) x2) (o3 : (okI .i64) x3) (o4 : (okL okTMail) x4) : F_clockworklaw31_ExchangeWaits x0 x1 x2 x3 x4 = some true := by
  have hp := okP30 o0
  have hf := okF30 o1
  obtain ⟨hl, hm⟩ := okMs o4
  unfold F_clockworklaw31_ExchangeWaits
  obtain ⟨b, e⟩ := light_eq hp hf
  rw [e, bnd_mk]
  cases b with
  | false => simp only [Bool.not_false]; rw [lives_true]; rfl
  | true =>
    simp only [Bool.not_true, BEq.rfl, gcall_t, Bool.false_or]
    obtain ⟨c, e, hc⟩ := fewMails_eq hl hm
    rw [e, bnd_mk]
    cases c with
    | false => simp only [Bool.not_false]; rw [lives_true]; rfl
    | true =>
      have hlen := (hc rfl).1
      simp only [Bool.not_true, cond_false]
      rw [complete_impl hp hf (by omega), complete_ref hp hf (by omega), bnd_mk, bnd_mk]
      simp only [BEq.rfl, gcall_t]
      rw [lives_true]
      rfl

theorem plain_ExchangeCollects (x0 : Int) (x1 : Int) (x2 : List TMail) (o0 : (okI .i64) x0) (o1 : (okI .i64) x1) (o2 : (okL okTMail) x2) : F_clockworklaw31_ExchangeCollects x0 x1 x2 = some true := by
  obtain ⟨hl, hm⟩ := okMs o2
  unfold F_clockworklaw31_ExchangeCollects
  obtain ⟨c, e, hc⟩ := fewMails_eq hl hm
  rw [e, bnd_mk]
  cases c with
  | false => simp only [Bool.not_false]; rw [lives_true]; rfl
  | true =>
    obtain ⟨hlen, hsm⟩ := hc rfl
    have hall : ∀ m ∈ x2, MOk m ∧ m.Pairs.length ≤ 100 := fun m h => ⟨hm m h, by have := (hsm m h).2; omega⟩
    simp only [Bool.not_true, cond_false]
    rw [collect_impl (by omega) hall, collect_ref (by omega) hall, bnd_mk, bnd_mk]
    have hu : (collectP (mine x0 x1 x2)).1.length < 9223372036854775808 := by
      have ho : ∀ m ∈ mine x0 x1 x2, MOk m ∧ m.Pairs.length ≤ 100 := fun m hm => hall m (mine_sub hm).1
      have hol : (mine x0 x1 x2).length ≤ 12 := Nat.le_trans (mine_len _ _ _) hlen
      generalize mine x0 x1 x2 = own at ho hol ⊢
      have key : ∀ (l seen : List TMail) (out : List TPair), (∀ m ∈ l, MOk m ∧ m.Pairs.length ≤ 100) → PrOk out → out.length + 100 * l.length ≤ 100000 → (clP seen out l).1.length ≤ 100000 := by
        intro l
        induction l with
        | nil => intro seen out _ _ h; simpa [clP] using h
        | cons m l ih =>
          intro seen out h1 h2 h3
          rw [clP]
          rw [List.length_cons] at h3
          have hm := h1 m (by simp)
          have hu := union_inv h2 hm.1.p (by omega)
          cases seen.any fun x => x.From == m.From with
          | true => simp
          | false =>
            cases ((unionP out m.Pairs).2 != 0) with
            | true => simp
            | false => exact ih _ _ (fun x hx => h1 x (by simp [hx])) hu.2 (by omega)
      unfold collectP
      cases ((own.length : Int) == 0) with
      | true => simp
      | false =>
        cases (own.any fun m => !staB m.Pairs) with
        | true => simp
        | false => exact Nat.lt_of_le_of_lt (key own [] [] ho PrOk.nil (by simp; omega)) (by decide)
    rw [pairs_self hu, bnd_mk]
    simp only [BEq.rfl, Bool.and_self, gcall_t]
    rw [lives_true]
    rfl

end Go.Proofs.YtcgmfmpfmfjmoaaGreat
