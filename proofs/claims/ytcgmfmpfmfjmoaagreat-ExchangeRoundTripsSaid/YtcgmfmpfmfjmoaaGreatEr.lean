/-
  Chapter 31, plain texts: Local, Send, Complete, closed.
  Conditions: none.
-/
import Derived.Test.YtcgmfmpfmfjmoaaGreatEq
set_option linter.all false
namespace Go.Proofs.YtcgmfmpfmfjmoaaGreat

theorem containsS {l : List Str} (hl : l.length < 9223372036854775808) (k : Str) : F_slices_Contains_string_string l k = some (l.any fun y => y == k) := by
  unfold F_slices_Contains_string_string F_slices_Index_string_string
  simp only [jn_mk]
  rw [loopHas (l := l) hl (L := fun n i => F_slices_Index_string_string_L1 l k (some (-1)) n i) (q := fun y => k == y) ?_ ?_ (by omega)]
  · congr 1
    exact any_congr fun x _ => by rw [Bool.eq_iff_iff]; simp only [beq_iff_eq]; exact eq_comm
  · intro n i hi
    try dsimp only
    rw [F_slices_Index_string_string_L1]
    simp only [show (i : Int) < (l.length : Int) by omega, decide_true, cond_true, show 0 ≤ (i : Int) by omega, and_self, req_t, atI_nat hi]
  · intro n
    try dsimp only
    rw [F_slices_Index_string_string_L1]
    simp

variable {p : TPlacement} {f : TFootprint}

def v31 (p : TPlacement) (s : TShard) (f : TFootprint) : Bool := v30 p f && staB s.Pairs
def localP (p : TPlacement) (s : TShard) (f : TFootprint) : List TPair := cond (v31 p s f) (s.Pairs.filter fun x => f.All || f.Reads.any fun y => y == x.Key) []

theorem v31_impl (hp : POk p) (hf : FOk f) {s : TShard} (hs : PrOk s.Pairs) : F_exchange_valid p s f = some (v31 p s f) := by
  unfold F_exchange_valid v31
  rw [valid29_impl hp.l hp.s, fvalid_impl hf, svalid_impl hs, bnd_mk, v30]
  cases pvB p with
  | false => simp [gcall, bnd]
  | true => cases fvB f <;> simp [gcall, bnd]

theorem local_impl (hp : POk p) (hf : FOk f) {s : TShard} (hs : PrOk s.Pairs) (hl : s.Pairs.length ≤ 1000) : F_exchange_Local p s f = some (localP p s f) := by
  unfold F_exchange_Local localP
  rw [v31_impl hp hf hs, bnd_mk]
  cases v31 p s f with
  | false => rfl
  | true =>
    simp only [Bool.not_true, cond_false, cond_true, jn_mk]
    refine loopFilter (l := s.Pairs) hs.l (L := fun n a i => F_exchange_Local_L1 s f (fun x11 => some x11) n a i) (J := fun x11 => some x11) (p := fun x => f.All || f.Reads.any fun y => y == x.Key) ?_ ?_ (n := ((s.Pairs.length : Nat) : Int).toNat + 1) (by omega)
    · intro n i acc hi hacc
      try dsimp only
      rw [F_exchange_Local_L1]
      have hb : (acc ++ [s.Pairs[i]]).length * 48 ≤ 140737488355328 := by simp; omega
      simp only [show (i : Int) < (s.Pairs.length : Int) by omega, decide_true, cond_true, show 0 ≤ (i : Int) by omega, and_self, req_t, atI_nat hi, containsS hf.r, jn_mk, hb]
      cases f.All with
      | true => simp [gcall, bnd]
      | false => simp only [BEq.rfl, gcall_t, bnd_mk]
    · intro n acc _
      try dsimp only
      rw [F_exchange_Local_L1]
      simp

/-- The mail of a node to another. -/
def mailP (p : TPlacement) (s : TShard) (txn : Int) (f : TFootprint) (to : Int) : TMail := ⟨txn, s.Node, to, f.Reads.filter fun k => ownerP p k == s.Node, localP p s f⟩
def sendP (p : TPlacement) (s : TShard) (txn : Int) (f : TFootprint) : List TMail := cond (v31 p s f && (nodes30 p f).any fun y => y == s.Node) ((exec30 p f).map (mailP p s txn f)) []

theorem v31_parts {s : TShard} (h : v31 p s f = true) : v30 p f = true ∧ staB s.Pairs = true := by simpa [v31] using h

theorem owner_v (hp : POk p) (hv : pvB p = true) (k : Str) : F_placement_Owner p k = some (ownerP p k) := owner_impl hp.l hp.s (pv_from hv)

theorem send_impl (hp : POk p) (hf : FOk f) {s : TShard} (hs : PrOk s.Pairs) (hl : s.Pairs.length ≤ 1000) (txn : Int) : F_exchange_Send p s txn f = some (sendP p s txn f) := by
  unfold F_exchange_Send sendP
  rw [v31_impl hp hf hs, nodes30_impl hp hf, bnd_mk]
  cases hv : v31 p s f with
  | false => rfl
  | true =>
    obtain ⟨hv1, hv2⟩ := v31_parts hv
    obtain ⟨hpv, hfv⟩ := v30_parts hv1
    have hrl := (fvB_len hfv).1
    have hel := exec30_len (p := p) (f := f)
    have hnl := nodes30_len (p := p) (f := f)
    simp only [Bool.not_true, BEq.rfl, gcall_t, bnd_mk, Bool.false_or, Bool.true_and]
    rw [contains_eq (by simp only [big]; omega), bnd_mk]
    cases ((nodes30 p f).any fun y => y == s.Node) with
    | false => rfl
    | true =>
      simp only [Bool.not_true, cond_false, cond_true]
      rw [exec30_impl hp hf, bnd_mk, jn_mk]
      refine loopMap (l := exec30 p f) (by omega) (L := fun n a i => F_exchange_Send_L1 (exec30 p f) p s f txn (fun x27 => some x27) n a i) (J := fun x27 => some x27) (g := mailP p s txn f) ?_ ?_ (n := (((exec30 p f).length : Nat) : Int).toNat + 1) (by omega)
      · intro n i acc hi hacc
        try dsimp only
        rw [F_exchange_Send_L1]
        simp only [show (i : Int) < ((exec30 p f).length : Int) by omega, decide_true, cond_true, show 0 ≤ (i : Int) by omega, and_self, req_t, atI_nat hi, local_impl hp hf hs hl, bnd_mk, jn_mk]
        have hL2 : ∀ (J : List TMail → List Str → Option (List TMail)), F_exchange_Send_L2 f p s J (((f.Reads.length : Nat) : Int).toNat + 1) acc [] 0 = J acc (f.Reads.filter fun k => ownerP p k == s.Node) := by
          intro J
          refine loopFilter (l := f.Reads) hf.r (L := fun n a i => F_exchange_Send_L2 f p s J n acc a i) (J := fun a => J acc a) (p := fun k => ownerP p k == s.Node) ?_ ?_ (by omega)
          · intro n k a hk ha
            try dsimp only
            rw [F_exchange_Send_L2]
            have hb : (a ++ [f.Reads[k]]).length * 16 ≤ 140737488355328 := by simp; omega
            simp only [show (k : Int) < (f.Reads.length : Int) by omega, decide_true, cond_true, show 0 ≤ (k : Int) by omega, and_self, req_t, atI_nat hk, owner_v hp hpv, bnd_mk, jn_mk, hb]
          · intro n a _
            try dsimp only
            rw [F_exchange_Send_L2]
            simp
        rw [hL2, req_pos (by simp; omega)]
        rfl
      · intro n acc _
        try dsimp only
        rw [F_exchange_Send_L1]
        simp

theorem send_ok (hp : POk p) (hf : FOk f) {s : TShard} (hs : PrOk s.Pairs) (txn : Int) : (sendP p s txn f).length ≤ 17 ∧ ∀ m ∈ sendP p s txn f, MOk m := by
  unfold sendP
  cases h : (v31 p s f && (nodes30 p f).any fun y => y == s.Node) with
  | false => exact ⟨by simp, by simp⟩
  | true =>
    refine ⟨by simpa using exec30_len, fun m hm => ?_⟩
    obtain ⟨x, _, rfl⟩ := List.mem_map.1 hm
    refine ⟨Nat.lt_of_le_of_lt (List.length_filter_le _ _) hf.r, ?_⟩
    show PrOk (localP p s f)
    unfold localP
    cases v31 p s f with
    | false => exact PrOk.nil
    | true => exact hs.sub (Nat.lt_of_le_of_lt (List.length_filter_le _ _) hs.l) (fun x hx => (List.mem_filter.1 hx).1)

/-- A node has the mails of these others. -/
def cplP (p : TPlacement) (f : TFootprint) (txn node : Int) (l : List TMail) : Bool := v30 p f && (nodes30 p f).all fun fr => l.any fun m => ((m.Txn == txn) && (m.From == fr)) && (m.To == node)

theorem complete_impl (hp : POk p) (hf : FOk f) {txn node : Int} {l : List TMail} (hl : l.length ≤ 100000) : F_exchange_Complete p f txn node l = some (cplP p f txn node l) := by
  unfold F_exchange_Complete cplP
  rw [valid29_impl hp.l hp.s, fvalid_impl hf, nodes30_impl hp hf, bnd_mk]
  have hnl := nodes30_len (p := p) (f := f)
  cases hp : pvB p with
  | false => simp [gcall, bnd, v30, hp]
  | true =>
    cases hf : fvB f with
    | false => simp [gcall, bnd, v30, hf]
    | true =>
      have hv : v30 p f = true := by simp [v30, hp, hf]
      simp only [Bool.not_true, BEq.rfl, gcall_t, bnd_mk, Bool.or_self, cond_false, jn_mk, hv, Bool.true_and]
      refine (loopAny0 (l := nodes30 p f) (by omega) (L := fun n i => F_exchange_Complete_L1 (nodes30 p f) l txn node (some true) n i) (q := fun fr => !(l.any fun m => ((m.Txn == txn) && (m.From == fr)) && (m.To == node))) (E := some false) (J := some true) (n := (((nodes30 p f).length : Nat) : Int).toNat + 1) (by omega) ?_ ?_).trans ?_
      · intro n i hi
        try dsimp only
        rw [F_exchange_Complete_L1]
        simp only [show (i : Int) < ((nodes30 p f).length : Int) by omega, decide_true, cond_true, show 0 ≤ (i : Int) by omega, and_self, req_t, atI_nat hi]
        rw [containsMail (l := l) (g := fun y0 => F_exchange_Complete_1 y0 txn (nodes30 p f)[i] node) (q := fun m => ((m.Txn == txn) && (m.From == (nodes30 p f)[i])) && (m.To == node)) (by omega) (fun x hx => rfl), bnd_mk]
      · intro n
        try dsimp only
        rw [F_exchange_Complete_L1]
        simp
      · rw [List.all_eq_not_any_not]
        cases (nodes30 p f).any fun fr => !(l.any fun m => ((m.Txn == txn) && (m.From == fr)) && (m.To == node)) <;> rfl

end Go.Proofs.YtcgmfmpfmfjmoaaGreat
