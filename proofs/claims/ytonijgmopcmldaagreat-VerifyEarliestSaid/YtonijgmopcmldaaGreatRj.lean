/-
  STORES WITH VERSIONS, CLOSED: valid stores and states at a turn, program and specification alike.
-/
import Derived.Test.YtonijgmopcmldaaGreatRf
set_option linter.all false
namespace Go.Proofs.YtonijgmopcmldaaGreat
open Go.ChangeShapes

/-- A store whose strings memory can hold and whose lists are not long. -/
structure StOk (s : TStore) : Prop where
  r : s.Rows.length < 100000
  v : ∀ r ∈ s.Rows, r.Vers.length < 100000 ∧ r.Key.length < big ∧ ∀ u ∈ r.Vers, u.Val.S.length < big

def verBad (r : TRow) (fl la : Int) (i : Nat) : Bool :=
  ((decide ((atI r.Vers (i : Int)).At < fl) || decide (la < (atI r.Vers (i : Int)).At)) || !vvB (atI r.Vers (i : Int)).Val) || (decide (0 < i) && (decide ((atI r.Vers (i : Int)).At ≤ (atI r.Vers ((i : Int) - 1)).At) || decide ((atI r.Vers (i : Int)).Val = (atI r.Vers ((i : Int) - 1)).Val)))

def vrB (r : TRow) (fl la : Int) : Bool := !(r.Vers.length == 0) && !((atI r.Vers 0).Val.Kind == 0) && !((List.range r.Vers.length).any (verBad r fl la))

def rowBad (s : TStore) (i : Nat) : Bool := (!kvB (atI s.Rows (i : Int)).Key || (decide (0 < i) && !sLt (atI s.Rows ((i : Int) - 1)).Key (atI s.Rows (i : Int)).Key)) || !vrB (atI s.Rows (i : Int)) s.Floor s.Last

def storeB (s : TStore) : Bool := !((decide (s.Floor < 0) || decide (s.Last < s.Floor)) || decide (1099511627776 < s.Last)) && !((List.range s.Rows.length).any (rowBad s))

theorem natZ (i : Nat) : decide ((0 : Int) < (i : Int)) = decide (0 < i) := by
  rw [Bool.eq_iff_iff]; simp

theorem valC (x y : TValue) : ((x.Kind == y.Kind) && ((x.N == y.N) && ((x.S == y.S) && true))) = decide (x = y) := valEq_iff x y

/-- What both loops over the versions of a row come to. -/
theorem ver_step (r : TRow) (fl la : Int) {i : Nat} (hi : i < r.Vers.length) (hl : r.Vers.length < 100000) (hv : (atI r.Vers (i : Int)).Val.S.length < big) (K : Option Bool) :
    (req ((((decide ((0 : Int) < (i : Int)))) == true) = true → 0 ≤ (IntKind.i64.wrap ((i : Int) - (1 : Int))) ∧ (IntKind.i64.wrap ((i : Int) - (1 : Int))) < ((r.Vers).length : Int)) (req (((((decide ((atI r.Vers (i : Int)).At ≤ (cond (((decide ((0 : Int) < (i : Int)))) == true) (atI r.Vers ((IntKind.i64.wrap ((i : Int) - (1 : Int))))) default).At))) == false) && (((decide ((0 : Int) < (i : Int)))) == true)) = true → 0 ≤ (IntKind.i64.wrap ((i : Int) - (1 : Int))) ∧ (IntKind.i64.wrap ((i : Int) - (1 : Int))) < ((r.Vers).length : Int)) (cond ((decide ((0 : Int) < (i : Int))) && ((decide ((atI r.Vers (i : Int)).At ≤ (cond (((decide ((0 : Int) < (i : Int)))) == true) (atI r.Vers ((IntKind.i64.wrap ((i : Int) - (1 : Int))))) default).At)) || (((atI r.Vers (i : Int)).Val.Kind == (cond ((((decide ((atI r.Vers (i : Int)).At ≤ (cond (((decide ((0 : Int) < (i : Int)))) == true) (atI r.Vers ((IntKind.i64.wrap ((i : Int) - (1 : Int))))) default).At))) == false) && (((decide ((0 : Int) < (i : Int)))) == true)) (atI r.Vers ((IntKind.i64.wrap ((i : Int) - (1 : Int))))) default).Val.Kind) && (((atI r.Vers (i : Int)).Val.N == (cond ((((decide ((atI r.Vers (i : Int)).At ≤ (cond (((decide ((0 : Int) < (i : Int)))) == true) (atI r.Vers ((IntKind.i64.wrap ((i : Int) - (1 : Int))))) default).At))) == false) && (((decide ((0 : Int) < (i : Int)))) == true)) (atI r.Vers ((IntKind.i64.wrap ((i : Int) - (1 : Int))))) default).Val.N) && (((atI r.Vers (i : Int)).Val.S == (cond ((((decide ((atI r.Vers (i : Int)).At ≤ (cond (((decide ((0 : Int) < (i : Int)))) == true) (atI r.Vers ((IntKind.i64.wrap ((i : Int) - (1 : Int))))) default).At))) == false) && (((decide ((0 : Int) < (i : Int)))) == true)) (atI r.Vers ((IntKind.i64.wrap ((i : Int) - (1 : Int))))) default).Val.S) && true))))) (some false) K))) =
    cond (decide (0 < i) && (decide ((atI r.Vers (i : Int)).At ≤ (atI r.Vers ((i : Int) - 1)).At) || decide ((atI r.Vers (i : Int)).Val = (atI r.Vers ((i : Int) - 1)).Val))) (some false) K := by
  rw [natZ]
  by_cases h0 : 0 < i
  · rw [w64 (n := (i : Int) - 1) (by omega) (by omega), req_pos (fun _ => by omega), req_pos (fun _ => by omega), decide_eq_true h0, show (true == true) = true from rfl, cond_true, Bool.true_and, Bool.true_and, Bool.and_true]
    cases hc : decide ((atI r.Vers (i : Int)).At ≤ (atI r.Vers ((i : Int) - 1)).At) with
    | true => rfl
    | false => rw [show (false == false) = true from rfl, cond_true, Bool.false_or, Bool.false_or, valC]
  · rw [decide_eq_false h0, req_pos (fun h => by cases h), req_pos (fun h => by simp at h)]
    rfl

theorem gcallN {b : Bool} (x : Option Bool) {v : Bool} (h : x = some v) (K : Bool → Option Bool) (hK : b = true → ∀ u, K u = some false) : bnd (gcall (b == false) x) K = cond b (some false) (K v) := by
  cases b with
  | true => exact hK rfl _
  | false => rw [show (false == false) = true from rfl, gcall_t, h, bnd_mk]; rfl

theorem validRow_impl {s : TStore} (hs : StOk s) {r : TRow} (hr : r ∈ s.Rows) (fl la : Int) : F_mvstore_validRow r fl la = some (vrB r fl la) := by
  obtain ⟨hl, hk, hv⟩ := hs.v r hr
  unfold F_mvstore_validRow vrB
  have e0 : (((r.Vers.length : Nat) : Int) == 0) = (r.Vers.length == 0) := by rw [Bool.eq_iff_iff]; simp
  rw [e0, req_pos (fun h => by simp at h; have := List.length_pos_iff.2 h; omega)]
  cases h0 : (r.Vers.length == 0) with
  | true => rfl
  | false =>
    rw [show (false == false) = true from rfl, cond_true, Bool.false_or]
    cases hk0 : ((atI r.Vers 0).Val.Kind == 0) with
    | true => rfl
    | false =>
      rw [cond_false, jn_mk]
      have := loopRng (len := r.Vers.length) (by omega) (L := F_mvstore_validRow_L1 r fl la (some true)) (J := some true) (E := some false) (q := verBad r fl la) (n := (((r.Vers.length : Nat) : Int)).toNat + 1) (by omega) (fun n i hi => ?_) (fun n => ?_)
      · rw [this]
        cases ((List.range r.Vers.length).any (verBad r fl la)) <;> rfl
      · have hvi : (atI r.Vers (i : Int)).Val.S.length < big := by rw [atI_nat hi]; exact hv _ (List.getElem_mem hi)
        rw [F_mvstore_validRow_L1, decide_eq_true (by omega), cond_true, req_pos (by omega), show (⟨(atI r.Vers (i : Int)).Val.Kind, (atI r.Vers (i : Int)).Val.N, (atI r.Vers (i : Int)).Val.S⟩ : TValue) = (atI r.Vers (i : Int)).Val from rfl,
          gcallN _ (vvalid_impl hvi) _ (fun h u => by rw [h]; rfl)]
        unfold verBad
        cases hb : (decide ((atI r.Vers (i : Int)).At < fl) || decide (la < (atI r.Vers (i : Int)).At)) with
        | true => rfl
        | false =>
          rw [cond_false, Bool.false_or]
          cases hvv : vvB (atI r.Vers (i : Int)).Val with
          | false => rfl
          | true =>
            rw [show (!true) = false from rfl, cond_false, Bool.false_or, ver_step r fl la hi hl hvi]
      · rw [F_mvstore_validRow_L1, decide_eq_false (by omega), cond_false]

theorem row_ref {s : TStore} (hs : StOk s) {r : TRow} (hr : r ∈ s.Rows) (fl la : Int) : F_clockworkref22_row r fl la = some (kvB r.Key && vrB r fl la) := by
  obtain ⟨hl, hk, hv⟩ := hs.v r hr
  unfold F_clockworkref22_row vrB
  rw [keys_ref hk, bnd_mk]
  have e0 : (((r.Vers.length : Nat) : Int) == 0) = (r.Vers.length == 0) := by rw [Bool.eq_iff_iff]; simp
  rw [e0, req_pos (fun h => by simp at h; have := List.length_pos_iff.2 h.2; omega)]
  cases hkv : kvB r.Key with
  | false => rfl
  | true =>
    cases h0 : (r.Vers.length == 0) with
    | true => rfl
    | false =>
      rw [show ((!true) || false) = false from rfl, show (false == false) = true from rfl, cond_true, Bool.false_or]
      cases hk0 : ((atI r.Vers 0).Val.Kind == 0) with
      | true => rfl
      | false =>
        rw [cond_false, jn_mk]
        have := loopRng (len := r.Vers.length) (by omega) (L := F_clockworkref22_row_L1 r fl la (some true)) (J := some true) (E := some false) (q := verBad r fl la) (n := (((r.Vers.length : Nat) : Int)).toNat + 1) (by omega) (fun n i hi => ?_) (fun n => ?_)
        · rw [this]
          cases ((List.range r.Vers.length).any (verBad r fl la)) <;> rfl
        · have hvi : (atI r.Vers (i : Int)).Val.S.length < big := by rw [atI_nat hi]; exact hv _ (List.getElem_mem hi)
          rw [F_clockworkref22_row_L1, decide_eq_true (by omega), cond_true, req_pos (by omega), show (⟨(atI r.Vers (i : Int)).Val.Kind, (atI r.Vers (i : Int)).Val.N, (atI r.Vers (i : Int)).Val.S⟩ : TValue) = (atI r.Vers (i : Int)).Val from rfl]
          unfold F_clockworkref22_stored
          rw [vvalid_ref hvi, bnd_mk, bnd_mk, ver_step r fl la hi hl hvi]
          unfold verBad
          cases hvv : vvB (atI r.Vers (i : Int)).Val <;> cases hb1 : decide ((atI r.Vers (i : Int)).At < fl) <;> cases hb2 : decide (la < (atI r.Vers (i : Int)).At) <;> rfl
        · rw [F_clockworkref22_row_L1, decide_eq_false (by omega), cond_false]

theorem mvalid_impl {s : TStore} (hs : StOk s) : F_mvstore_Valid s = some (storeB s) := by
  unfold F_mvstore_Valid storeB
  cases h0 : ((decide (s.Floor < 0) || decide (s.Last < s.Floor)) || decide (1099511627776 < s.Last)) with
  | true => rfl
  | false =>
    have hrl := hs.r
    rw [cond_false, jn_mk]
    have := loopRng (len := s.Rows.length) (by omega) (L := F_mvstore_Valid_L1 s (some true)) (J := some true) (E := some false) (q := rowBad s) (n := (((s.Rows.length : Nat) : Int)).toNat + 1) (by omega) (fun n i hi => ?_) (fun n => ?_)
    · rw [this]
      cases ((List.range s.Rows.length).any (rowBad s)) <;> rfl
    · have hm : atI s.Rows (i : Int) ∈ s.Rows := by rw [atI_nat hi]; exact List.getElem_mem hi
      rw [F_mvstore_Valid_L1, decide_eq_true (by omega), cond_true, req_pos (by omega), keys_impl (hs.v _ hm).2.1, bnd_mk, natZ]
      unfold rowBad
      cases hk : kvB (atI s.Rows (i : Int)).Key with
      | false => rw [req_pos (fun h => by simp at h)]; rfl
      | true =>
        by_cases h0 : 0 < i
        · rw [w64 (n := (i : Int) - 1) (by omega) (by omega), req_pos (fun _ => by omega), decide_eq_true h0]
          rw [show (((true == true) && ((!true) == false)) : Bool) = true from rfl, cond_true]
          cases hlt : sLt (atI s.Rows ((i : Int) - 1)).Key (atI s.Rows (i : Int)).Key with
          | false => rfl
          | true =>
            rw [show (((!true) || (true && !true)) == false) = true from rfl, gcall_t, validRow_impl hs hm, bnd_mk]
        · rw [decide_eq_false h0, req_pos (fun h => by simp at h), show (((!true) || (false && !sLt (cond ((false == true) && ((!true) == false)) (atI s.Rows (IntKind.i64.wrap ((i : Int) - 1))) default).Key (atI s.Rows (i : Int)).Key)) : Bool) = false from rfl, show (false == false) = true from rfl, gcall_t, validRow_impl hs hm, bnd_mk]
          cases vrB (atI s.Rows (i : Int)) s.Floor s.Last <;> rfl
    · rw [F_mvstore_Valid_L1, decide_eq_false (by omega), cond_false]

theorem mvalid_ref {s : TStore} (hs : StOk s) : F_clockworkref22_Valid s = some (storeB s) := by
  unfold F_clockworkref22_Valid storeB
  cases h0 : ((decide (s.Floor < 0) || decide (s.Last < s.Floor)) || decide (1099511627776 < s.Last)) with
  | true => rfl
  | false =>
    have hrl := hs.r
    rw [cond_false, jn_mk]
    have := loopRng (len := s.Rows.length) (by omega) (L := F_clockworkref22_Valid_L1 s (some true)) (J := some true) (E := some false) (q := rowBad s) (n := (((s.Rows.length : Nat) : Int)).toNat + 1) (by omega) (fun n i hi => ?_) (fun n => ?_)
    · rw [this]
      cases ((List.range s.Rows.length).any (rowBad s)) <;> rfl
    · have hm : atI s.Rows (i : Int) ∈ s.Rows := by rw [atI_nat hi]; exact List.getElem_mem hi
      rw [F_clockworkref22_Valid_L1, decide_eq_true (by omega), cond_true, req_pos (by omega), row_ref hs hm, bnd_mk, natZ]
      unfold rowBad
      by_cases h0 : 0 < i
      · rw [w64 (n := (i : Int) - 1) (by omega) (by omega), req_pos (fun _ => by omega), req_pos (fun _ => by omega), decide_eq_true h0]
        cases hk : kvB (atI s.Rows (i : Int)).Key with
        | false => rfl
        | true =>
          cases hv : vrB (atI s.Rows (i : Int)) s.Floor s.Last with
          | false => cases sLt (atI s.Rows ((i : Int) - 1)).Key (atI s.Rows (i : Int)).Key <;> rfl
          | true =>
            rw [show (((true == true) && ((!(true && true)) == false)) : Bool) = true from rfl, cond_true, cond_true]
            cases hlt : sLt (atI s.Rows ((i : Int) - 1)).Key (atI s.Rows (i : Int)).Key <;> rfl
      · rw [decide_eq_false h0, req_pos (fun h => by simp at h), req_pos (fun h => by simp at h)]
        cases hk : kvB (atI s.Rows (i : Int)).Key <;> cases hv : vrB (atI s.Rows (i : Int)) s.Floor s.Last <;> rfl
    · rw [F_clockworkref22_Valid_L1, decide_eq_false (by omega), cond_false]

end Go.Proofs.YtonijgmopcmldaaGreat
