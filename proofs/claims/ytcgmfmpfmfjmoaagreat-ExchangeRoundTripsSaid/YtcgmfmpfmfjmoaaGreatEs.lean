/-
  Chapter 31, plain texts: the chapter's example; the laws on what is sent, waited for and collected.
  Conditions: none.
-/
import Derived.Test.YtcgmfmpfmfjmoaaGreatEr
import Derived.Test.YtcgmfmpfmfjmoaaGreatOp
set_option linter.all false
namespace Go.Proofs.YtcgmfmpfmfjmoaaGreat

/-! ### Arguments that are data -/

theorem okPr {l : List TPair} (o : okL okTPair l) : PrOk l := by
  obtain ⟨h1, h2⟩ := o
  refine ⟨by omega, fun x hx => ?_⟩
  obtain ⟨h3, _, _, h4⟩ := h2 x hx
  have h3 : x.Key.length ≤ 9223372036854775807 := h3
  have h4 : x.Val.S.length ≤ 9223372036854775807 := h4
  have e : big = 9223372036854775808 := rfl
  rw [e]; omega

theorem okMs {l : List TMail} (o : okL okTMail l) : l.length < 9223372036854775808 ∧ ∀ m ∈ l, MOk m := by
  obtain ⟨h1, h2⟩ := o
  refine ⟨by omega, fun m hm => ?_⟩
  obtain ⟨_, _, _, ⟨h3, _⟩, h4⟩ := h2 m hm
  exact ⟨by omega, okPr h4⟩

/-! ### The example -/

def lvP : TPlacement := ⟨0, ([(⟨(1 : Int), [], (1 : Int), 0, []⟩ : TPart), (⟨(2 : Int), ([109] : Str), (2 : Int), 0, []⟩ : TPart)] : List TPart)⟩
def lvF : TFootprint := ⟨false, ([([97] : Str), ([120] : Str)] : List Str), ([([120] : Str)] : List Str)⟩
def lvA : TPair := ⟨[97], ⟨1, 1, []⟩⟩
def lvB : TPair := ⟨[98], ⟨1, 2, []⟩⟩
def lvX : TPair := ⟨[120], ⟨1, 3, []⟩⟩
def lvM : TMail := ⟨5, 1, 2, [[97]], [lvA]⟩
def lvN : TMail := ⟨5, 2, 2, [[120]], [lvX]⟩

theorem lvP_ok : POk lvP := ⟨by decide, by simp [lvP, big]⟩
theorem lvF_ok : FOk lvF := ⟨by decide, by decide, by simp [lvF, big], by simp [lvF, big]⟩
theorem lv1_ok : PrOk [lvA, lvB] := ⟨by decide, by simp [lvA, lvB, big]⟩
theorem lv2_ok : PrOk [lvX] := ⟨by decide, by simp [lvX, big]⟩
theorem lvA_ok : PrOk [lvA] := ⟨by decide, by simp [lvA, big]⟩

theorem lvM_ok : MOk lvM := ⟨by decide, lvA_ok⟩
theorem lvN_ok : MOk lvN := ⟨by decide, lv2_ok⟩

theorem lv_union : clP [] [] [lvN, lvM] = ([lvA, lvX], 0) := by
  have h1 : staB [lvX] = true := by kernel_rfl
  have h2 : staB [lvA] = true := by kernel_rfl
  have h3 : staB ([] : List TPair) = true := by kernel_rfl
  have e1 : unionP [] [lvX] = ([lvX], 0) := by
    rw [unionP, h1, h3, mg]; rfl
  have e2 : unionP [lvX] [lvA] = ([lvA, lvX], 0) := by
    rw [unionP, h1, h2, mg, if_neg (by decide +kernel), if_pos (by decide +kernel), mg_nil]; rfl
  rw [clP, show lvN.Pairs = [lvX] from rfl, e1, clP, show lvM.Pairs = [lvA] from rfl]
  dsimp only
  rw [e2, clP]
  rfl

theorem lives_true : F_clockworklaw31_lives = some true := by
  have s1 : F_exchange_Send lvP ⟨1, [lvA, lvB]⟩ 5 lvF = some [lvM] := by
    rw [send_impl lvP_ok lvF_ok lv1_ok (by decide)]
    exact congrArg some (by kernel_rfl)
  have s2 : F_exchange_Send lvP ⟨2, [lvX]⟩ 5 lvF = some [lvN] := by
    rw [send_impl lvP_ok lvF_ok lv2_ok (by decide)]
    exact congrArg some (by kernel_rfl)
  have s3 : F_exchange_Complete lvP lvF 5 2 [lvM] = some false := by
    rw [complete_impl lvP_ok lvF_ok (by decide)]
    exact congrArg some (by kernel_rfl)
  have s4 : F_exchange_Complete lvP lvF 5 2 [lvN, lvM] = some true := by
    rw [complete_impl lvP_ok lvF_ok (by decide)]
    exact congrArg some (by kernel_rfl)
  have s5 : F_exchange_Collect 5 2 [lvN, lvM, lvN] = some ([lvA, lvX], 0) := by
    rw [collect_impl (by decide) (fun m hm => by
      simp only [List.mem_cons, List.not_mem_nil, or_false] at hm
      rcases hm with rfl | rfl | rfl
      · exact ⟨lvN_ok, by decide⟩
      · exact ⟨lvM_ok, by decide⟩
      · exact ⟨lvN_ok, by decide⟩)]
    rw [show mine 5 2 [lvN, lvM, lvN] = [lvN, lvM] by kernel_rfl, collectP, lv_union]
    exact congrArg some (by kernel_rfl)
  have s6 : F_clockworkref04_Same [[97]] [[97]] = some true := by rw [same04 (by decide) (by decide)]; rfl
  have s7 : F_clockworkref06_Same [lvA, lvX] [lvA, lvX] = some true := by
    rw [same06 (by decide) (by decide)]; exact congrArg some (by kernel_rfl)
  have h : F_clockworklaw31_lives = bnd (F_exchange_Send lvP ⟨1, [lvA, lvB]⟩ 5 lvF) fun x13 => bnd (F_exchange_Send lvP ⟨2, [lvX]⟩ 5 lvF) fun x27 => (req (((((((x13).length : Nat) : Int) != (1 : Int))) == false) = true → 0 ≤ (0 : Int) ∧ (0 : Int) < ((x13).length : Int)) (req ((((((((x13).length : Nat) : Int) != (1 : Int)) || ((cond ((((((x13).length : Nat) : Int) != (1 : Int))) == false) (atI x13 ((0 : Int))) default).To != (2 : Int)))) == false) = true → 0 ≤ (0 : Int) ∧ (0 : Int) < ((x13).length : Int)) (bnd (gcall (((((((x13).length : Nat) : Int) != (1 : Int)) || ((cond ((((((x13).length : Nat) : Int) != (1 : Int))) == false) (atI x13 ((0 : Int))) default).To != (2 : Int)))) == false) (F_clockworkref04_Same ((cond (((((((x13).length : Nat) : Int) != (1 : Int)) || ((cond ((((((x13).length : Nat) : Int) != (1 : Int))) == false) (atI x13 ((0 : Int))) default).To != (2 : Int)))) == false) (atI x13 ((0 : Int))) default).Keys) (([([97] : Str)] : List Str)))) fun x58 => (bnd (gcall (((((((((x13).length : Nat) : Int) != (1 : Int)) || ((cond ((((((x13).length : Nat) : Int) != (1 : Int))) == false) (atI x13 ((0 : Int))) default).To != (2 : Int))) || (!x58)) || ((((x27).length : Nat) : Int) != (1 : Int)))) == false) (F_exchange_Complete lvP lvF ((5 : Int)) ((2 : Int)) x13)) fun x59 => (cond ((((((((x13).length : Nat) : Int) != (1 : Int)) || ((cond ((((((x13).length : Nat) : Int) != (1 : Int))) == false) (atI x13 ((0 : Int))) default).To != (2 : Int))) || (!x58)) || ((((x27).length : Nat) : Int) != (1 : Int))) || x59) (some false) (req (0 ≤ (0 : Int) ∧ (0 : Int) < ((x27).length : Int)) (req (0 ≤ (0 : Int) ∧ (0 : Int) < ((x13).length : Int)) (req (0 ≤ (0 : Int) ∧ (0 : Int) < ((x27).length : Int)) (bnd (F_exchange_Collect ((5 : Int)) ((2 : Int)) (([(atI x27 ((0 : Int))), (atI x13 ((0 : Int))), (atI x27 ((0 : Int)))] : List TMail))) fun x89 => (req (0 ≤ (0 : Int) ∧ (0 : Int) < ((x27).length : Int)) (req (0 ≤ (0 : Int) ∧ (0 : Int) < ((x13).length : Int)) (bnd (F_exchange_Complete lvP lvF ((5 : Int)) ((2 : Int)) (([(atI x27 ((0 : Int))), (atI x13 ((0 : Int)))] : List TMail))) fun x142 => (bnd (gcall ((x142) == true) (some lvA)) fun x143 => (bnd (gcall ((x142) == true) (some lvX)) fun x144 => (bnd (gcall ((x142) == true) (F_clockworkref06_Same x89.1 (([x143, x144] : List TPair)))) fun x171 => (some ((x142 && x171) && (x89.2 == (0 : Int))))))))))))))))))) := rfl
  rw [h, s1, bnd_mk, s2, bnd_mk]
  have a1 : atI [lvM] (0 : Int) = lvM := rfl
  have a2 : atI [lvN] (0 : Int) = lvN := rfl
  rw [req_pos (fun _ => by decide), req_pos (fun _ => by decide)]
  simp only [a1, a2]
  rw [show ((([lvM].length : Nat) : Int) != 1) = false by rfl, show ((([lvN].length : Nat) : Int) != 1) = false by rfl]
  simp only [BEq.rfl, cond_true, Bool.false_or, show (lvM.To != 2) = false by rfl, gcall_t]
  rw [show lvM.Keys = [[97]] from rfl, s6, bnd_mk]
  simp only [Bool.not_true, BEq.rfl, gcall_t, Bool.or_self]
  rw [s3, bnd_mk, Bool.or_self, cond_false, req_pos (by decide), req_pos (by decide), req_pos (by decide), s5, bnd_mk, req_pos (by decide), req_pos (by decide), s4, bnd_mk]
  simp only [BEq.rfl, gcall_t, bnd_mk]
  rw [s7]
  rfl

/-! ### The laws -/

theorem pairs_self {l : List TPair} (hl : l.length < 9223372036854775808) : F_clockworkref06_Same l l = some true := by
  rw [same06 hl hl, (eqL_iff pairEq_iff).2 rfl]

end Go.Proofs.YtcgmfmpfmfjmoaaGreat
