/-
  Chapter 31, plain texts: the law on the order of mails.
  Conditions: none.
-/
import Derived.Test.YtcgmfmpfmfjmoaaZu
set_option linter.all false
namespace Go.Proofs.Ytcgmfmpfmfjmoaa

theorem back_loop {l : List TMail} (hl : l.length ≤ 1000) (J : List TMail → Option Bool) : ∀ n (i : Nat), i ≤ l.length → i < n → F_clockworklaw31_ExchangeOrder_L1 l J n ((l.drop i).reverse) ((i : Int) - 1) = J l.reverse := by
  intro n
  induction n with
  | zero => intro i _ h; omega
  | succ n ih =>
    intro i hi hn
    rw [F_clockworklaw31_ExchangeOrder_L1]
    cases i with
    | zero => simp
    | succ i =>
      rw [show (((i + 1 : Nat) : Int) - 1) = (i : Int) by omega, decide_eq_true (show (0 : Int) ≤ (i : Int) by omega), cond_true, req_pos ⟨by omega, by omega⟩, req_pos (by simp; omega), atI_nat (show i < l.length by omega)]
      have e : (l.drop (i + 1)).reverse ++ [l[i]] = (l.drop i).reverse := by
        rw [List.drop_eq_getElem_cons (show i < l.length by omega), List.reverse_cons]
      rw [e, show IntKind.i64.wrap ((i : Int) - 1) = (i : Int) - 1 from w64 (by omega) (by omega)]
      exact ih i (by omega) (by omega)

theorem plain_ExchangeOrder (x0 : Int) (x1 : Int) (x2 : List TMail) (o0 : (okI .i64) x0) (o1 : (okI .i64) x1) (o2 : (okL okTMail) x2) : F_clockworklaw31_ExchangeOrder x0 x1 x2 = some true := by
  obtain ⟨hl, hm⟩ := okMs o2
  unfold F_clockworklaw31_ExchangeOrder
  obtain ⟨c, e, hc⟩ := fewMails_eq hl hm
  rw [e, bnd_mk]
  cases c with
  | false => simp only [Bool.not_false]; rw [lives_true]; rfl
  | true =>
    obtain ⟨hlen, hsm⟩ := hc rfl
    have hall : ∀ m ∈ x2, MOk m ∧ m.Pairs.length ≤ 100 := fun m h => ⟨hm m h, by have := (hsm m h).2; omega⟩
    have hallr : ∀ m ∈ x2.reverse, MOk m ∧ m.Pairs.length ≤ 100 := fun m h => hall m (by simpa using h)
    have halla : ∀ m ∈ x2.reverse ++ x2, MOk m ∧ m.Pairs.length ≤ 100 := fun m h => hall m (by simpa using h)
    simp only [Bool.not_true, cond_false, jn_mk]
    have hw : IntKind.i64.wrap (((x2.length : Nat) : Int) - 1) = ((x2.length : Nat) : Int) - 1 := w64 (by omega) (by omega)
    rw [hw]
    have hL := back_loop (l := x2) (by omega) (fun x9 => (bnd (F_exchange_Collect x0 x1 x2) fun x13 => (bnd (F_exchange_Collect x0 x1 x9) fun x21 => (req (((([] : List TMail) ++ x9)).length * 72 ≤ 140737488355328) (req ((((([] : List TMail) ++ x9) ++ x2)).length * 72 ≤ 140737488355328) (bnd (F_exchange_Collect x0 x1 (((([] : List TMail) ++ x9) ++ x2))) fun x37 => (bnd (F_clockworkref06_Same x13.1 x21.1) fun x45 => (bnd (gcall (((x45 && (x13.2 == x21.2))) == true) (F_clockworkref06_Same x13.1 x37.1)) fun x46 => (bnd (gcall (((((x45 && (x13.2 == x21.2)) && x46) && (x13.2 == x37.2))) == true) (F_clockworklaw31_lives )) fun x47 => (some ((((x45 && (x13.2 == x21.2)) && x46) && (x13.2 == x37.2)) && x47)))))))))))
      ((((x2.length : Nat) : Int) - 1).toNat + 2) x2.length (Nat.le_refl _) (by omega)
    rw [List.drop_length, List.reverse_nil] at hL
    refine hL.trans ?_
    simp only [List.nil_append]
    rw [collect_impl (by omega) hall, collect_impl (l := x2.reverse) (by simp; omega) hallr, bnd_mk, bnd_mk, req_pos (by simp; omega), req_pos (by simp; omega), collect_impl (l := x2.reverse ++ x2) (by simp; omega) halla, bnd_mk]
    rw [collect_perm (mine_perm (txn := x0) (node := x1) (a := x2.reverse) (b := x2) (fun x => by simp)), collect_perm (mine_perm (txn := x0) (node := x1) (a := x2.reverse ++ x2) (b := x2) (fun x => by simp))]
    have hs := pairs_self (collect_small (l := x2) (by omega) hall x0 x1)
    rw [hs, bnd_mk]
    simp only [BEq.rfl, Bool.and_self, gcall_t]
    rw [bnd_mk]
    simp only [BEq.rfl, Bool.and_self, gcall_t]
    rw [lives_true]
    rfl

end Go.Proofs.Ytcgmfmpfmfjmoaa
