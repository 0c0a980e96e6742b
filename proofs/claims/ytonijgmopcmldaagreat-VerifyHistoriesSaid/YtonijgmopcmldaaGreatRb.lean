/-
  DIGESTS OF STATES, CLOSED: sixty-four buckets and a root, program and specification alike.
-/
import Derived.Test.YtonijgmopcmldaaGreatRa
set_option linter.all false
namespace Go.Proofs.YtonijgmopcmldaaGreat
open Go.ChangeShapes

/-- What a bucket holds. -/
def bkF (l : List TPair) (b : Nat) : Nat := l.foldl (fun h p => if bkt p.Key = b then h ^^^ pairN p else h) 0

theorem xor_lt64 {a b : Nat} (ha : a < 18446744073709551616) (hb : b < 18446744073709551616) : a ^^^ b < 18446744073709551616 := by
  rw [show (18446744073709551616 : Nat) = 2 ^ 64 from rfl] at *
  exact Nat.xor_lt_two_pow ha hb

theorem bkF_lt' (b : Nat) : ∀ (l : List TPair) (h : Nat), h < 18446744073709551616 → l.foldl (fun h p => if bkt p.Key = b then h ^^^ pairN p else h) h < 18446744073709551616
  | [], h, hh => hh
  | p :: l, h, hh => by
    rw [List.foldl_cons]
    refine bkF_lt' b l _ ?_
    split
    · exact xor_lt64 hh (pairN_lt p)
    · exact hh

theorem bkF_lt (l : List TPair) (b : Nat) : bkF l b < 18446744073709551616 := bkF_lt' b l 0 (by decide)

theorem bkF_take (l : List TPair) (b i : Nat) (h : i < l.length) : bkF (l.take (i + 1)) b = if bkt l[i].Key = b then bkF (l.take i) b ^^^ pairN l[i] else bkF (l.take i) b := foldl_take_succ _ _ _ _ h

def rtN (l : List Nat) : Nat := l.foldl (fun h u => fnvN h (leN 8 u)) 14695981039346656037

theorem rtN_lt' : ∀ (l : List Nat) (h : Nat), h < 18446744073709551616 → l.foldl (fun h u => fnvN h (leN 8 u)) h < 18446744073709551616
  | [], h, hh => hh
  | u :: l, h, hh => rtN_lt' l _ (fnvN_lt _ hh)

theorem rtN_lt (l : List Nat) : rtN l < 18446744073709551616 := rtN_lt' l _ (by decide)

theorem rtN_take (l : List Nat) (i : Nat) (h : i < l.length) : rtN (l.take (i + 1)) = fnvN (rtN (l.take i)) (leN 8 l[i]) := foldl_take_succ _ _ _ _ h

def ints (l : List Nat) : List Int := l.map fun (u : Nat) => (u : Int)
theorem ints_len (l : List Nat) : (ints l).length = l.length := by simp [ints]
theorem ints_at {l : List Nat} {i : Nat} (h : i < l.length) : atI (ints l) (i : Int) = ((l[i] : Nat) : Int) := by
  rw [atI_nat (by rw [ints_len]; exact h)]; simp [ints]

theorem dg_Root {l : List Nat} (hl : l.length ≤ 64) (hu : ∀ u ∈ l, u < 18446744073709551616) (r : Int) : F_digest_Root ⟨ints l, r⟩ = some ((rtN l : Nat) : Int) := by
  unfold F_digest_Root
  rw [cs_FNV (by decide), bnd_mk, jn_mk]
  have key := loopSeq (len := l.length) (by omega) (L := F_digest_Root_L1 ⟨ints l, r⟩ fun x => some x) (J := fun x => some x) (S := fun i => ((rtN (l.take i) : Nat) : Int)) (fun n i hi => ?_) (fun n => ?_) (((l.length : Int)).toNat + 1) 0 (by omega) (by omega)
  · rw [List.take_length] at key
    rw [ints_len]
    exact key
  · rw [F_digest_Root_L1, ints_len, decide_eq_true (by omega), cond_true, req_pos (by omega), ints_at hi, dg_little (hu _ (List.getElem_mem hi)), bnd_mk, cs_Extend (rtN_lt _) (le_big _), bnd_mk, rtN_take l i hi]
  · rw [F_digest_Root_L1, ints_len, decide_eq_false (by omega), cond_false]

theorem r53_Root {l : List Nat} (hl : l.length ≤ 64) (hu : ∀ u ∈ l, u < 18446744073709551616) (r : Int) : F_clockworkref53_Root ⟨ints l, r⟩ = some ((rtN l : Nat) : Int) := by
  have app : ∀ (l : List Nat) (h : Nat) , l.foldl (fun h u => fnvN h (leN 8 u)) h = fnvN h (l.flatMap (leN 8)) := by
    intro l
    induction l with
    | nil => intro h; rfl
    | cons u l ih => intro h; rw [List.foldl_cons, ih, List.flatMap_cons, fnvN_app]
  have len : ∀ l : List Nat, (l.flatMap (leN 8)).length = 8 * l.length := by
    intro l
    induction l with
    | nil => rfl
    | cons u l ih => rw [List.flatMap_cons, List.length_append, ih, leN_len, List.length_cons]; omega
  unfold F_clockworkref53_Root
  rw [jn_mk]
  have key := loopSeq (len := l.length) (by omega) (L := F_clockworkref53_Root_L1 ⟨ints l, r⟩ fun x3 => bnd (F_clockworkref03_FNV x3) fun x6 => some x6) (J := fun x3 => bnd (F_clockworkref03_FNV x3) fun x6 => some x6) (S := fun i => (l.take i).flatMap (leN 8)) (fun n i hi => ?_) (fun n => ?_) (((l.length : Int)).toNat + 1) 0 (by omega) (by omega)
  · rw [List.take_length, r3_FNV (by rw [len]; have e : big = 9223372036854775808 := rfl; omega), bnd_mk, fnv, ← app] at key
    rw [ints_len]
    exact key
  · rw [F_clockworkref53_Root_L1, ints_len, decide_eq_true (by omega), cond_true, req_pos (by omega), ints_at hi, r53_bytes (hu _ (List.getElem_mem hi)), bnd_mk, req_pos (by rw [len, leN_len, List.length_take]; omega)]
    rw [show (l.take (i + 1)).flatMap (leN 8) = (l.take i).flatMap (leN 8) ++ leN 8 l[i] by rw [List.take_succ_eq_append_getElem hi, List.flatMap_append]; simp]
  · rw [F_clockworkref53_Root_L1, ints_len, decide_eq_false (by omega), cond_false]

def bks (l : List TPair) : List Nat := (List.range 64).map (bkF l)
theorem bks_len (l : List TPair) : (bks l).length = 64 := by simp [bks]
theorem bks_lt {l : List TPair} : ∀ u ∈ bks l, u < 18446744073709551616 := by
  intro u hu
  obtain ⟨b, _, rfl⟩ := List.mem_map.1 hu
  exact bkF_lt l b
def treeB (l : List TPair) : TTree := ⟨ints (bks l), ((rtN (bks l) : Nat) : Int)⟩

theorem ints_bks (l : List TPair) : ints (bks l) = (List.range 64).map fun b => ((bkF l b : Nat) : Int) := by simp [ints, bks]

theorem dg_Tree {l : List TPair} (hl : l.length < 4611686018427387904) (hf : ∀ x ∈ l, Fits x) : F_digest_Tree l = some (treeB l) := by
  have sealed : F_digest_sealed (ints (bks l)) = some (treeB l) := by
    unfold F_digest_sealed
    rw [req_pos (by rw [ints_len, bks_len]), dg_Root (Nat.le_of_eq (bks_len l)) bks_lt, bnd_mk]; rfl
  unfold F_digest_Tree
  rw [jn_mk]
  have key := loopSeq (len := l.length) (by omega) (L := F_digest_Tree_L1 l fun x5 => bnd (F_digest_sealed x5) fun x9 => some x9) (J := fun x5 => bnd (F_digest_sealed x5) fun x9 => some x9) (S := fun i => ints (bks (l.take i))) (fun n i hi => ?_) (fun n => ?_) (((l.length : Int)).toNat + 1) 0 (by omega) (by omega)
  · rw [List.take_length, sealed, bnd_mk, show ints (bks (l.take 0)) = List.replicate 64 0 from by rw [ints_bks]; rfl] at key
    exact key
  · have hb := bkt_lt l[i].Key
    have hset : (ints (bks (l.take i))).set (bkt l[i].Key) ((bkF (l.take i) (bkt l[i].Key) ^^^ pairN l[i] : Nat) : Int) = ints (bks (l.take (i + 1))) := by
      rw [ints_bks, map_set, ints_bks]
      refine List.map_congr_left fun j hj => ?_
      rw [bkF_take l j i hi]
      by_cases e : j = bkt l[i].Key
      · rw [if_pos e, if_pos e.symm, e]
      · rw [if_neg e, if_neg (fun h => e h.symm)]
    have hat : atI (ints (bks (l.take i))) ((bkt l[i].Key : Nat) : Int) = ((bkF (l.take i) (bkt l[i].Key) : Nat) : Int) := by
      rw [ints_at (by rw [bks_len]; exact hb)]; simp [bks]
    rw [F_digest_Tree_L1, decide_eq_true (by omega), cond_true, req_pos (by omega), atI_nat hi, dg_Bucket (hf _ (List.getElem_mem hi)).k, bnd_mk, req_pos (by rw [ints_len, bks_len]; omega), dg_Pair (hf _ (List.getElem_mem hi)), bnd_mk, req_pos (by rw [ints_len, bks_len]; omega),
      hat, bits_xor64 _ _ (bkF_lt _ _) (pairN_lt _), Int.toNat_natCast, hset]
  · rw [F_digest_Tree_L1, decide_eq_false (by omega), cond_false]

theorem r53_Tree {l : List TPair} (hl : l.length < 4611686018427387904) (hf : ∀ x ∈ l, Fits x) : F_clockworkref53_Tree l = some (treeB l) := by
  have inner : ∀ (b : Nat) (J : Int → Option TTree), b < 64 → F_clockworkref53_Tree_L2 l (b : Int) J (((l.length : Int)).toNat + 1) 0 0 = J ((bkF l b : Nat) : Int) := by
    intro b J hb
    have key := loopSeq (len := l.length) (by omega) (L := F_clockworkref53_Tree_L2 l (b : Int) J) (J := J) (S := fun i => ((bkF (l.take i) b : Nat) : Int)) (fun n i hi => ?_) (fun n => ?_) (((l.length : Int)).toNat + 1) 0 (by omega) (by omega)
    · rw [List.take_length] at key
      exact key
    · rw [F_clockworkref53_Tree_L2, decide_eq_true (by omega), cond_true, req_pos (by omega), atI_nat hi, r53_Bucket (hf _ (List.getElem_mem hi)).k, bnd_mk, jn_mk, bkF_take l b i hi]
      by_cases e : bkt l[i].Key = b
      · rw [if_pos e, show ((((bkt l[i].Key : Nat) : Int)) == ((b : Nat) : Int)) = true by simp [e], cond_true, req_pos (by omega), r53_Pair (hf _ (List.getElem_mem hi)), bnd_mk, bits_xor64 _ _ (bkF_lt _ _) (pairN_lt _)]
      · rw [if_neg e, show ((((bkt l[i].Key : Nat) : Int)) == ((b : Nat) : Int)) = false by simp; omega, cond_false]
    · rw [F_clockworkref53_Tree_L2, decide_eq_false (by omega), cond_false]
  unfold F_clockworkref53_Tree
  rw [jn_mk]
  have key := loopSeq (len := 64) (by omega) (L := F_clockworkref53_Tree_L1 l fun x5 => bnd (F_clockworkref53_Root ⟨x5, 0⟩) fun x8 => some ⟨x5, x8⟩) (J := fun x5 => bnd (F_clockworkref53_Root ⟨x5, 0⟩) fun x8 => some ⟨x5, x8⟩) (S := fun i => (List.range i).map fun b => ((bkF l b : Nat) : Int)) (fun n i hi => ?_) (fun n => ?_) 65 0 (by omega) (by omega)
  · rw [← ints_bks, r53_Root (Nat.le_of_eq (bks_len l)) bks_lt, bnd_mk] at key
    exact key
  · rw [F_clockworkref53_Tree_L1, decide_eq_true (by omega), cond_true, jn_mk, inner i _ hi, req_pos (by simp; omega), List.range_succ, List.map_append]
    rfl
  · rw [F_clockworkref53_Tree_L1, decide_eq_false (by omega), cond_false]

end Go.Proofs.YtonijgmopcmldaaGreat
