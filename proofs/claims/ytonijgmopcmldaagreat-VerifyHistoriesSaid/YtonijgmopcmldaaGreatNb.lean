/-
  CHECKSUMS AND DIGESTS OF PAIRS, CLOSED: program and specification alike.
  Conditions: strings are no longer than memory is.
-/
import Derived.Test.YtonijgmopcmldaaGreatNa
import Derived.Test.YtonijgmopcmldaaGreatQf
set_option linter.all false
namespace Go.Proofs.YtonijgmopcmldaaGreat
open Go.ChangeShapes

theorem byteAt_ltN {s : Str} {k : Nat} (h : k < s.length) : byteAt s k = ((s[k].toNat : Nat) : Int) := by simp [byteAt, h]

theorem ext_gen {L : Nat → Int → Int → Option Int} {J : Int → Option Int} {s : Str} (hs : s.length < big)
    (h1 : ∀ n x i, L (n + 1) x i = cond (decide (i < (s.length : Int))) (req (0 ≤ i ∧ i < (s.length : Int)) (L n (IntKind.u64.wrap ((bits .xor .u64 x (IntKind.u64.wrap (byteAt s i.toNat))) * (1099511628211 : Int))) (IntKind.i64.wrap (i + (1 : Int))))) (J x)) :
    ∀ (n i h : Nat), h < 18446744073709551616 → i ≤ s.length → s.length - i < n → L n (h : Int) (i : Int) = J ((fnvN h (s.drop i) : Nat) : Int) := by
  have e : big = 9223372036854775808 := rfl
  intro n
  induction n with
  | zero => intro i h _ _ hn; omega
  | succ n ih =>
    intro i h hh hi hn
    rw [h1]
    rcases Nat.lt_or_ge i s.length with hl | hl
    · rw [decide_eq_true (by omega), cond_true, req_pos (by omega), Int.toNat_natCast, byteAt_ltN hl, stepF hh, wrap_succ (by omega), ih (i + 1) _ (stepN_lt _ _) (by omega) (by omega), List.drop_eq_getElem_cons hl, fnvN]
    · have : i = s.length := by omega
      subst this
      rw [decide_eq_false (by omega), cond_false, List.drop_length]; rfl

theorem cs_Extend {h : Nat} (hh : h < 18446744073709551616) {s : Str} (hs : s.length < big) : F_checksum_Extend (h : Int) s = some ((fnvN h s : Nat) : Int) := by
  unfold F_checksum_Extend
  rw [jn_mk]
  have := ext_gen (L := F_checksum_Extend_L1 s fun x => some x) (J := fun x => some x) hs (fun _ _ _ => rfl) (((s.length : Int)).toNat + 1) 0 h hh (by omega) (by omega)
  simpa using this

theorem r3_Extend {h : Nat} (hh : h < 18446744073709551616) {s : Str} (hs : s.length < big) : F_clockworkref03_Extend (h : Int) s = some ((fnvN h s : Nat) : Int) := by
  unfold F_clockworkref03_Extend
  rw [jn_mk]
  have := ext_gen (L := F_clockworkref03_Extend_L1 s fun x => some x) (J := fun x => some x) hs (fun _ _ _ => rfl) (((s.length : Int)).toNat + 1) 0 h hh (by omega) (by omega)
  simpa using this

theorem cs_FNV {s : Str} (hs : s.length < big) : F_checksum_FNV s = some ((fnv s : Nat) : Int) := by
  have := cs_Extend (h := 14695981039346656037) (by decide) hs
  unfold F_checksum_FNV
  rw [show ((14695981039346656037 : Int)) = ((14695981039346656037 : Nat) : Int) from rfl, this]; rfl

theorem r3_FNV {s : Str} (hs : s.length < big) : F_clockworkref03_FNV s = some ((fnv s : Nat) : Int) := by
  have := r3_Extend (h := 14695981039346656037) (by decide) hs
  unfold F_clockworkref03_FNV
  rw [show ((14695981039346656037 : Int)) = ((14695981039346656037 : Nat) : Int) from rfl, this]; rfl

/-! ### Eight bytes -/

theorem shrU {u : Nat} (hu : u < 18446744073709551616) {j : Nat} (hj : j < 8) : IntKind.u8.wrap (shrI .u64 (u : Int) (IntKind.i64.wrap (8 * (j : Int)))) = ((u / 256 ^ j % 256 : Nat) : Int) := by
  have e1 : IntKind.i64.wrap (8 * (j : Int)) = ((8 * j : Nat) : Int) := by rw [w64 (by omega) (by omega)]; omega
  have e2 : min (((8 * j : Nat) : Int)).toNat IntKind.u64.bits = 8 * j := by
    rw [Int.toNat_natCast]; show min (8 * j) 64 = 8 * j; omega
  have e3 : (2 : Int) ^ (8 * j) = ((256 ^ j : Nat) : Int) := by
    rw [Int.pow_mul]; simp
  unfold shrI
  rw [e1, e2, e3, wrU8, Int.fdiv_eq_ediv_of_nonneg _ (Int.natCast_nonneg _), ← Int.natCast_ediv]
  omega

theorem leN_map : ∀ (n u : Nat), leN n u = (List.range n).map fun j => byt (u / 256 ^ j % 256)
  | 0, u => rfl
  | n + 1, u => by rw [leN_snoc, leN_map n u, List.range_succ, List.map_append]; rfl

theorem bytesS_map (f : Nat → Nat) (n : Nat) : bytesS ((List.range n).map fun j => ((f j : Nat) : Int)) = (List.range n).map fun j => byt (f j) := by
  simp [bytesS, byt]

/-- The loop that writes the bytes one by one, into bytes that are zero. -/
theorem put_gen {L : Nat → List Int → Int → Option Str} {u : Nat} (hu : u < 18446744073709551616)
    (h1 : ∀ n l i, L (n + 1) l i = cond (decide (i < (8 : Int))) (req (0 ≤ (IntKind.i64.wrap ((8 : Int) * i))) (req (0 ≤ i ∧ i < (l.length : Int)) (L n (l.set i.toNat (IntKind.u8.wrap (shrI .u64 (u : Int) (IntKind.i64.wrap ((8 : Int) * i))))) (IntKind.i64.wrap (i + (1 : Int)))))) (some (bytesS l))) :
    L 9 (List.replicate 8 0) 0 = some (leN 8 u) := by
  have key := loopSeq (len := 8) (by decide) (L := L) (J := fun l => some (bytesS l)) (S := fun i => (List.range 8).map fun j => if j < i then ((u / 256 ^ j % 256 : Nat) : Int) else 0) (fun n i hi => ?_) (fun n => ?_) 9 0 (by omega) (by omega)
  · rw [show ((0 : Nat) : Int) = 0 from rfl] at key
    rw [show (List.replicate 8 (0 : Int)) = ((List.range 8).map fun j => if j < 0 then ((u / 256 ^ j % 256 : Nat) : Int) else 0) from by simp; rfl, key, leN_map]
    rw [show ((List.range 8).map fun j => if j < 8 then ((u / 256 ^ j % 256 : Nat) : Int) else 0) = (List.range 8).map fun j => ((u / 256 ^ j % 256 : Nat) : Int) from List.map_congr_left fun j hj => by rw [if_pos (by simpa using hj)]]
    exact congrArg some (bytesS_map (fun j => u / 256 ^ j % 256) 8)
  · rw [h1, decide_eq_true (by omega), cond_true, req_pos (by rw [w64 (by omega) (by omega)]; omega), req_pos (by simp; omega), shrU hu hi, Int.toNat_natCast, map_set]
    congr 1
    refine List.map_congr_left fun j hj => ?_
    by_cases e : j = i
    · subst e; rw [if_pos rfl, if_pos (by omega)]
    · rw [if_neg e]
      by_cases e2 : j < i
      · rw [if_pos e2, if_pos (by omega)]
      · rw [if_neg e2, if_neg (by omega)]
  · rw [h1, decide_eq_false (by omega), cond_false]

theorem dg_little {u : Nat} (hu : u < 18446744073709551616) : F_digest_little (u : Int) = some (leN 8 u) := by
  unfold F_digest_little
  rw [jn_mk]
  exact put_gen (L := F_digest_little_L1 (u : Int) fun l => some (bytesS l)) hu (fun _ _ _ => rfl)

theorem cs_little {u : Nat} (hu : u < 18446744073709551616) : F_checksum_little (u : Int) 8 = some (leN 8 u) := by
  unfold F_checksum_little
  rw [req_pos (by decide), req_pos (by decide), jn_mk]
  exact put_gen (L := F_checksum_little_L1 8 (u : Int) fun l => some (bytesS l)) hu (fun _ _ _ => rfl)

theorem rem256 (u : Nat) : IntKind.u8.wrap (remI (u : Int) 256) = ((u % 256 : Nat) : Int) := by
  unfold remI
  rw [Int.tmod_eq_emod_of_nonneg (by omega), wrU8]
  omega

theorem quo256 {u : Nat} (h : u < 18446744073709551616) : quoI .u64 (u : Int) 256 = ((u / 256 : Nat) : Int) := by
  unfold quoI
  rw [Int.tdiv_eq_ediv_of_nonneg (by omega), show ((u : Int) / 256) = ((u / 256 : Nat) : Int) by omega]
  exact wrU64n (by omega)

theorem r3_loop {J : Str → Option Str} : ∀ (m u i n : Nat) (a : Str), u < 18446744073709551616 → i + m = 8 → m < n → a.length ≤ 100 - m → F_clockworkref03_little_L1 8 J n (u : Int) a (i : Int) = J (a ++ leN m u)
  | m, u, i, 0, a, _, _, hn, _ => absurd hn (by omega)
  | 0, u, i, n + 1, a, hu, hi, hn, ha => by
    rw [F_clockworkref03_little_L1, decide_eq_false (by omega), cond_false, leN, List.append_nil]
  | m + 1, u, i, n + 1, a, hu, hi, hn, ha => by
    rw [F_clockworkref03_little_L1, decide_eq_true (by omega), cond_true, req_pos (by decide), rem256, bytesS_one, req_pos (by simp; omega), req_pos (by decide), quo256 hu, wrap_succ (by omega),
      r3_loop m (u / 256) (i + 1) n (a ++ [byt (u % 256)]) (by omega) (by omega) (by omega) (by simp; omega), leN, List.append_assoc]
    rfl

theorem r3_little {u : Nat} (hu : u < 18446744073709551616) : F_clockworkref03_little (u : Int) 8 = some (leN 8 u) := by
  unfold F_clockworkref03_little
  rw [jn_mk]
  have := r3_loop (J := fun x => some x) 8 u 0 9 [] hu (by omega) (by omega) (by simp)
  simpa using this

theorem r53_loop : ∀ (m u i n : Nat) (a : List Int), u < 18446744073709551616 → i + m = 8 → m < n → a.length ≤ 100 - m → F_clockworkref53_bytes_L1 (fun l => some (bytesS l)) n a (u : Int) (i : Int) = some (bytesS a ++ leN m u)
  | m, u, i, 0, a, _, _, hn, _ => absurd hn (by omega)
  | 0, u, i, n + 1, a, hu, hi, hn, ha => by
    rw [F_clockworkref53_bytes_L1, decide_eq_false (by omega), cond_false, leN, List.append_nil]
  | m + 1, u, i, n + 1, a, hu, hi, hn, ha => by
    rw [F_clockworkref53_bytes_L1, decide_eq_true (by omega), cond_true, req_pos (by decide), rem256, req_pos (by simp; omega), req_pos (by decide), quo256 hu, wrap_succ (by omega),
      r53_loop m (u / 256) (i + 1) n (a ++ [((u % 256 : Nat) : Int)]) (by omega) (by omega) (by omega) (by simp; omega), leN, bytesS_app, bytesS_one, List.append_assoc]
    rfl

theorem r53_bytes {u : Nat} (hu : u < 18446744073709551616) : F_clockworkref53_bytes (u : Int) = some (leN 8 u) := by
  unfold F_clockworkref53_bytes
  rw [jn_mk]
  have := r53_loop 8 u 0 9 [] hu (by omega) (by omega) (by simp)
  simpa [bytesS] using this

theorem le_big (u : Nat) : (leN 8 u).length < big := by rw [leN_len]; decide

theorem cs_Mix {a b : Nat} (ha : a < 18446744073709551616) (hb : b < 18446744073709551616) : F_checksum_Mix (a : Int) (b : Int) = some ((mixN a b : Nat) : Int) := by
  unfold F_checksum_Mix
  rw [cs_little ha, bnd_mk, cs_FNV (le_big a), bnd_mk, cs_little hb, bnd_mk, cs_Extend (fnv_lt _) (le_big b), bnd_mk]
  rfl

theorem r3_Mix {a b : Nat} (ha : a < 18446744073709551616) (hb : b < 18446744073709551616) : F_clockworkref03_Mix (a : Int) (b : Int) = some ((mixN a b : Nat) : Int) := by
  unfold F_clockworkref03_Mix
  rw [r3_little ha, bnd_mk, show ((14695981039346656037 : Int)) = ((14695981039346656037 : Nat) : Int) from rfl, r3_Extend (by decide) (le_big a), bnd_mk, r3_little hb, bnd_mk]
  have := r3_Extend (h := fnv (leN 8 a)) (fnv_lt _) (le_big b)
  rw [show fnvN 14695981039346656037 (leN 8 a) = fnv (leN 8 a) from rfl, this, bnd_mk]
  rfl

/-! ### Pairs -/

/-- Strings that memory can hold. -/
structure Fits (x : TPair) : Prop where
  k : x.Key.length ≤ 200000000000000
  n : okI .i64 x.Val.N
  s : x.Val.S.length ≤ 200000000000000

def pairN (x : TPair) : Nat := mixN (fnv x.Key) (fnv (valB x.Val))
theorem pairN_lt (x : TPair) : pairN x < 18446744073709551616 := mixN_lt _ _

theorem big_k {n : Nat} (h : n ≤ 300000000000000) : n < big := by have e : big = 9223372036854775808 := rfl; omega

theorem dg_Pair {x : TPair} (h : Fits x) : F_digest_Pair x = some ((pairN x : Nat) : Int) := by
  unfold F_digest_Pair
  have hv := valB_len h.n h.s
  rw [cs_FNV (big_k (by have := h.k; omega)), bnd_mk, show (⟨x.Val.Kind, x.Val.N, x.Val.S⟩ : TValue) = x.Val from rfl, value_Enc h.n h.s, bnd_mk, cs_FNV (big_k (by have := h.s; omega)), bnd_mk, cs_Mix (fnv_lt _) (fnv_lt _)]
  rfl

theorem r53_Pair {x : TPair} (h : Fits x) : F_clockworkref53_Pair x = some ((pairN x : Nat) : Int) := by
  unfold F_clockworkref53_Pair
  have hv := valB_len h.n h.s
  rw [r3_FNV (big_k (by have := h.k; omega)), bnd_mk, show (⟨x.Val.Kind, x.Val.N, x.Val.S⟩ : TValue) = x.Val from rfl, value_EncR h.n h.s, bnd_mk, r3_FNV (big_k (by have := h.s; omega)), bnd_mk, r3_Mix (fnv_lt _) (fnv_lt _)]
  rfl

theorem rem64 (u : Nat) : IntKind.i64.wrap (remI (u : Int) 64) = ((u % 64 : Nat) : Int) := by
  unfold remI
  rw [Int.tmod_eq_emod_of_nonneg (by omega), w64 (by omega) (by omega)]
  omega

theorem dg_Bucket {k : Str} (h : k.length ≤ 200000000000000) : F_digest_Bucket k = some ((bkt k : Nat) : Int) := by
  unfold F_digest_Bucket
  rw [cs_FNV (big_k (by omega)), bnd_mk, req_pos (by decide), rem64]; rfl

theorem r53_Bucket {k : Str} (h : k.length ≤ 200000000000000) : F_clockworkref53_Bucket k = some ((bkt k : Nat) : Int) := by
  unfold F_clockworkref53_Bucket
  rw [r3_FNV (big_k (by omega)), bnd_mk, req_pos (by decide), rem64]; rfl

end Go.Proofs.YtonijgmopcmldaaGreat
