/-
  A FRAMEWORK FOR PROOFS ABOUT CALLS (part q): the library's sort and its like, on a row of the call's own.
  Conditions: the library's contracts, as the shelf lays them (hS, hN ..).
-/
import Derived.Test.YtkbldnpifmjipaaFp
import Derived.Sort.Grow
import Derived.Lib.SlicesCompact
set_option linter.all false
namespace Go.Proofs.Ytkbldnpifmjipaa

theorem putRow_facts {w : World} {g e q : Nat} {cur : Array Value} {l2 : List Int} {os : Array Obj} (hheap : w.heap[g]? = some (.cells cur e (0, 0))) (hl2 : l2.length ≤ cur.size) :
    (Go.Sort.grow (Go.Sort.putRow (Value.int .i64) (Go.Sort.ahead w q) g 0 l2.toArray) os).os = w.os ∧ (Go.Sort.grow (Go.Sort.putRow (Value.int .i64) (Go.Sort.ahead w q) g 0 l2.toArray) os).tape = w.tape ∧
    (Go.Sort.grow (Go.Sort.putRow (Value.int .i64) (Go.Sort.ahead w q) g 0 l2.toArray) os).output = w.output ∧
    (∀ k, k < w.heap.size → k ≠ g → (Go.Sort.grow (Go.Sort.putRow (Value.int .i64) (Go.Sort.ahead w q) g 0 l2.toArray) os).heap[k]? = w.heap[k]?) ∧
    ∃ cur', (Go.Sort.grow (Go.Sort.putRow (Value.int .i64) (Go.Sort.ahead w q) g 0 l2.toArray) os).heap[g]? = some (.cells cur' e (0, 0)) ∧ cur'.size = cur.size ∧ cur'.toList.take l2.length = l2.map (Value.int .i64) := by
  have hg : g < w.heap.size := (Array.getElem?_eq_some_iff.1 hheap).1
  refine ⟨rfl, rfl, rfl, fun k hk hne => ?_, Go.Sort.putCells (Value.int .i64) 0 l2.toArray cur, ?_, ?_, ?_⟩
  · show ((w.heap.modify g _) ++ os)[k]? = _
    rw [Array.getElem?_append_left (by simpa using hk), Array.getElem?_modify, if_neg (Ne.symm hne)]
  · show ((w.heap.modify g _) ++ os)[g]? = _
    rw [Array.getElem?_append_left (by simpa using hg), Array.getElem?_modify, if_pos rfl, hheap]
    rfl
  · simp [Go.Sort.putCells]
  · apply List.ext_getElem?
    intro j
    rw [List.getElem?_take]
    by_cases hj : j < l2.length
    · rw [if_pos hj]
      have hjc : j < cur.size := by omega
      simp [Go.Sort.putCells, hj, hjc]
    · rw [if_neg hj]
      exact (List.getElem?_eq_none (by simp; omega)).symm

theorem row_holds {w : World} {g e m : Nat} {cur : Array Value} {l : List Int} (hheap : w.heap[g]? = some (.cells cur e (0, 0))) (htake : cur.toList.take m = l.map (Value.int .i64)) (hl : l.length = m) : Go.Sort.Holds (Value.int .i64) w g 0 l.toArray := by
  intro j hj
  have hj' : j < l.length := by simpa using hj
  have h1 : cur.toList[j]? = some (Value.int .i64 l[j]) := by
    have : (cur.toList.take m)[j]? = some (Value.int .i64 l[j]) := by rw [htake]; simp [hj']
    rw [List.getElem?_take, if_pos (by omega)] at this
    exact this
  constructor
  · simp only [World.cell?, hheap, Nat.zero_add]
    simp only [Option.isSome_none, Bool.false_eq_true, if_false]
    rw [Array.getElem?_toList] at h1
    rw [h1]
    simp [hj']
  · simp [World.frozen?, hheap]

theorem holds_off {V : View} {w w' : World} {g : Nat} (hV : Holds V w) (hap : ∀ a : Addr, a.block = g → V a = none) (h : ∀ k, k < w.heap.size → k ≠ g → w'.heap[k]? = w.heap[k]?) : Holds V w' := by
  intro a x hx
  have h1 := hV a x hx
  have hne : a.block ≠ g := fun e => by rw [hap a e] at hx; cases hx
  have hlt : a.block < w.heap.size := by
    rcases Nat.lt_or_ge a.block w.heap.size with h' | h'
    · exact h'
    · simp only [World.cell?] at h1
      rw [Array.getElem?_eq_none h'] at h1
      simp at h1
  simp only [World.cell?] at h1 ⊢
  rw [h _ hlt hne]; exact h1

/-- slices.Sort at []int, on a row of the caller's own. -/
theorem sortI_specM {P : Program} {f : Nat} (hf : IsFn P f)
    (hS : ∀ (blk off cap : Nat) (zs : List Int) (w : World), Go.Sort.Holds (Value.int .i64) w blk off zs.toArray → blk < w.heap.size → zs.length < 4611686018427387904 →
      Calls P f #[.slice (some ⟨blk, off, none⟩) zs.length cap] w fun e w' => e = .returned (.tuple #[]) ∧ ∃ n os, w' = Go.Sort.grow (Go.Sort.putRow (Value.int .i64) (Go.Sort.ahead w n) blk off (zs.mergeSort fun x y => decide (x ≤ y)).toArray) os)
    (hN : ∀ (p : Option Addr) (cap : Nat) (w : World), Calls P f #[.slice p 0 cap] w fun e w' => e = .returned (.tuple #[]) ∧ w' = w)
    {a : Option Addr} {n c e : Nat} {l : List Int} {V : View} (hsz : l.length < 4611686018427387904) :
    SpecM P f [.slice a n c] ⟨.slice a n c, l.map (Value.int .i64), e, 1⟩ V (fun V' v r' => v = .tuple #[] ∧ V' = V ∧ r' = ⟨.slice a n c, (l.mergeSort fun x y => decide (x ≤ y)).map (Value.int .i64), e, 1⟩) := by
  refine ⟨hf, fun w hV hrow hap => ?_⟩
  obtain ⟨m, hlen, hrest⟩ := hrow
  have hlm : l.length = m := by simpa using hlen
  rcases hrest with ⟨hx, hm⟩ | ⟨g, cap, cur, hx, hb, hheap, hnc, hcm, hcs, htake⟩
  · simp only [Value.slice.injEq] at hx
    obtain ⟨rfl, rfl, rfl⟩ := hx
    have hl0 : l = [] := List.eq_nil_of_length_eq_zero (by omega)
    subst hl0
    refine (hN none 0 w).mono ?_
    rintro e' w' ⟨rfl, rfl⟩
    exact ⟨_, V, _, rfl, ⟨rfl, rfl, rfl, fun _ _ _ => rfl⟩, VLe.refl V, hV, fun a x h => .inl h, ⟨0, by simp, .inl ⟨rfl, rfl⟩⟩, fun a ha => by simp [Value.ownBlock] at ha, fun a ha => by simp [Value.ownBlock] at ha, rfl, rfl, rfl⟩
  · simp only [Value.slice.injEq] at hx
    obtain ⟨rfl, rfl, rfl⟩ := hx
    rw [Nat.mul_one] at htake hcs
    have hg : g < w.heap.size := (Array.getElem?_eq_some_iff.1 hheap).1
    have hc := hS g 0 c l w (row_holds hheap htake hlm) hg hsz
    rw [hlm] at hc
    refine hc.mono ?_
    rintro e' w' ⟨rfl, q, os, rfl⟩
    have hsl : (l.mergeSort fun x y => decide (x ≤ y)).length = n := by rw [List.length_mergeSort, hlm]
    obtain ⟨p1, p2, p3, p4, cur', p5, p6, p7⟩ := putRow_facts (q := q) (os := os) (l2 := l.mergeSort fun x y => decide (x ≤ y)) hheap (by omega)
    refine ⟨_, V, ⟨.slice (some ⟨g, 0, none⟩) n c, (l.mergeSort fun x y => decide (x ≤ y)).map (Value.int .i64), e, 1⟩, rfl, ⟨p1, p2, p3, fun k hk hne => p4 k hk (fun e => hne (by rw [e]; rfl))⟩, VLe.refl V, ?_, fun a x h => .inl h, ⟨n, by simp [hlm], .inr ⟨g, c, cur', rfl, hb, p5, hnc, hcm, ?_, ?_⟩⟩, fun a ha => hap a ha, fun a ha => .inl ha, rfl, rfl, rfl⟩
    · exact holds_off hV (fun a ha => hap a (by rw [ha]; rfl)) p4
    · show cur'.size = c * 1
      omega
    · show cur'.toList.take (n * 1) = _
      rw [Nat.mul_one, ← hsl]; exact p7

theorem compact_le (l : List Int) : (Go.Lib.compact l).length ≤ l.length := by
  simp only [Go.Lib.compact, Go.Lib.compactUpTo, List.length_map]
  exact Nat.le_trans (List.length_filter_le _ _) (by simp)

/-- slices.Compact at []int, on a row of the caller's own: the row is handed back, cut. -/
theorem compactI_specM {P : Program} {f : Nat} (hf : IsFn P f)
    (hC : ∀ (blk off cap : Nat) (zs : List Int) (w : World), Go.Sort.Holds (Value.int .i64) w blk off zs.toArray → zs.length ≤ 9223372036854775807 → zs.length ≤ cap →
      Calls P f #[.slice (some ⟨blk, off, none⟩) zs.length cap] w fun e w' => e = .returned (.slice (some ⟨blk, off, none⟩) (Go.Lib.compact zs).length cap) ∧ ∃ q, w' = Go.Sort.putRow (Value.int .i64) (Go.Sort.ahead w q) blk off (Go.Lib.compact zs ++ List.replicate (zs.length - (Go.Lib.compact zs).length) 0).toArray)
    (hE : ∀ (a : Option Addr) (cap : Nat) (w : World), Calls P f #[.slice a 0 cap] w fun e w' => e = .returned (.slice a 0 cap) ∧ w' = w)
    {a : Option Addr} {n c e : Nat} {l : List Int} {V : View} :
    SpecM P f [.slice a n c] ⟨.slice a n c, l.map (Value.int .i64), e, 1⟩ V (fun V' v r' => v = .slice a (Go.Lib.compact l).length c ∧ V' = V ∧ r' = ⟨.slice a (Go.Lib.compact l).length c, (Go.Lib.compact l).map (Value.int .i64), e, 1⟩) := by
  refine ⟨hf, fun w hV hrow hap => ?_⟩
  obtain ⟨m, hlen, hrest⟩ := hrow
  have hlm : l.length = m := by simpa using hlen
  rcases hrest with ⟨hx, hm⟩ | ⟨g, cap, cur, hx, hb, hheap, hnc, hcm, hcs, htake⟩
  · simp only [Value.slice.injEq] at hx
    obtain ⟨rfl, rfl, rfl⟩ := hx
    have hl0 : l = [] := List.eq_nil_of_length_eq_zero (by omega)
    subst hl0
    refine (hE none 0 w).mono ?_
    rintro e' w' ⟨rfl, rfl⟩
    exact ⟨_, V, ⟨.slice none 0 0, [], e, 1⟩, rfl, ⟨rfl, rfl, rfl, fun _ _ _ => rfl⟩, VLe.refl V, hV, fun a x h => .inl h, ⟨0, by simp, .inl ⟨rfl, rfl⟩⟩, fun a ha => by simp [Value.ownBlock] at ha, fun a ha => by simp [Value.ownBlock] at ha, rfl, rfl, rfl⟩
  · simp only [Value.slice.injEq] at hx
    obtain ⟨rfl, rfl, rfl⟩ := hx
    rw [Nat.mul_one] at htake hcs
    have hle := compact_le l
    have hmax : n ≤ maxLen := Nat.le_trans hnc hcm
    have hc := hC g 0 c l w (row_holds hheap htake hlm) (by simp only [maxLen] at hmax; omega) (by omega)
    rw [hlm] at hc
    refine hc.mono ?_
    rintro e' w' ⟨rfl, q, rfl⟩
    have hl2 : (Go.Lib.compact l ++ List.replicate (n - (Go.Lib.compact l).length) 0).length = n := by simp; omega
    obtain ⟨p1, p2, p3, p4, cur', p5, p6, p7⟩ := putRow_facts (q := q) (os := #[]) (l2 := Go.Lib.compact l ++ List.replicate (n - (Go.Lib.compact l).length) 0) hheap (by omega)
    rw [Go.Sort.grow_empty] at p1 p2 p3 p5
    simp only [Go.Sort.grow_empty] at p4
    refine ⟨_, V, ⟨.slice (some ⟨g, 0, none⟩) (Go.Lib.compact l).length c, (Go.Lib.compact l).map (Value.int .i64), e, 1⟩, rfl, ⟨p1, p2, p3, fun k hk hne => p4 k hk (fun e => hne (by rw [e]; rfl))⟩, VLe.refl V, ?_, fun a x h => .inl h, ⟨(Go.Lib.compact l).length, by simp, .inr ⟨g, c, cur', rfl, hb, p5, by omega, hcm, ?_, ?_⟩⟩, fun a ha => hap a ha, fun a ha => .inl ha, rfl, rfl, rfl⟩
    · exact holds_off hV (fun a ha => hap a (by rw [ha]; rfl)) p4
    · show cur'.size = c * 1
      omega
    · show cur'.toList.take ((Go.Lib.compact l).length * 1) = _
      have : cur'.toList.take (Go.Lib.compact l).length = (cur'.toList.take (Go.Lib.compact l ++ List.replicate (n - (Go.Lib.compact l).length) 0).length).take (Go.Lib.compact l).length := by
        rw [List.take_take, Nat.min_eq_left (by rw [hl2]; omega)]
      rw [Nat.mul_one, this, p7, List.map_append, List.take_left' (by simp)]

end Go.Proofs.Ytkbldnpifmjipaa
