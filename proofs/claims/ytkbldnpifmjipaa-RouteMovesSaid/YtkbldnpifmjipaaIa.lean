/-
  Iterators (iter.Seq) whose rounds leave be whatever lay when the walk over them began.
  Conditions: none.
-/
import Derived.Test.YtkbldnpifmjipaaGd
import Derived.Shelf.SlIterI.Collect
set_option linter.all false
namespace Go.Proofs.Ytkbldnpifmjipaa
open Go.RowKit Go.Maps Go.Sort Go.Shelf Go.Proofs

/-- THE CONTRACT OF AN ITERATOR: called at whatever yield whose rounds say 'go on', keep what lay in w and carry J, it hands the elements of xs, one by one. -/
def SeqB (P : Program) (g : Nat) (lb : Array Value) (xs : List Int) (w : World) : Prop :=
  ∀ (l : Nat) (J : List Int → World → Prop) (W : World), Below w.heap.size w W → AbidesFrom W.heap.size J →
    (∀ pre x rest W1, xs = pre ++ x :: rest → J pre W1 → Below w.heap.size w W1 → YieldAt Fence.wide 0 P l #[encZ x] W1 fun e W' => e = .returned (.bool true) ∧ J (pre ++ [x]) W' ∧ Below w.heap.size w W') →
    J [] W →
    Calls P g (#[.func (.yield l) #[] #[]] ++ lb) W fun e W' => (∃ v, e = .returned v) ∧ J xs W'

/-- The value v is an iterator over xs, wherever the view holds. -/
def SeqAt (P : Program) (V : View) (v : Value) (xs : List Int) : Prop :=
  ∃ g lb, v = .func (.func g) #[] lb ∧ (∀ args w, (callFunc g args).run P w = .ok (.enter g args) w) ∧ ∀ w, Holds V w → SeqB P g lb xs w

theorem SeqAt.mono {P : Program} {V V' : View} {v : Value} {xs : List Int} (h : SeqAt P V v xs) (hv : VLe V V') : SeqAt P V' v xs := by
  obtain ⟨g, lb, h1, h2, h3⟩ := h
  exact ⟨g, lb, h1, h2, fun w hw => h3 w (fun a x hx => hw a x (hv a x hx))⟩

variable {P : Program} {ρ : Ren}

set_option maxRecDepth 100000 in
set_option maxHeartbeats 2000000 in
/-- slices.AppendSeq(nil, seq) at []int. -/
theorem appendSeqB (L : SlLaysZI.n11 P ρ) (g : Nat) (lb : Array Value) (eg : ∀ args w, (callFunc g args).run P w = .ok (.enter g args) w)
    (xs : List Int) (hNb : xs.length * 8 ≤ 140737488355328) (w : World) (hseq : SeqB P g lb xs w) :
    Calls P (ρ.f 11) #[.slice none 0 0, .func (.func g) #[] lb] w fun e w' => ∃ v : Value, e = .returned v ∧ w'.ownsRow w.heap.size (ρ.t 26) 1 v xs.length (xs.map encZ) ∧ Below w.heap.size w w' := by
  have h1 : (1 : Nat) ≤ 1 := Nat.le_refl _
  have hN : xs.length ≤ maxLen := by simp only [maxLen]; omega
  have h11 : Fence.wide.fn (ρ.f 11) := trivial
  have hFg : Fence.wide.fn g := trivial
  have hro : Fence.wide.round = none := rfl
  have mixed := L.mixed; have t0 := L.t0; have a0 := L.a0; have z0 := L.z0; have v0 := L.v0; have t24 := L.t24; have a24 := L.a24; have z24 := L.z24; have v24 := L.v24; have t26 := L.t26; have a26 := L.a26; have z26 := L.z26; have v26 := L.v26; have t28 := L.t28; have a28 := L.a28; have z28 := L.z28; have v28 := L.v28
  have hne : ρ.t 24 ≠ ρ.t 26 := fun e => by have h := L.t24; rw [e, L.t26] at h; cases h
  have u0 := run_underlying L.t0; have u24 := run_underlying L.t24; have u26 := run_underlying L.t26; have u28 := run_underlying L.t28
  obtain ⟨_, _, FG⟩ := L.f11
  refine (callsIn_wide (n := 1)).1 ?_
  refine callsIn_of_wp_marks FG rfl h11 ?_ hro
  simp only [SlBodyZ.n11_ntmps ρ, List.size_toArray, List.length_cons, List.length_nil, Nat.reduceAdd, Nat.reduceSub, Array.replicate_succ, Array.replicate_zero, List.push_toArray, List.append_toArray, List.nil_append, List.cons_append]
  gi_wp2
  refine wpIn_rangeFunc ?_
  intro fn hfn
  rw [hro]
  obtain ⟨W0, hW0⟩ : ∃ W0, w.alloc (.cells #[.slice none 0 0] (ρ.t 24)) = W0 := ⟨_, rfl⟩
  have hs0 : W0.heap.size = w.heap.size + 1 := by rw [← hW0]; simp
  have hv0 : W0.heap[w.heap.size]? = some (.cells #[.slice none 0 0] (ρ.t 24) (0, 0)) := by rw [← hW0]; exact World.alloc_heap_new w _
  have hb0 : Below w.heap.size w W0 := by rw [← hW0]; exact (Below.refl _ w).alloc (Nat.le_refl _) _
  rw [hW0]
  obtain ⟨W1, hW1⟩ : ∃ W1, (W0.alloc (.deferred (some []))).alloc (.loop (AnyZI.apRec ρ fn (.func (.func g) #[] lb) w.heap.size W0.heap.size .ready none)) = W1 := ⟨_, rfl⟩
  have hold : ∀ k, k < W0.heap.size → W1.heap[k]? = W0.heap[k]? := fun k hk => by
    rw [← hW1]; exact (Below.heap_alloc _ _ k (by simp; omega)).trans (Below.heap_alloc _ _ k hk)
  have hb1 : Below w.heap.size w W1 := by rw [← hW1]; exact (hb0.alloc hb0.size _).alloc (by have := hb0.size; simp; omega) _
  have hs1 : W1.heap.size = W0.heap.size + 2 := by rw [← hW1]; simp
  have hM : AnyZI.ApAt ρ w fn (.func (.func g) #[] lb) w.heap.size (W0.heap.size + 1) W0.heap.size [] W1 :=
    ⟨⟨_, (hold w.heap.size (by omega)).trans hv0, ⟨rfl, .inl ⟨rfl, rfl⟩⟩, by simp⟩,
     by rw [← hW1]; have := World.alloc_heap_new (W0.alloc (.deferred (some []))) (.loop (AnyZI.apRec ρ fn (.func (.func g) #[] lb) w.heap.size W0.heap.size .ready none)); rwa [World.size_alloc] at this,
     by rw [← hW1]; exact (Below.heap_alloc _ _ _ (by simp)).trans (World.alloc_heap_new W0 _), hb1⟩
  refine ⟨W0.heap.size + 1, [{ target := .collected W0.heap.size, args := #[] }], W1, { target := .fn (.func g) lb, args := #[.func (.yield (W0.heap.size + 1)) #[] #[]] }, W1, g,
    #[.func (.yield (W0.heap.size + 1)) #[] #[]] ++ lb, W1, ?_, ?_, ?_, ?_, fun _ => h1, ?_⟩
  · rw [← hW1]; exact run_enterLoop_outer _ _ _ _ _
  · simp [resolve, go_sem]
  · intro f' hf'; simp [Target.leads] at hf'; subst hf'; exact hFg
  · simp [invoke, go_sem, eg]
  · refine callsIn_wide.2 ((hseq (W0.heap.size + 1) (AnyZI.ApAt ρ w fn (.func (.func g) #[] lb) w.heap.size (W0.heap.size + 1) W0.heap.size) W1 hb1 (AnyZI.ap_abides ρ _ _ _ _ _ _ _ hb1.size)
      (fun pre x rest W hxs hJ _ => ?_) hM).mono ?_)
    · have hlt : pre.length < xs.length := by rw [hxs]; simp
      obtain ⟨f1, f2, f3, f4, hy, hR⟩ := AnyZI.apYield { L with } Fence.wide 0 w fn hfn _ w.heap.size (W0.heap.size + 1) W0.heap.size (by omega) (by omega) (by omega) (Nat.le_refl _) (by omega) xs.length hN hNb pre x W hJ hlt
      exact ⟨f1, f2, f3, f4, hy, hR.mono fun e W' h => ⟨h.1, h.2.1, h.2.1.below⟩⟩
    rintro e W2 ⟨⟨v0, rfl⟩, h2⟩
    obtain ⟨v, hv, hrow, hnil⟩ := h2.box
    have hend := run_endLoop (P := P) h2.L (by simp [AnyZI.apRec])
    obtain ⟨W3, hW3⟩ : ∃ W3, W2.putObj (W0.heap.size + 1) (.loop { AnyZI.apRec ρ fn (.func (.func g) #[] lb) w.heap.size W0.heap.size .ready none with state := .exhausted }) = W3 := ⟨_, rfl⟩
    rw [hW3] at hend
    have hg3 : W2.grownBy W3 (some (W0.heap.size + 1)) := by rw [← hW3]; exact grownBy_putObj_a _ _ _
    have hv3 : W3.heap[w.heap.size]? = some (.cells #[v] (ρ.t 24) (0, 0)) := by rw [← hW3]; exact (World.putObj_heap_other (by omega)).trans hv
    have hK3 : W3.heap[W0.heap.size]? = some (.deferred (some [])) := by rw [← hW3]; exact (World.putObj_heap_other (by omega)).trans h2.K
    have hrow3 := hrow.kept hg3 (ownsRow_ne_a hrow h2.L (fun cur e => by first | cases e | exact hne (Obj.cells.inj e).2.1))
    have hb3 : Below w.heap.size w W3 := h2.below.grown hg3 h2.below.size (fun k e => by cases e; omega)
    obtain ⟨hc3, hf3⟩ := cell_of_box_a hv3
    clear hW3
    refine ⟨none, W3, hend, ?_⟩
    gi_wp2
    rw [← hs0]
    refine ⟨by simp, .inl ⟨_, _, rfl, run_takeDeferred hK3, ?_⟩⟩
    exact ⟨_, results_tmp rfl _ _ _, v, rfl, hrow3.kept (grownBy_putObj_a _ _ _) (ownsRow_ne_a hrow3 hK3 (fun cur e => by first | cases e | exact hne (Obj.cells.inj e).2.1)), hb3.grown (grownBy_putObj_a _ _ _) hb3.size (fun k e => by cases e; omega)⟩

theorem view_lt {V : View} {w : World} (hw : Holds V w) {a : Addr} {x : Value} (hx : V a = some x) : a.block < w.heap.size := by
  have h1 := hw a x hx
  refine Nat.lt_of_not_le fun hn => ?_
  have : w.heap[a.block]? = none := by simp; omega
  simp [World.cell?, this] at h1

theorem appendSeq_specM (L : SlLaysZI.n11 P ρ) (hf : IsFn P (ρ.f 11)) {V : View} {v : Value} {xs : List Int} (hs : SeqAt P V v xs) (hNb : xs.length * 8 ≤ 140737488355328) :
    SpecM P (ρ.f 11) [.slice none 0 0, v] ⟨.slice none 0 0, [], ρ.t 26, 1⟩ V (fun V' r r' => V' = V ∧ ∃ a k, r = .slice a xs.length k ∧ r' = ⟨.slice a xs.length k, xs.map (Value.int .i64), ρ.t 26, 1⟩) := by
  obtain ⟨g, lb, rfl, eg, hs⟩ := hs
  refine ⟨hf, fun w hw _ _ => (appendSeqB L g lb eg xs hNb w (hs w hw)).mono ?_⟩
  rintro e w' ⟨v, rfl, hrow, hb⟩
  have hv : ∃ a k, v = .slice a xs.length k := by
    rcases hrow.2 with ⟨h1, h2⟩ | ⟨g, cap, cur, h1, _⟩
    · exact ⟨none, 0, by rw [h1, h2]⟩
    · exact ⟨_, _, h1⟩
  obtain ⟨a, k, rfl⟩ := hv
  have hlt := hrow.lt
  refine ⟨_, V, ⟨.slice a xs.length k, xs.map (Value.int .i64), ρ.t 26, 1⟩, rfl, ⟨hb.os, hb.tape, hb.output, fun j hj _ => hb.block j hj⟩, VLe.refl V, fun b x hx => ?_, fun b x hx => .inl hx, ?_, fun b hb' => ?_, fun b hb' => .inr (hlt _ hb').1, rfl, a, k, rfl, rfl⟩
  · rw [World.cell?_of_block (hb.block _ (view_lt hw hx))]; exact hw b x hx
  · refine ⟨xs.length, hrow.1, ?_⟩
    rcases hrow.2 with h | ⟨g, cap, cur, h1, h2, h3⟩
    · exact .inl h
    · exact .inr ⟨g, cap, cur, h1, Nat.zero_le _, h3⟩
  · have h1 := (hlt _ hb').1
    cases hVb : V b with
    | none => rfl
    | some x => have := view_lt hw hVb; omega

end Go.Proofs.Ytkbldnpifmjipaa
