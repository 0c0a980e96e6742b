/-
  Functions of the program as their counterparts say them (printed by a program).
  Conditions: none.
-/
import Derived.Test.YtkbldnpifmjipaaHd
set_option linter.all false
namespace Go.Proofs.Ytkbldnpifmjipaa

section
open Go.RowKit Go.Proofs

def ownerAll (x5 : TPlacement) : List Str → Option (List Int)
  | [] => some []
  | k :: l => bnd (F_placement_Owner x5 k) fun y => bnd (ownerAll x5 l) fun r => some (y :: r)

theorem ownerAll_app {x5 : TPlacement} : ∀ {l1 l2 : List Str} {r : List Int}, ownerAll x5 (l1 ++ l2) = some r → ∃ r1 r2, ownerAll x5 l1 = some r1 ∧ ownerAll x5 l2 = some r2 ∧ r = r1 ++ r2
  | [], l2, r, h => ⟨[], r, rfl, h, rfl⟩
  | k :: l1, l2, r, h => by
    simp only [List.cons_append, ownerAll] at h ⊢
    obtain ⟨y, hy, h⟩ := bnd_some h
    obtain ⟨q, hq, h⟩ := bnd_some h
    obtain rfl := some_inj h
    obtain ⟨r1, r2, e1, e2, rfl⟩ := ownerAll_app hq
    exact ⟨y :: r1, r2, by rw [hy, e1]; rfl, e2, rfl⟩

theorem drop_at {α : Type} [Inhabited α] (l : List α) (i : Int) (hi : 0 ≤ i ∧ i < (l.length : Int)) : l.drop i.toNat = atI l i :: l.drop (i + 1).toNat := by
  have h : i.toNat < l.length := by omega
  rw [List.drop_eq_getElem_cons h, show (i + 1).toNat = i.toNat + 1 by omega]
  congr 1
  simp [atI, List.getD_eq_getElem?_getD, h]

def mu (s : Nat) (n : Nat) (a : Act) : Nat := match a.tmps[s]? with
  | some (.int _ i) => ((n : Int) - i).toNat
  | _ => 0

theorem ItSt.mu {V : View} {w0 : World} {J : List Int → World → Prop} {nt : Nat} {L : Fr} {pre : List Int} {a : Act} {w : World} (h : ItSt V w0 J nt L pre a w) {s : Nat} {i : Int} (n : Nat) (hs : lookL L s = some (.v (.int .i64 i))) :
    Go.Proofs.Ytkbldnpifmjipaa.mu s n a = ((n : Int) - i).toNat := by
  have h1 : a.tmps[s]? = some (.int .i64 i) := (h.lk s _ hs).1
  simp [Go.Proofs.Ytkbldnpifmjipaa.mu, h1]

set_option maxRecDepth 100000 in
theorem X_owners1 {V : View} (x3 : List (List Str)) (x5 : TPlacement) {a4 : Option Addr} {k4 : Nat} {b0 : Nat} {a6 : Option Addr} {k6 : Nat} {b1 : Nat} (h4 : SlAt (cSl cStr) V a4 k4 x3) (hc0 : RdAt V (some ⟨b0, 0, none⟩) 0 [.slice a4 ((x3).length) (k4)])
    (h6 : SlAt cTPart V a6 k6 x5.Parts) (hc1 : RdAt V (some ⟨b1, 0, none⟩) 0 [.int .i64 (x5.Version), .slice a6 ((x5.Parts).length) (k6)]) (hm3 : x3.length < 9223372036854775807) (hm5 : ∀ l ∈ x3, l.length < 9223372036854775807) {xs : List Int} (hF : ownerAll x5 x3.flatten = some xs) (w0 : World) (hw0 : Holds V w0) :
    SeqB Try.prog 49 #[.pointer (some ⟨b0, 0, none⟩), .pointer (some ⟨b1, 0, none⟩)] xs w0 := by
  intro l J W hBW hJ hY h0
  have hV : Holds V W := holds_below hw0 hBW
  have e : (#[Value.func (.yield l) #[] #[]] ++ #[Value.pointer (some ⟨b0, 0, none⟩), Value.pointer (some ⟨b1, 0, none⟩)] : Array Value) = ⟨[Value.func (.yield l) #[] #[], Value.pointer (some ⟨b0, 0, none⟩), Value.pointer (some ⟨b1, 0, none⟩)]⟩ := by simp
  rw [e]
  refine (callsIn_wide (n := 0)).1 (callsIn_of_wp Try.func49 rfl trivial ?_)
  have s0 : ItSt V w0 J 28 [(0, .v (.func (.yield l) #[] #[])), (1, .v (.pointer (some ⟨b0, 0, none⟩))), (2, .v (.pointer (some ⟨b1, 0, none⟩)))] [] { tmps := (⟨[Value.func (.yield l) #[] #[], Value.pointer (some ⟨b0, 0, none⟩), Value.pointer (some ⟨b1, 0, none⟩)]⟩ : Array Value) ++ Array.replicate (Try.f49.ntmps - (⟨[Value.func (.yield l) #[] #[], Value.pointer (some ⟨b0, 0, none⟩), Value.pointer (some ⟨b1, 0, none⟩)]⟩ : Array Value).size) undef, defers := [] } W :=
    ⟨rfl, by rw [Array.size_append, Array.size_replicate]; rfl, lok_args [Value.func (.yield l) #[] #[], Value.pointer (some ⟨b0, 0, none⟩), Value.pointer (some ⟨b1, 0, none⟩)] _, hV, hBW, h0⟩
  refine wpIn_seq ?_
  refine s0.stretch (T := tyT) (fn := Try.f49) hJ (fun L' V' => L' = [(0, .v (.func (.yield l) #[] #[])), (2, .v (.pointer (some ⟨b1, 0, none⟩))), (8, .v (.slice a4 ((x3).length) (k4))), (9, .v (.int .i64 ((((x3).length : Nat) : Int)))), (10, .v (.int .i64 0))]) ?_ ?_
  · refine Exec.run tyOk 400 rfl ?_
    refine Exec.ld tyOk (x := .slice a4 ((x3).length) (k4)) rfl rfl hc0 rfl rfl ?_
    refine Exec.run tyOk 400 rfl ?_
    exact Exec.round [(0, .v (.func (.yield l) #[] #[])), (2, .v (.pointer (some ⟨b1, 0, none⟩))), (8, .v (.slice a4 ((x3).length) (k4))), (9, .v (.int .i64 ((((x3).length : Nat) : Int)))), (10, .v (.int .i64 0))] ⟨rfl, rfl, rfl, rfl, rfl, trivial⟩ ⟨rfl, rfl⟩
  rintro L' V' a1 w1 rfl hv1 s1
  clear s0
  show Code.wpIn _ _ _ _ _ _ _
  refine wpIn_block ?_
  refine wpIn_loop (fun a w => ∃ (i : Int) (pre r : List Int), (0 ≤ i ∧ i ≤ (x3.length : Int)) ∧ ItSt V w0 J 28 [(0, .v (.func (.yield l) #[] #[])), (2, .v (.pointer (some ⟨b1, 0, none⟩))), (8, .v (.slice a4 ((x3).length) (k4))), (9, .v (.int .i64 ((((x3).length : Nat) : Int)))), (10, .v (.int .i64 i))] pre a w ∧ xs = pre ++ r ∧ ownerAll x5 (x3.drop i.toNat).flatten = some r)
    (fun a _ => mu 10 x3.length a) ⟨0, [], xs, ⟨Int.le_refl _, by omega⟩, s1, rfl, hF⟩ ?_
  clear s1
  rintro a w ⟨i, pre, r, hi, s, hx, hr⟩
  rw [s.mu (s := 10) x3.length rfl]
  refine wpIn_seq ?_
  refine s.stretch (T := tyT) (fn := Try.f49) hJ (fun L' V' => L' = [(0, .v (.func (.yield l) #[] #[])), (2, .v (.pointer (some ⟨b1, 0, none⟩))), (8, .v (.slice a4 ((x3).length) (k4))), (9, .v (.int .i64 ((((x3).length : Nat) : Int)))), (10, .v (.int .i64 i)), (11, .v (.bool (decide (i < (x3.length : Int)))))]) ?_ ?_
  · refine Exec.run tyOk 400 rfl ?_
    exact Exec.round [(0, .v (.func (.yield l) #[] #[])), (2, .v (.pointer (some ⟨b1, 0, none⟩))), (8, .v (.slice a4 ((x3).length) (k4))), (9, .v (.int .i64 ((((x3).length : Nat) : Int)))), (10, .v (.int .i64 i)), (11, .v (.bool (decide (i < (x3.length : Int)))))] ⟨rfl, rfl, rfl, rfl, rfl, rfl, trivial⟩ ⟨rfl, rfl⟩
  clear s
  rintro L' V2 a2 w2 rfl hv2 s
  show Code.wpIn _ _ _ _ _ _ _
  refine wpIn_seq ?_
  refine wpIn_cond_split (s.eval (s := 11) rfl) (fun hc => ?_) (fun hc => ?_)
  case _ =>
    have hlt : i < (x3.length : Int) := by simpa using hc
    refine wpIn_skip ?_
    show Code.wpIn _ _ _ _ _ _ _
    have hd := drop_at x3 i ⟨hi.1, hlt⟩
    rw [hd, List.flatten_cons] at hr
    obtain ⟨r1, r2, hr1, hr2, rfl⟩ := ownerAll_app hr
    have hil := SlAt.get h4 (n := i) ⟨hi.1, hlt⟩
    obtain ⟨c15, hr15, hd15⟩ := hil
    obtain ⟨a16, k16, rfl, h16⟩ := hr15
    refine wpIn_seq ?_
    refine wpIn_block ?_
    refine wpIn_seq ?_
    refine s.stretch (T := tyT) (fn := Try.f49) hJ (fun L' V' => L' = [(0, .v (.func (.yield l) #[] #[])), (2, .v (.pointer (some ⟨b1, 0, none⟩))), (5, .v (.slice a16 (((atI x3 i)).length) (k16))), (8, .v (.slice a4 ((x3).length) (k4))), (9, .v (.int .i64 ((((x3).length : Nat) : Int)))), (10, .v (.int .i64 i))]) ?_ ?_
    · refine Exec.run tyOk 400 rfl ?_
      refine Exec.ia tyOk rfl rfl ⟨hi.1, hlt, hd15.some⟩ ?_
      refine Exec.run tyOk 400 rfl ?_
      refine Exec.ld tyOk (x := .slice a16 (((atI x3 i)).length) (k16)) rfl rfl hd15 rfl rfl ?_
      refine Exec.run tyOk 8 rfl ?_
      exact Exec.round [(0, .v (.func (.yield l) #[] #[])), (2, .v (.pointer (some ⟨b1, 0, none⟩))), (5, .v (.slice a16 (((atI x3 i)).length) (k16))), (8, .v (.slice a4 ((x3).length) (k4))), (9, .v (.int .i64 ((((x3).length : Nat) : Int)))), (10, .v (.int .i64 i))] ⟨rfl, rfl, rfl, rfl, rfl, rfl, trivial⟩ ⟨rfl, rfl⟩
    clear s
    rintro L' V3 a3 w3 rfl hv3 s
    show Code.wpIn _ _ _ _ _ _ _
    refine wpIn_seq ?_
    refine s.stretch (T := tyT) (fn := Try.f49) hJ (fun L' V' => L' = [(0, .v (.func (.yield l) #[] #[])), (2, .v (.pointer (some ⟨b1, 0, none⟩))), (8, .v (.slice a4 ((x3).length) (k4))), (9, .v (.int .i64 ((((x3).length : Nat) : Int)))), (10, .v (.int .i64 i)), (14, .v (.slice a16 (((atI x3 i)).length) (k16))), (15, .v (.int .i64 ((((atI x3 i).length : Nat) : Int)))), (16, .v (.int .i64 0))]) ?_ ?_
    · refine Exec.run tyOk 400 rfl ?_
      exact Exec.round [(0, .v (.func (.yield l) #[] #[])), (2, .v (.pointer (some ⟨b1, 0, none⟩))), (8, .v (.slice a4 ((x3).length) (k4))), (9, .v (.int .i64 ((((x3).length : Nat) : Int)))), (10, .v (.int .i64 i)), (14, .v (.slice a16 (((atI x3 i)).length) (k16))), (15, .v (.int .i64 ((((atI x3 i).length : Nat) : Int)))), (16, .v (.int .i64 0))] ⟨rfl, rfl, rfl, rfl, rfl, rfl, rfl, rfl, trivial⟩ ⟨rfl, rfl⟩
    clear s
    rintro L' V4 a4' w4 rfl hv4 s
    show Code.wpIn _ _ _ _ _ _ _
    refine wpIn_block ?_
    refine wpIn_loop (fun a w => ∃ (j : Int) (pre r1 : List Int), (0 ≤ j ∧ j ≤ ((atI x3 i).length : Int)) ∧ ItSt V w0 J 28 [(0, .v (.func (.yield l) #[] #[])), (2, .v (.pointer (some ⟨b1, 0, none⟩))), (8, .v (.slice a4 ((x3).length) (k4))), (9, .v (.int .i64 ((((x3).length : Nat) : Int)))), (10, .v (.int .i64 i)), (14, .v (.slice a16 (((atI x3 i)).length) (k16))), (15, .v (.int .i64 ((((atI x3 i).length : Nat) : Int)))), (16, .v (.int .i64 j))] pre a w ∧ xs = pre ++ (r1 ++ r2) ∧ ownerAll x5 ((atI x3 i).drop j.toNat) = some r1)
      (fun a _ => mu 16 (atI x3 i).length a) ⟨0, pre, r1, ⟨Int.le_refl _, by omega⟩, s, hx, hr1⟩ ?_
    clear s hx hr1
    rintro a w ⟨j, pre, r1, hj, s, hx, hr1⟩
    rw [s.mu (s := 16) (atI x3 i).length rfl]
    refine wpIn_seq ?_
    refine s.stretch (T := tyT) (fn := Try.f49) hJ (fun L' V' => L' = [(0, .v (.func (.yield l) #[] #[])), (2, .v (.pointer (some ⟨b1, 0, none⟩))), (8, .v (.slice a4 ((x3).length) (k4))), (9, .v (.int .i64 ((((x3).length : Nat) : Int)))), (10, .v (.int .i64 i)), (14, .v (.slice a16 (((atI x3 i)).length) (k16))), (15, .v (.int .i64 ((((atI x3 i).length : Nat) : Int)))), (16, .v (.int .i64 j)), (17, .v (.bool (decide (j < ((atI x3 i).length : Int)))))]) ?_ ?_
    · refine Exec.run tyOk 400 rfl ?_
      exact Exec.round [(0, .v (.func (.yield l) #[] #[])), (2, .v (.pointer (some ⟨b1, 0, none⟩))), (8, .v (.slice a4 ((x3).length) (k4))), (9, .v (.int .i64 ((((x3).length : Nat) : Int)))), (10, .v (.int .i64 i)), (14, .v (.slice a16 (((atI x3 i)).length) (k16))), (15, .v (.int .i64 ((((atI x3 i).length : Nat) : Int)))), (16, .v (.int .i64 j)), (17, .v (.bool (decide (j < ((atI x3 i).length : Int)))))] ⟨rfl, rfl, rfl, rfl, rfl, rfl, rfl, rfl, rfl, trivial⟩ ⟨rfl, rfl⟩
    clear s
    rintro L' V5 a5 w5 rfl hv5 s
    show Code.wpIn _ _ _ _ _ _ _
    refine wpIn_seq ?_
    refine wpIn_cond_split (s.eval (s := 17) rfl) (fun hc => ?_) (fun hc => ?_)
    case _ =>
      have hlt2 : j < ((atI x3 i).length : Int) := by simpa using hc
      refine wpIn_skip ?_
      show Code.wpIn _ _ _ _ _ _ _
      have hd2 := drop_at (atI x3 i) j ⟨hj.1, hlt2⟩
      rw [hd2, ownerAll] at hr1
      obtain ⟨y, hy, hr1⟩ := bnd_some hr1
      obtain ⟨r3, hr3, hr1⟩ := bnd_some hr1
      obtain rfl := some_inj hr1
      obtain ⟨c32, hr32, hd32⟩ := SlAt.get h16 (n := j) ⟨hj.1, hlt2⟩
      obtain rfl := hr32
      refine wpIn_seq ?_
      refine wpIn_block ?_
      refine wpIn_seq ?_
      refine s.stretch (T := tyT) (fn := Try.f49) hJ (fun L' V' => L' = [(0, .v (.func (.yield l) #[] #[])), (2, .v (.pointer (some ⟨b1, 0, none⟩))), (7, .v (.string ⟨⟨(atI ((atI x3 i)) j)⟩⟩)), (8, .v (.slice a4 ((x3).length) (k4))), (9, .v (.int .i64 ((((x3).length : Nat) : Int)))), (10, .v (.int .i64 i)), (14, .v (.slice a16 (((atI x3 i)).length) (k16))), (15, .v (.int .i64 ((((atI x3 i).length : Nat) : Int)))), (16, .v (.int .i64 j))]) ?_ ?_
      · refine Exec.run tyOk 400 rfl ?_
        refine Exec.ia tyOk rfl rfl ⟨hj.1, hlt2, hd32.some⟩ ?_
        refine Exec.run tyOk 400 rfl ?_
        refine Exec.ld tyOk (x := .string ⟨⟨(atI ((atI x3 i)) j)⟩⟩) rfl rfl hd32 rfl rfl ?_
        refine Exec.run tyOk 8 rfl ?_
        exact Exec.round [(0, .v (.func (.yield l) #[] #[])), (2, .v (.pointer (some ⟨b1, 0, none⟩))), (7, .v (.string ⟨⟨(atI ((atI x3 i)) j)⟩⟩)), (8, .v (.slice a4 ((x3).length) (k4))), (9, .v (.int .i64 ((((x3).length : Nat) : Int)))), (10, .v (.int .i64 i)), (14, .v (.slice a16 (((atI x3 i)).length) (k16))), (15, .v (.int .i64 ((((atI x3 i).length : Nat) : Int)))), (16, .v (.int .i64 j))] ⟨rfl, rfl, rfl, rfl, rfl, rfl, rfl, rfl, rfl, trivial⟩ ⟨rfl, rfl⟩
      clear s
      rintro L' V6 a6' w6 rfl hv6 s
      show Code.wpIn _ _ _ _ _ _ _
      refine wpIn_seq ?_
      refine s.head (T := tyT) (fn := Try.f49) hJ (fun L' V' => L' = [(0, .v (.func (.yield l) #[] #[])), (2, .v (.pointer (some ⟨b1, 0, none⟩))), (8, .v (.slice a4 ((x3).length) (k4))), (9, .v (.int .i64 ((((x3).length : Nat) : Int)))), (10, .v (.int .i64 i)), (14, .v (.slice a16 (((atI x3 i)).length) (k16))), (15, .v (.int .i64 ((((atI x3 i).length : Nat) : Int)))), (16, .v (.int .i64 j)), (20, .v (.func (.yield l) #[] #[])), (23, .v (.int .i64 y))]) (ops := [_, _, _, _]) (rest := [_, _]) ?_ rfl ?_
      · refine Exec.run tyOk 400 rfl ?_
        refine Exec.ld tyOk (x := .agg ⟨[.int .i64 (x5.Version), .slice a6 ((x5.Parts).length) (k6)]⟩) rfl rfl hc1 rfl rfl ?_
        refine Exec.run tyOk 400 rfl ?_
        refine Exec.callS (.int .i64 y) rfl rfl (W_placement_Owner x5 ((atI ((atI x3 i)) j)) h6 hy) ?_
        refine Exec.run tyOk 400 rfl ?_
        exact Exec.round [(0, .v (.func (.yield l) #[] #[])), (2, .v (.pointer (some ⟨b1, 0, none⟩))), (8, .v (.slice a4 ((x3).length) (k4))), (9, .v (.int .i64 ((((x3).length : Nat) : Int)))), (10, .v (.int .i64 i)), (14, .v (.slice a16 (((atI x3 i)).length) (k16))), (15, .v (.int .i64 ((((atI x3 i).length : Nat) : Int)))), (16, .v (.int .i64 j)), (20, .v (.func (.yield l) #[] #[])), (23, .v (.int .i64 y))] ⟨rfl, rfl, rfl, rfl, rfl, rfl, rfl, rfl, rfl, rfl, trivial⟩ ⟨rfl, rfl⟩
      clear s
      rintro L' V7 a7 w7 rfl hv7 s
      refine s.yield (l := l) (x := y) (d := 24) (g := 20) (ar := 23) rfl rfl rfl (by decide) rfl rfl (hY pre y (r3 ++ r2) w7 (by rw [hx]; simp) s.j s.bl) hw0 ?_
      clear s
      intro a8 w8 s
      refine s.ops (T := tyT) (fn := Try.f49) hJ (fun L' V' => L' = [(0, .v (.func (.yield l) #[] #[])), (2, .v (.pointer (some ⟨b1, 0, none⟩))), (8, .v (.slice a4 ((x3).length) (k4))), (9, .v (.int .i64 ((((x3).length : Nat) : Int)))), (10, .v (.int .i64 i)), (14, .v (.slice a16 (((atI x3 i)).length) (k16))), (15, .v (.int .i64 ((((atI x3 i).length : Nat) : Int)))), (16, .v (.int .i64 j)), (25, .v (.bool false))]) ?_ ?_
      · refine Exec.run tyOk 400 rfl ?_
        exact Exec.round [(0, .v (.func (.yield l) #[] #[])), (2, .v (.pointer (some ⟨b1, 0, none⟩))), (8, .v (.slice a4 ((x3).length) (k4))), (9, .v (.int .i64 ((((x3).length : Nat) : Int)))), (10, .v (.int .i64 i)), (14, .v (.slice a16 (((atI x3 i)).length) (k16))), (15, .v (.int .i64 ((((atI x3 i).length : Nat) : Int)))), (16, .v (.int .i64 j)), (25, .v (.bool false))] ⟨rfl, rfl, rfl, rfl, rfl, rfl, rfl, rfl, rfl, trivial⟩ ⟨rfl, rfl⟩
      clear s
      rintro L' V9 a9 w9 rfl hv9 s
      show Code.wpIn _ _ _ _ _ _ _
      refine wpIn_cond_false (s.eval (s := 25) rfl) ?_
      refine wpIn_skip ?_
      show Code.wpIn _ _ _ _ _ _ _
      refine s.stretch (T := tyT) (fn := Try.f49) hJ (fun L' V' => L' = [(0, .v (.func (.yield l) #[] #[])), (2, .v (.pointer (some ⟨b1, 0, none⟩))), (8, .v (.slice a4 ((x3).length) (k4))), (9, .v (.int .i64 ((((x3).length : Nat) : Int)))), (10, .v (.int .i64 i)), (14, .v (.slice a16 (((atI x3 i)).length) (k16))), (15, .v (.int .i64 ((((atI x3 i).length : Nat) : Int)))), (16, .v (.int .i64 (IntKind.i64.wrap (j + (1 : Int)))))]) ?_ ?_
      · refine Exec.run tyOk 400 rfl ?_
        exact Exec.round [(0, .v (.func (.yield l) #[] #[])), (2, .v (.pointer (some ⟨b1, 0, none⟩))), (8, .v (.slice a4 ((x3).length) (k4))), (9, .v (.int .i64 ((((x3).length : Nat) : Int)))), (10, .v (.int .i64 i)), (14, .v (.slice a16 (((atI x3 i)).length) (k16))), (15, .v (.int .i64 ((((atI x3 i).length : Nat) : Int)))), (16, .v (.int .i64 (IntKind.i64.wrap (j + (1 : Int)))))] ⟨rfl, rfl, rfl, rfl, rfl, rfl, rfl, rfl, trivial⟩ ⟨rfl, rfl⟩
      clear s
      rintro L' V10 a10 w10 rfl hv10 s
      have hm := hm5 (atI x3 i) (by
        have := List.mem_of_mem_drop (i := i.toNat) (l := x3) (a := atI x3 i) (by rw [hd]; simp)
        exact this)
      have hw : IntKind.i64.wrap (j + (1 : Int)) = j + 1 := w64 (by omega) (by omega)
      rw [hw] at s
      refine ⟨⟨j + 1, pre ++ [y], r3, ⟨by omega, by omega⟩, s, by rw [hx]; simp, hr3⟩, ?_⟩
      rw [s.mu (s := 16) (atI x3 i).length rfl]
      omega
    case _ =>
      have hge : ((atI x3 i).length : Int) ≤ j := by simpa using hc
      refine wpIn_exit ?_
      have he : j.toNat = (atI x3 i).length := by omega
      rw [he, List.drop_length, ownerAll] at hr1
      obtain rfl := some_inj hr1
      show Code.wpIn _ _ _ _ _ _ _
      refine s.stretch (T := tyT) (fn := Try.f49) hJ (fun L' V' => L' = [(0, .v (.func (.yield l) #[] #[])), (2, .v (.pointer (some ⟨b1, 0, none⟩))), (8, .v (.slice a4 ((x3).length) (k4))), (9, .v (.int .i64 ((((x3).length : Nat) : Int)))), (10, .v (.int .i64 (IntKind.i64.wrap (i + (1 : Int)))))]) ?_ ?_
      · refine Exec.run tyOk 400 rfl ?_
        exact Exec.round [(0, .v (.func (.yield l) #[] #[])), (2, .v (.pointer (some ⟨b1, 0, none⟩))), (8, .v (.slice a4 ((x3).length) (k4))), (9, .v (.int .i64 ((((x3).length : Nat) : Int)))), (10, .v (.int .i64 (IntKind.i64.wrap (i + (1 : Int)))))] ⟨rfl, rfl, rfl, rfl, rfl, trivial⟩ ⟨rfl, rfl⟩
      clear s
      rintro L' V10 a10 w10 rfl hv10 s
      have hw : IntKind.i64.wrap (i + (1 : Int)) = i + 1 := w64 (by omega) (by omega)
      rw [hw] at s
      refine ⟨⟨i + 1, pre, r2, ⟨by omega, by omega⟩, s, by rw [hx]; simp, hr2⟩, ?_⟩
      rw [s.mu (s := 10) x3.length rfl]
      omega
  case _ =>
    have hge : (x3.length : Int) ≤ i := by simpa using hc
    refine wpIn_exit ?_
    have he : i.toNat = x3.length := by omega
    rw [he, List.drop_length, List.flatten_nil, ownerAll] at hr
    obtain rfl := some_inj hr
    rw [List.append_nil] at hx
    subst hx
    show bodyPost Try.prog Try.f49 (fun e W' => (∃ v, e = .returned v) ∧ J _ W') .normal _ _
    exact bodyPost_end (v := .tuple #[]) (by simp [results, show Try.f49.results = #[] from rfl]) s.df ⟨⟨_, rfl⟩, s.j⟩

/-! ### slices.AppendSeq, Collect, Sorted at []int -/

def seqRen : Go.Shelf.Ren := ⟨fun | 11 => 80 | n => n, fun | 0 => 0 | 24 => 29 | 26 => 3 | 28 => 47 | 33 => 51 | n => n, fun n => n⟩
theorem seqLays : Go.Proofs.SlLaysZI.n11 Try.prog seqRen := {
  mixed := by kernel_rfl
  f11 := ⟨ "slices.AppendSeq[[]int,int]", by kernel_rfl, Try.func80.trans (congrArg some (by kernel_rfl))⟩
  t0 := Try.underlying0
  a0 := Try.isAgg0
  z0 := Try.sizeOf0
  v0 := Try.zeroValue0
  t24 := Try.underlying29
  a24 := Try.isAgg29
  z24 := Try.sizeOf29
  v24 := Try.zeroValue29
  t26 := Try.underlying3
  a26 := Try.isAgg3
  z26 := Try.sizeOf3
  v26 := Try.zeroValue3
  t28 := Try.underlying47
  a28 := Try.isAgg47
  z28 := Try.sizeOf47
  v28 := Try.zeroValue47
  i26 := by kernel_rfl }

theorem X_AppendSeq {V : View} {v : Value} {xs : List Int} (hs : SeqAt Try.prog V v xs) (hNb : xs.length * 8 ≤ 140737488355328) :
    SpecM Try.prog 80 [.slice none 0 0, v] ⟨.slice none 0 0, [], 3, 1⟩ V (fun V' r r' => V' = V ∧ ∃ a k, r = .slice a xs.length k ∧ r' = ⟨.slice a xs.length k, xs.map (Value.int .i64), 3, 1⟩) :=
  appendSeq_specM seqLays ⟨_, Try.func80, by kernel_rfl, by kernel_rfl⟩ hs hNb

set_option maxRecDepth 100000 in
theorem X_Collect {V : View} {v : Value} {xs : List Int} (hs : SeqAt Try.prog V v xs) (hNb : xs.length * 8 ≤ 140737488355328) :
    SpecM Try.prog 60 [v] ⟨.slice none 0 0, [], 3, 1⟩ V (fun V' r r' => V' = V ∧ ∃ a k, r = .slice a xs.length k ∧ r' = ⟨.slice a xs.length k, xs.map (Value.int .i64), 3, 1⟩) := by
  refine SpecM.enter (T := tyT) Try.func60 rfl (by kernel_rfl) rfl rfl rfl ?_
  refine Exec.run tyOk 400 rfl ?_
  refine Exec.callM 0 rfl rfl rfl rfl (X_AppendSeq hs hNb) ?_
  rintro VV _ _ _ ⟨hVV, a, k, rfl, rfl⟩
  have hVV := hVV.symm
  subst hVV
  refine ⟨_, rfl, ?_⟩
  refine Exec.run tyOk 400 rfl ?_
  refine Exec.ret tyOk rfl rfl ?_
  dsimp only
  exact RowEnd.at 0 rfl ⟨rfl, a, k, rfl, rfl⟩

set_option maxRecDepth 100000 in
theorem X_Sorted {V : View} {v : Value} {xs : List Int} (hs : SeqAt Try.prog V v xs) (hNb : xs.length * 8 ≤ 140737488355328) :
    SpecM Try.prog 48 [v] ⟨.slice none 0 0, [], 3, 1⟩ V (fun V' r r' => V' = V ∧ ∃ a k, r = .slice a xs.length k ∧ r' = ⟨.slice a xs.length k, (sortL xs).map (Value.int .i64), 3, 1⟩) := by
  refine SpecM.enter (T := tyT) Try.func48 rfl (by kernel_rfl) rfl rfl rfl ?_
  refine Exec.run tyOk 400 rfl ?_
  refine Exec.callM 0 rfl rfl rfl rfl (X_Collect hs hNb) ?_
  rintro VV _ _ _ ⟨hVV, a, k, rfl, rfl⟩
  have hVV := hVV.symm
  subst hVV
  refine ⟨_, rfl, ?_⟩
  refine Exec.run tyOk 400 rfl ?_
  refine Exec.callM 0 rfl rfl rfl rfl (sortI_row (RowRep.ofInts xs) (fun cs e => by subst e; exact (sortI_specM ⟨_, rfl, by kernel_rfl, by kernel_rfl⟩ Try.slices_Sort_int Try.slices_Sort_int_none (by omega)))) ?_
  rintro VV _ _ _ ⟨rfl, hVV, rfl⟩
  have hVV := hVV.symm
  subst hVV
  refine ⟨_, rfl, ?_⟩
  refine Exec.run tyOk 400 rfl ?_
  refine Exec.ret tyOk rfl rfl ?_
  dsimp only
  exact RowEnd.at 0 rfl ⟨rfl, a, k, rfl, rfl⟩

theorem sortL_len (l : List Int) : (sortL l).length = l.length := by simp [sortL]

set_option maxRecDepth 100000 in
theorem X_different {V : View} {v : Value} {xs : List Int} (hs : SeqAt Try.prog V v xs) (hNb : xs.length * 8 ≤ 140737488355328) :
    Spec Try.prog 29 [v] V (fun V' r => ∃ (a : Option Addr) (k : Nat), r = .slice a (compactL (sortL xs)).length k ∧ SlAt (cInt .i64) V' a k (compactL (sortL xs))) := by
  refine Spec.enter (T := tyT) Try.func29 rfl (by kernel_rfl) rfl rfl rfl ?_
  refine Exec.run tyOk 400 rfl ?_
  refine Exec.row0 3 1 rfl ?_
  refine Exec.callM 0 rfl rfl rfl rfl (X_Sorted hs hNb) ?_
  rintro VV _ _ _ ⟨hVV, a, k, rfl, rfl⟩
  have hVV := hVV.symm
  subst hVV
  refine ⟨_, rfl, ?_⟩
  refine Exec.run tyOk 400 rfl ?_
  refine Exec.callM 0 rfl rfl rfl rfl (compactI_row (RowRep.ofInts (sortL xs)) (fun cs e => by subst e; exact (compactI_specM ⟨_, rfl, by kernel_rfl, by kernel_rfl⟩ Try.slices_Compact_int Try.slices_Compact_int_empty))) ?_
  rintro VV _ _ _ ⟨rfl, hVV, rfl⟩
  have hVV := hVV.symm
  subst hVV
  refine ⟨_, rfl, ?_⟩
  have h12 : RowRep (cInt .i64) V (compactL (sortL xs)) ((compactL (sortL xs)).map (Value.int .i64)) := RowRep.ofInts _
  refine Exec.run tyOk 400 rfl ?_
  refine Exec.frz 0 rfl rfl rfl (fun V13 hv13 hd13 hn13 => ?_)
  have hz13 := RowRep.slat h12 hv13 hd13 hn13
  exact Exec.ret tyOk rfl rfl ⟨_, _, rfl, hz13⟩

/-! ### route.owners -/

def ownersF (x1 : TPlacement) (x3 : List (List Str)) : Option (List Int) := ownerAll x1 x3.flatten

set_option maxRecDepth 100000 in
theorem X_owners {V : View} (x1 : TPlacement) (x3 : List (List Str)) {a2 : Option Addr} {k2 : Nat} {a4 : Option Addr} {k4 : Nat} (h2 : SlAt cTPart V a2 k2 x1.Parts) (h4 : SlAt (cSl cStr) V a4 k4 x3)
    (hm3 : x3.length < 9223372036854775807) (hm5 : ∀ l ∈ x3, l.length < 9223372036854775807) {xs : List Int} (hF : ownersF x1 x3 = some xs) :
    Spec Try.prog 30 [.agg ⟨[.int .i64 (x1.Version), .slice a2 ((x1.Parts).length) (k2)]⟩, .slice a4 ((x3).length) (k4)] V (fun V' v => SeqAt Try.prog V' v xs) := by
  refine Spec.enter (T := tyT) Try.func30 rfl (by kernel_rfl) rfl rfl rfl ?_
  refine Exec.run tyOk 400 rfl ?_
  refine Exec.openB 0 rfl rfl rfl rfl (fun _ => rfl) (fun _ => rfl) (fun V4 b4 hv4 hd4 => ?_)
  have h5 := SlAt.mono h2 hv4
  have h6 := SlAt.mono h4 hv4
  refine Exec.openB 1 rfl rfl rfl rfl (fun _ => rfl) (fun _ => rfl) (fun V5 b5 hv5 hd5 => ?_)
  have h7 := SlAt.mono h5 hv5
  have h8 := SlAt.mono h6 hv5
  have hd6 := RdAt.mono hd4 hv5
  refine Exec.mkf rfl rfl ?_
  refine Exec.run tyOk 400 rfl ?_
  refine Exec.ret tyOk rfl rfl ⟨_, _, rfl, fun args w => ?_, fun w hw => X_owners1 x3 x1 h8 hd5 h7 hd6 hm3 hm5 hF w hw⟩
  exact enters_of Try.func49 (by kernel_rfl) rfl args w


def F_route_Nodes (x1 : TPlacement) (x3 : TFootprint) : Option (List Int) :=
  bnd (F_route_valid x1 x3) fun x6 => cond (!x6) (some []) (cond x3.All (F_placement_Nodes x1)
    (req (x3.Reads.length + x3.Writes.length ≤ 17592186044416) (bnd (ownersF x1 [x3.Reads, x3.Writes]) fun x8 => some (compactL (sortL x8)))))

theorem ownerAll_len {x5 : TPlacement} : ∀ {l : List Str} {r : List Int}, ownerAll x5 l = some r → r.length = l.length
  | [], r, h => by obtain rfl := some_inj h; rfl
  | k :: l, r, h => by
    simp only [ownerAll] at h
    obtain ⟨y, hy, h⟩ := bnd_some h
    obtain ⟨q, hq, h⟩ := bnd_some h
    obtain rfl := some_inj h
    simp [ownerAll_len hq]

set_option maxRecDepth 100000 in
theorem W_route_Nodes {V : View} (x1 : TPlacement) (x3 : TFootprint) {a2 : Option Addr} {k2 : Nat} {a4 : Option Addr} {k4 : Nat} {a5 : Option Addr} {k5 : Nat} (h2 : SlAt cTPart V a2 k2 x1.Parts) (h4 : SlAt cStr V a4 k4 x3.Reads) (h5 : SlAt cStr V a5 k5 x3.Writes) {r : List Int} (hF : F_route_Nodes x1 x3 = some r) :
    Spec Try.prog 9 [.agg ⟨[.int .i64 (x1.Version), .slice a2 ((x1.Parts).length) (k2)]⟩, .agg ⟨[.bool (x3.All), .slice a4 ((x3.Reads).length) (k4), .slice a5 ((x3.Writes).length) (k5)]⟩] V (fun V' v => ∃ (a29 : Option Addr) (k29 : Nat), v = .slice a29 ((r).length) (k29) ∧ SlAt (cInt .i64) V' a29 k29 r) := by
  unfold F_route_Nodes at hF
  refine Spec.enter (T := tyT) Try.func9 rfl (by kernel_rfl) rfl rfl rfl ?_
  refine Exec.run tyOk 400 rfl ?_
  obtain ⟨x6, hx6, hF⟩ := bnd_some hF
  refine Exec.callS (.bool (x6)) rfl rfl (W_route_valid x1 x3 h2 h4 h5 hx6) ?_
  refine Exec.run tyOk 400 rfl ?_
  rcases cond_some hF with ⟨hb, hF⟩ | ⟨hb, hF⟩
  · skip
    refine Exec.ifT rfl hb ?_
    refine Exec.run tyOk 400 rfl ?_
    obtain rfl := some_inj hF
    exact Exec.ret tyOk rfl rfl ⟨_, _, rfl, SlAt.nil⟩
  · skip
    refine Exec.ifF rfl hb ?_
    refine Exec.run tyOk 400 rfl ?_
    rcases cond_some hF with ⟨hb, hF⟩ | ⟨hb, hF⟩
    · skip
      refine Exec.ifT rfl hb ?_
      refine Exec.run tyOk 400 rfl ?_
      refine Exec.call rfl rfl (W_placement_Nodes x1 h2 hF) ?_
      rintro V9 _ hv9 ⟨a8, k8, rfl, h8⟩
      refine Exec.run tyOk 400 rfl ?_
      exact Exec.ret tyOk rfl rfl ⟨_, _, rfl, h8⟩
    · skip
      refine Exec.ifF rfl hb ?_
      refine Exec.run tyOk 400 rfl ?_
      obtain ⟨q7, hF⟩ := req_some hF
      obtain ⟨x8, hx8, hF⟩ := bnd_some hF
      refine Exec.bsV tyOk rfl rfl rfl rfl rfl (fun V9 a9 hv9 hd9 => ?_)
      have h9 : SlAt (cSl cStr) V9 (some a9) 2 ([x3.Reads, x3.Writes] : List (List Str)) := RowRep.slat (c := (cSl cStr)) (V := V9) (cs := [.slice a4 ((x3.Reads).length) (k4), .slice a5 ((x3.Writes).length) (k5)]) ⟨_, _, rfl, ⟨_, _, rfl, (SlAt.mono h4 hv9)⟩, ⟨_, _, rfl, ⟨_, _, rfl, (SlAt.mono h5 hv9)⟩, rfl⟩⟩ (VLe.refl _) (fun _ => hd9) (by simp)
      have h10 := SlAt.mono h2 hv9
      refine Exec.run tyOk 400 rfl ?_
      refine Exec.call rfl rfl (X_owners x1 [x3.Reads, x3.Writes] h10 h9 (by simp) (by simp; omega) hx8) ?_
      rintro V11 v11 hv11 h11
      refine Exec.run tyOk 400 rfl ?_
      refine Exec.call rfl rfl (X_different h11 (by have := ownerAll_len hx8; simp at this; omega)) ?_
      rintro V12 _ hv12 ⟨a12, k12, rfl, h12⟩
      refine Exec.run tyOk 400 rfl ?_
      obtain rfl := some_inj hF
      exact Exec.ret tyOk rfl rfl ⟨_, _, rfl, h12⟩

end

def F_clockworkref30_Nodes (x1 : TPlacement) (x3 : TFootprint) : Option (List Int) :=
  (bnd (F_clockworkref30_valid x1 x3) fun x6 => (cond (!x6) (some ([] : List Int)) (cond x3.All (bnd (F_clockworkref29_Nodes x1) fun x7 => (some x7)) (req (((([] : List Str) ++ x3.Reads)).length * 16 ≤ 140737488355328) (req ((((([] : List Str) ++ x3.Reads) ++ x3.Writes)).length * 16 ≤ 140737488355328) (bnd (F_clockworkref30_owners x1 (((([] : List Str) ++ x3.Reads) ++ x3.Writes))) fun x22 => (some x22)))))))

set_option maxRecDepth 100000 in
theorem W_clockworkref30_Nodes {V : View} (x1 : TPlacement) (x3 : TFootprint) {a2 : Option Addr} {k2 : Nat} {a4 : Option Addr} {k4 : Nat} {a5 : Option Addr} {k5 : Nat} (h2 : SlAt cTPart V a2 k2 x1.Parts) (h4 : SlAt cStr V a4 k4 x3.Reads) (h5 : SlAt cStr V a5 k5 x3.Writes) {r : List Int} (hF : F_clockworkref30_Nodes x1 x3 = some r) :
    Spec Try.prog 10 [.agg ⟨[.int .i64 (x1.Version), .slice a2 ((x1.Parts).length) (k2)]⟩, .agg ⟨[.bool (x3.All), .slice a4 ((x3.Reads).length) (k4), .slice a5 ((x3.Writes).length) (k5)]⟩] V (fun V' v => ∃ (a29 : Option Addr) (k29 : Nat), v = .slice a29 ((r).length) (k29) ∧ SlAt (cInt .i64) V' a29 k29 r) := by
  unfold F_clockworkref30_Nodes at hF
  refine Spec.enter (T := tyT) Try.func10 rfl (by kernel_rfl) rfl rfl rfl ?_
  refine Exec.run tyOk 400 rfl ?_
  obtain ⟨x6, hx6, hF⟩ := bnd_some hF
  refine Exec.callS (.bool (x6)) rfl rfl (W_clockworkref30_valid x1 x3 h2 h4 h5 hx6) ?_
  refine Exec.run tyOk 400 rfl ?_
  rcases cond_some hF with ⟨hb, hF⟩ | ⟨hb, hF⟩
  · skip
    refine Exec.ifT rfl hb ?_
    refine Exec.run tyOk 400 rfl ?_
    obtain rfl := some_inj hF
    exact Exec.ret tyOk rfl rfl ⟨_, _, rfl, SlAt.nil⟩
  · skip
    refine Exec.ifF rfl hb ?_
    refine Exec.run tyOk 400 rfl ?_
    rcases cond_some hF with ⟨hb, hF⟩ | ⟨hb, hF⟩
    · skip
      refine Exec.ifT rfl hb ?_
      refine Exec.run tyOk 400 rfl ?_
      obtain ⟨x7, hx7, hF⟩ := bnd_some hF
      refine Exec.call rfl rfl (W_clockworkref29_Nodes x1 h2 hx7) ?_
      rintro V9 _ hv9 ⟨a8, k8, rfl, h8⟩
      have h10 := SlAt.mono h2 hv9
      have h11 := SlAt.mono h4 hv9
      have h12 := SlAt.mono h5 hv9
      refine Exec.run tyOk 400 rfl ?_
      obtain rfl := some_inj hF
      exact Exec.ret tyOk rfl rfl ⟨_, _, rfl, h8⟩
    · skip
      refine Exec.ifF rfl hb ?_
      refine Exec.run tyOk 400 rfl ?_
      refine Exec.row0 9 1 rfl ?_
      have h13 : RowRep cStr V [] [] := RowRep.nil
      obtain ⟨q15, hF⟩ := req_some hF
      refine Exec.appS tyOk (cd := cStr) 2 (nm := ((([] : List Str) ++ x3.Reads)).length) rfl rfl rfl rfl rfl rfl h4 (by first | rfl | simp) (by first | rfl | exact List.length_append.symm | simp) (fun _ _ _ => rfl) rfl q15 (fun cs14 hs14 a14 k14 => ?_)
      have h14 : RowRep cStr V (([] : List Str) ++ x3.Reads) ([] ++ cs14) := RowRep.app h13 hs14
      refine Exec.run tyOk 400 rfl ?_
      refine Exec.drawsE tyOk [] [2] [(0, true), (1, true), (2, true), (3, true), (4, false), (5, false), (6, true)] (by kernel_rfl) ?_
      refine Exec.run tyOk 400 rfl ?_
      obtain ⟨q17, hF⟩ := req_some hF
      refine Exec.appS tyOk (cd := cStr) 2 (nm := (((([] : List Str) ++ x3.Reads) ++ x3.Writes)).length) rfl rfl rfl rfl rfl rfl h5 (by first | rfl | simp) (by first | rfl | exact List.length_append.symm | simp) (fun _ _ _ => rfl) rfl q17 (fun cs16 hs16 a16 k16 => ?_)
      have h16 : RowRep cStr V ((([] : List Str) ++ x3.Reads) ++ x3.Writes) (([] ++ cs14) ++ cs16) := RowRep.app h14 hs16
      refine Exec.run tyOk 400 rfl ?_
      refine Exec.frz 2 rfl rfl rfl (fun V18 hv18 hd18 hn18 => ?_)
      have hz18 := RowRep.slat h16 hv18 hd18 hn18
      have h19 := SlAt.mono h2 hv18
      have h20 := SlAt.mono h4 hv18
      have h21 := SlAt.mono h5 hv18
      obtain ⟨x22, hx22, hF⟩ := bnd_some hF
      refine Exec.call rfl rfl (W_clockworkref30_owners x1 (((([] : List Str) ++ x3.Reads) ++ x3.Writes)) h19 hz18 hx22) ?_
      rintro V24 _ hv24 ⟨a23, k23, rfl, h23⟩
      have h25 := SlAt.mono h19 hv24
      have h26 := SlAt.mono h20 hv24
      have h27 := SlAt.mono h21 hv24
      have h28 := SlAt.mono hz18 hv24
      refine Exec.run tyOk 400 rfl ?_
      obtain rfl := some_inj hF
      exact Exec.ret tyOk rfl rfl ⟨_, _, rfl, h23⟩

section
open Go.RowKit Go.Proofs
-- uses W_route_Nodes


def F_route_Active (x1 : TPlacement) (x3 : TFootprint) : Option (List Int) :=
  bnd (F_route_valid x1 x3) fun x6 => cond (!x6) (some []) (cond x3.All (F_placement_Nodes x1)
    (req (x3.Writes.length ≤ 17592186044416) (bnd (ownersF x1 [x3.Writes]) fun x8 => some (compactL (sortL x8)))))

set_option maxRecDepth 100000 in
theorem W_route_Active {V : View} (x1 : TPlacement) (x3 : TFootprint) {a2 : Option Addr} {k2 : Nat} {a4 : Option Addr} {k4 : Nat} {a5 : Option Addr} {k5 : Nat} (h2 : SlAt cTPart V a2 k2 x1.Parts) (h4 : SlAt cStr V a4 k4 x3.Reads) (h5 : SlAt cStr V a5 k5 x3.Writes) {r : List Int} (hF : F_route_Active x1 x3 = some r) :
    Spec Try.prog 11 [.agg ⟨[.int .i64 (x1.Version), .slice a2 ((x1.Parts).length) (k2)]⟩, .agg ⟨[.bool (x3.All), .slice a4 ((x3.Reads).length) (k4), .slice a5 ((x3.Writes).length) (k5)]⟩] V (fun V' v => ∃ (a29 : Option Addr) (k29 : Nat), v = .slice a29 ((r).length) (k29) ∧ SlAt (cInt .i64) V' a29 k29 r) := by
  unfold F_route_Active at hF
  refine Spec.enter (T := tyT) Try.func11 rfl (by kernel_rfl) rfl rfl rfl ?_
  refine Exec.run tyOk 400 rfl ?_
  obtain ⟨x6, hx6, hF⟩ := bnd_some hF
  refine Exec.callS (.bool (x6)) rfl rfl (W_route_valid x1 x3 h2 h4 h5 hx6) ?_
  refine Exec.run tyOk 400 rfl ?_
  rcases cond_some hF with ⟨hb, hF⟩ | ⟨hb, hF⟩
  · skip
    refine Exec.ifT rfl hb ?_
    refine Exec.run tyOk 400 rfl ?_
    obtain rfl := some_inj hF
    exact Exec.ret tyOk rfl rfl ⟨_, _, rfl, SlAt.nil⟩
  · skip
    refine Exec.ifF rfl hb ?_
    refine Exec.run tyOk 400 rfl ?_
    rcases cond_some hF with ⟨hb, hF⟩ | ⟨hb, hF⟩
    · skip
      refine Exec.ifT rfl hb ?_
      refine Exec.run tyOk 400 rfl ?_
      refine Exec.call rfl rfl (W_placement_Nodes x1 h2 hF) ?_
      rintro V9 _ hv9 ⟨a8, k8, rfl, h8⟩
      refine Exec.run tyOk 400 rfl ?_
      exact Exec.ret tyOk rfl rfl ⟨_, _, rfl, h8⟩
    · skip
      refine Exec.ifF rfl hb ?_
      refine Exec.run tyOk 400 rfl ?_
      obtain ⟨q7, hF⟩ := req_some hF
      obtain ⟨x8, hx8, hF⟩ := bnd_some hF
      refine Exec.bsV tyOk rfl rfl rfl rfl rfl (fun V9 a9 hv9 hd9 => ?_)
      have h9 : SlAt (cSl cStr) V9 (some a9) 1 ([x3.Writes] : List (List Str)) := RowRep.slat (c := (cSl cStr)) (V := V9) (cs := [.slice a5 ((x3.Writes).length) (k5)]) ⟨_, _, rfl, ⟨_, _, rfl, (SlAt.mono h5 hv9)⟩, rfl⟩ (VLe.refl _) (fun _ => hd9) (by simp)
      have h10 := SlAt.mono h2 hv9
      refine Exec.run tyOk 400 rfl ?_
      refine Exec.call rfl rfl (X_owners x1 [x3.Writes] h10 h9 (by simp) (by simp; omega) hx8) ?_
      rintro V11 v11 hv11 h11
      refine Exec.run tyOk 400 rfl ?_
      refine Exec.call rfl rfl (X_different h11 (by have := ownerAll_len hx8; simp at this; omega)) ?_
      rintro V12 _ hv12 ⟨a12, k12, rfl, h12⟩
      refine Exec.run tyOk 400 rfl ?_
      obtain rfl := some_inj hF
      exact Exec.ret tyOk rfl rfl ⟨_, _, rfl, h12⟩

end

def F_clockworkref30_Active (x1 : TPlacement) (x3 : TFootprint) : Option (List Int) :=
  (bnd (F_clockworkref30_valid x1 x3) fun x6 => (cond (!x6) (some ([] : List Int)) (cond x3.All (bnd (F_clockworkref29_Nodes x1) fun x7 => (some x7)) (bnd (F_clockworkref30_owners x1 x3.Writes) fun x13 => (some x13)))))

set_option maxRecDepth 100000 in
theorem W_clockworkref30_Active {V : View} (x1 : TPlacement) (x3 : TFootprint) {a2 : Option Addr} {k2 : Nat} {a4 : Option Addr} {k4 : Nat} {a5 : Option Addr} {k5 : Nat} (h2 : SlAt cTPart V a2 k2 x1.Parts) (h4 : SlAt cStr V a4 k4 x3.Reads) (h5 : SlAt cStr V a5 k5 x3.Writes) {r : List Int} (hF : F_clockworkref30_Active x1 x3 = some r) :
    Spec Try.prog 12 [.agg ⟨[.int .i64 (x1.Version), .slice a2 ((x1.Parts).length) (k2)]⟩, .agg ⟨[.bool (x3.All), .slice a4 ((x3.Reads).length) (k4), .slice a5 ((x3.Writes).length) (k5)]⟩] V (fun V' v => ∃ (a19 : Option Addr) (k19 : Nat), v = .slice a19 ((r).length) (k19) ∧ SlAt (cInt .i64) V' a19 k19 r) := by
  unfold F_clockworkref30_Active at hF
  refine Spec.enter (T := tyT) Try.func12 rfl (by kernel_rfl) rfl rfl rfl ?_
  refine Exec.run tyOk 400 rfl ?_
  obtain ⟨x6, hx6, hF⟩ := bnd_some hF
  refine Exec.callS (.bool (x6)) rfl rfl (W_clockworkref30_valid x1 x3 h2 h4 h5 hx6) ?_
  refine Exec.run tyOk 400 rfl ?_
  rcases cond_some hF with ⟨hb, hF⟩ | ⟨hb, hF⟩
  · skip
    refine Exec.ifT rfl hb ?_
    refine Exec.run tyOk 400 rfl ?_
    obtain rfl := some_inj hF
    exact Exec.ret tyOk rfl rfl ⟨_, _, rfl, SlAt.nil⟩
  · skip
    refine Exec.ifF rfl hb ?_
    refine Exec.run tyOk 400 rfl ?_
    rcases cond_some hF with ⟨hb, hF⟩ | ⟨hb, hF⟩
    · skip
      refine Exec.ifT rfl hb ?_
      refine Exec.run tyOk 400 rfl ?_
      obtain ⟨x7, hx7, hF⟩ := bnd_some hF
      refine Exec.call rfl rfl (W_clockworkref29_Nodes x1 h2 hx7) ?_
      rintro V9 _ hv9 ⟨a8, k8, rfl, h8⟩
      have h10 := SlAt.mono h2 hv9
      have h11 := SlAt.mono h4 hv9
      have h12 := SlAt.mono h5 hv9
      refine Exec.run tyOk 400 rfl ?_
      obtain rfl := some_inj hF
      exact Exec.ret tyOk rfl rfl ⟨_, _, rfl, h8⟩
    · skip
      refine Exec.ifF rfl hb ?_
      refine Exec.run tyOk 400 rfl ?_
      obtain ⟨x13, hx13, hF⟩ := bnd_some hF
      refine Exec.call rfl rfl (W_clockworkref30_owners x1 x3.Writes h2 h5 hx13) ?_
      rintro V15 _ hv15 ⟨a14, k14, rfl, h14⟩
      have h16 := SlAt.mono h2 hv15
      have h17 := SlAt.mono h4 hv15
      have h18 := SlAt.mono h5 hv15
      refine Exec.run tyOk 400 rfl ?_
      obtain rfl := some_inj hF
      exact Exec.ret tyOk rfl rfl ⟨_, _, rfl, h14⟩

def F_route_Executors (x1 : TPlacement) (x3 : TFootprint) : Option (List Int) :=
  (bnd (F_route_valid x1 x3) fun x6 => (cond (!x6) (some ([] : List Int)) (bnd (F_route_Active x1 x3) fun x7 => (cond (decide ((0 : Int) < (((x7).length : Nat) : Int))) (some x7) (bnd (F_route_Nodes x1 x3) fun x13 => (cond (decide ((0 : Int) < (((x13).length : Nat) : Int))) (req (0 ≤ (0 : Int) ∧ (0 : Int) ≤ (1 : Int) ∧ (1 : Int) ≤ (1 : Int) ∧ (1 : Int) ≤ ((x13).length : Int)) (some ((x13.take ((1 : Int)).toNat).drop ((0 : Int)).toNat))) (req (0 ≤ (0 : Int) ∧ (0 : Int) < ((x1.Parts).length : Int)) (some ([(atI x1.Parts ((0 : Int))).Node] : List Int)))))))))

set_option maxRecDepth 100000 in
theorem W_route_Executors {V : View} (x1 : TPlacement) (x3 : TFootprint) {a2 : Option Addr} {k2 : Nat} {a4 : Option Addr} {k4 : Nat} {a5 : Option Addr} {k5 : Nat} (h2 : SlAt cTPart V a2 k2 x1.Parts) (h4 : SlAt cStr V a4 k4 x3.Reads) (h5 : SlAt cStr V a5 k5 x3.Writes) {r : List Int} (hF : F_route_Executors x1 x3 = some r) :
    Spec Try.prog 13 [.agg ⟨[.int .i64 (x1.Version), .slice a2 ((x1.Parts).length) (k2)]⟩, .agg ⟨[.bool (x3.All), .slice a4 ((x3.Reads).length) (k4), .slice a5 ((x3.Writes).length) (k5)]⟩] V (fun V' v => ∃ (a31 : Option Addr) (k31 : Nat), v = .slice a31 ((r).length) (k31) ∧ SlAt (cInt .i64) V' a31 k31 r) := by
  unfold F_route_Executors at hF
  refine Spec.enter (T := tyT) Try.func13 rfl (by kernel_rfl) rfl rfl rfl ?_
  refine Exec.run tyOk 400 rfl ?_
  obtain ⟨x6, hx6, hF⟩ := bnd_some hF
  refine Exec.callS (.bool (x6)) rfl rfl (W_route_valid x1 x3 h2 h4 h5 hx6) ?_
  refine Exec.run tyOk 400 rfl ?_
  rcases cond_some hF with ⟨hb, hF⟩ | ⟨hb, hF⟩
  · skip
    refine Exec.ifT rfl hb ?_
    refine Exec.run tyOk 400 rfl ?_
    obtain rfl := some_inj hF
    exact Exec.ret tyOk rfl rfl ⟨_, _, rfl, SlAt.nil⟩
  · skip
    refine Exec.ifF rfl hb ?_
    refine Exec.run tyOk 400 rfl ?_
    obtain ⟨x7, hx7, hF⟩ := bnd_some hF
    refine Exec.call rfl rfl (W_route_Active x1 x3 h2 h4 h5 hx7) ?_
    rintro V9 _ hv9 ⟨a8, k8, rfl, h8⟩
    have h10 := SlAt.mono h2 hv9
    have h11 := SlAt.mono h4 hv9
    have h12 := SlAt.mono h5 hv9
    refine Exec.run tyOk 400 rfl ?_
    rcases cond_some hF with ⟨hb, hF⟩ | ⟨hb, hF⟩
    · skip
      refine Exec.ifT rfl hb ?_
      refine Exec.run tyOk 400 rfl ?_
      obtain rfl := some_inj hF
      exact Exec.ret tyOk rfl rfl ⟨_, _, rfl, h8⟩
    · skip
      refine Exec.ifF rfl hb ?_
      refine Exec.run tyOk 400 rfl ?_
      obtain ⟨x13, hx13, hF⟩ := bnd_some hF
      refine Exec.call rfl rfl (W_route_Nodes x1 x3 h10 h11 h12 hx13) ?_
      rintro V15 _ hv15 ⟨a14, k14, rfl, h14⟩
      have h16 := SlAt.mono h10 hv15
      have h17 := SlAt.mono h11 hv15
      have h18 := SlAt.mono h12 hv15
      have h19 := SlAt.mono h8 hv15
      refine Exec.run tyOk 400 rfl ?_
      rcases cond_some hF with ⟨hb, hF⟩ | ⟨hb, hF⟩
      · skip
        refine Exec.ifT rfl hb ?_
        refine Exec.run tyOk 400 rfl ?_
        obtain ⟨q20, hF⟩ := req_some hF
        refine Exec.slv3 tyOk (c := (cInt .i64)) rfl rfl rfl rfl rfl rfl rfl (lo' := (0 : Int)) rfl h14 rfl q20 (fun a21 k21 h21 => ?_)
        refine Exec.run tyOk 400 rfl ?_
        obtain rfl := some_inj hF
        exact Exec.ret tyOk rfl rfl ⟨_, _, rfl, h21⟩
      · skip
        refine Exec.ifF rfl hb ?_
        refine Exec.run tyOk 400 rfl ?_
        obtain ⟨q22, hF⟩ := req_some hF
        obtain ⟨c23, hr23, hd23⟩ := SlAt.get h16 q22
        obtain rfl := hr23
        refine Exec.ia tyOk rfl rfl ⟨q22.1, q22.2, hd23.some⟩ ?_
        refine Exec.run tyOk 400 rfl ?_
        refine Exec.ld tyOk (x := .int .i64 ((atI x1.Parts ((0 : Int))).Node)) rfl rfl (RdAt.part hd23 2 1 rfl) rfl rfl ?_
        refine Exec.run tyOk 400 rfl ?_
        refine Exec.bsV tyOk rfl rfl rfl rfl rfl (fun V24 a24 hv24 hd24 => ?_)
        have h25 := SlAt.mono h16 hv24
        have h26 := SlAt.mono h17 hv24
        have h27 := SlAt.mono h18 hv24
        have h28 := SlAt.mono h19 hv24
        have h29 := SlAt.mono h14 hv24
        have h24 : SlAt (cInt .i64) V24 (some a24) 1 ([(atI x1.Parts ((0 : Int))).Node] : List Int) := RowRep.slat (c := (cInt .i64)) (V := V24) (cs := [.int .i64 ((atI x1.Parts ((0 : Int))).Node)]) ⟨_, _, rfl, rfl, rfl⟩ (VLe.refl _) (fun _ => hd24) (by simp)
        refine Exec.run tyOk 400 rfl ?_
        obtain rfl := some_inj hF
        exact Exec.ret tyOk rfl rfl ⟨_, _, rfl, h24⟩

def F_clockworkref30_Executors (x1 : TPlacement) (x3 : TFootprint) : Option (List Int) :=
  (bnd (F_clockworkref30_valid x1 x3) fun x6 => (cond (!x6) (some ([] : List Int)) (bnd (F_clockworkref30_Active x1 x3) fun x7 => (cond (decide ((0 : Int) < (((x7).length : Nat) : Int))) (some x7) (bnd (F_clockworkref30_Nodes x1 x3) fun x13 => (cond (decide ((0 : Int) < (((x13).length : Nat) : Int))) (req (0 ≤ (0 : Int) ∧ (0 : Int) ≤ (1 : Int) ∧ (1 : Int) ≤ ((x13).length : Int)) (some ((x13.take ((1 : Int)).toNat).drop ((0 : Int)).toNat))) (req (0 ≤ (0 : Int) ∧ (0 : Int) < ((x1.Parts).length : Int)) (some ([(atI x1.Parts ((0 : Int))).Node] : List Int)))))))))

set_option maxRecDepth 100000 in
theorem W_clockworkref30_Executors {V : View} (x1 : TPlacement) (x3 : TFootprint) {a2 : Option Addr} {k2 : Nat} {a4 : Option Addr} {k4 : Nat} {a5 : Option Addr} {k5 : Nat} (h2 : SlAt cTPart V a2 k2 x1.Parts) (h4 : SlAt cStr V a4 k4 x3.Reads) (h5 : SlAt cStr V a5 k5 x3.Writes) {r : List Int} (hF : F_clockworkref30_Executors x1 x3 = some r) :
    Spec Try.prog 14 [.agg ⟨[.int .i64 (x1.Version), .slice a2 ((x1.Parts).length) (k2)]⟩, .agg ⟨[.bool (x3.All), .slice a4 ((x3.Reads).length) (k4), .slice a5 ((x3.Writes).length) (k5)]⟩] V (fun V' v => ∃ (a31 : Option Addr) (k31 : Nat), v = .slice a31 ((r).length) (k31) ∧ SlAt (cInt .i64) V' a31 k31 r) := by
  unfold F_clockworkref30_Executors at hF
  refine Spec.enter (T := tyT) Try.func14 rfl (by kernel_rfl) rfl rfl rfl ?_
  refine Exec.run tyOk 400 rfl ?_
  obtain ⟨x6, hx6, hF⟩ := bnd_some hF
  refine Exec.callS (.bool (x6)) rfl rfl (W_clockworkref30_valid x1 x3 h2 h4 h5 hx6) ?_
  refine Exec.run tyOk 400 rfl ?_
  rcases cond_some hF with ⟨hb, hF⟩ | ⟨hb, hF⟩
  · skip
    refine Exec.ifT rfl hb ?_
    refine Exec.run tyOk 400 rfl ?_
    obtain rfl := some_inj hF
    exact Exec.ret tyOk rfl rfl ⟨_, _, rfl, SlAt.nil⟩
  · skip
    refine Exec.ifF rfl hb ?_
    refine Exec.run tyOk 400 rfl ?_
    obtain ⟨x7, hx7, hF⟩ := bnd_some hF
    refine Exec.call rfl rfl (W_clockworkref30_Active x1 x3 h2 h4 h5 hx7) ?_
    rintro V9 _ hv9 ⟨a8, k8, rfl, h8⟩
    have h10 := SlAt.mono h2 hv9
    have h11 := SlAt.mono h4 hv9
    have h12 := SlAt.mono h5 hv9
    refine Exec.run tyOk 400 rfl ?_
    rcases cond_some hF with ⟨hb, hF⟩ | ⟨hb, hF⟩
    · skip
      refine Exec.ifT rfl hb ?_
      refine Exec.run tyOk 400 rfl ?_
      obtain rfl := some_inj hF
      exact Exec.ret tyOk rfl rfl ⟨_, _, rfl, h8⟩
    · skip
      refine Exec.ifF rfl hb ?_
      refine Exec.run tyOk 400 rfl ?_
      obtain ⟨x13, hx13, hF⟩ := bnd_some hF
      refine Exec.call rfl rfl (W_clockworkref30_Nodes x1 x3 h10 h11 h12 hx13) ?_
      rintro V15 _ hv15 ⟨a14, k14, rfl, h14⟩
      have h16 := SlAt.mono h10 hv15
      have h17 := SlAt.mono h11 hv15
      have h18 := SlAt.mono h12 hv15
      have h19 := SlAt.mono h8 hv15
      refine Exec.run tyOk 400 rfl ?_
      rcases cond_some hF with ⟨hb, hF⟩ | ⟨hb, hF⟩
      · skip
        refine Exec.ifT rfl hb ?_
        refine Exec.run tyOk 400 rfl ?_
        obtain ⟨q20, hF⟩ := req_some hF
        refine Exec.slv tyOk (c := (cInt .i64)) rfl rfl (lo := (0 : Int)) (hi := (1 : Int)) rfl rfl h14 (by simp) rfl q20 (fun a21 k21 h21 => ?_)
        refine Exec.run tyOk 400 rfl ?_
        obtain rfl := some_inj hF
        exact Exec.ret tyOk rfl rfl ⟨_, _, rfl, h21⟩
      · skip
        refine Exec.ifF rfl hb ?_
        refine Exec.run tyOk 400 rfl ?_
        obtain ⟨q22, hF⟩ := req_some hF
        obtain ⟨c23, hr23, hd23⟩ := SlAt.get h16 q22
        obtain rfl := hr23
        refine Exec.ia tyOk rfl rfl ⟨q22.1, q22.2, hd23.some⟩ ?_
        refine Exec.run tyOk 400 rfl ?_
        refine Exec.ld tyOk (x := .int .i64 ((atI x1.Parts ((0 : Int))).Node)) rfl rfl (RdAt.part hd23 2 1 rfl) rfl rfl ?_
        refine Exec.run tyOk 400 rfl ?_
        refine Exec.bsV tyOk rfl rfl rfl rfl rfl (fun V24 a24 hv24 hd24 => ?_)
        have h25 := SlAt.mono h16 hv24
        have h26 := SlAt.mono h17 hv24
        have h27 := SlAt.mono h18 hv24
        have h28 := SlAt.mono h19 hv24
        have h29 := SlAt.mono h14 hv24
        have h24 : SlAt (cInt .i64) V24 (some a24) 1 ([(atI x1.Parts ((0 : Int))).Node] : List Int) := RowRep.slat (c := (cInt .i64)) (V := V24) (cs := [.int .i64 ((atI x1.Parts ((0 : Int))).Node)]) ⟨_, _, rfl, rfl, rfl⟩ (VLe.refl _) (fun _ => hd24) (by simp)
        refine Exec.run tyOk 400 rfl ?_
        obtain rfl := some_inj hF
        exact Exec.ret tyOk rfl rfl ⟨_, _, rfl, h24⟩

def F_route_Local (x1 : TPlacement) (x3 : TFootprint) : Option Bool :=
  (bnd (F_route_valid x1 x3) fun x6 => (bnd (gcall ((x6) == true) (F_route_Nodes x1 x3)) fun x7 => (some (x6 && (decide ((((x7).length : Nat) : Int) ≤ (1 : Int)))))))

set_option maxRecDepth 100000 in
theorem W_route_Local {V : View} (x1 : TPlacement) (x3 : TFootprint) {a2 : Option Addr} {k2 : Nat} {a4 : Option Addr} {k4 : Nat} {a5 : Option Addr} {k5 : Nat} (h2 : SlAt cTPart V a2 k2 x1.Parts) (h4 : SlAt cStr V a4 k4 x3.Reads) (h5 : SlAt cStr V a5 k5 x3.Writes) {r : Bool} (hF : F_route_Local x1 x3 = some r) :
    Spec Try.prog 15 [.agg ⟨[.int .i64 (x1.Version), .slice a2 ((x1.Parts).length) (k2)]⟩, .agg ⟨[.bool (x3.All), .slice a4 ((x3.Reads).length) (k4), .slice a5 ((x3.Writes).length) (k5)]⟩] V (fun _ v => v = .bool (r)) := by
  unfold F_route_Local at hF
  refine Spec.enter (T := tyT) Try.func15 rfl (by kernel_rfl) rfl rfl rfl ?_
  refine Exec.run tyOk 400 rfl ?_
  obtain ⟨x6, hx6, hF⟩ := bnd_some hF
  refine Exec.callS (.bool (x6)) rfl rfl (W_route_valid x1 x3 h2 h4 h5 hx6) ?_
  refine Exec.run tyOk 400 rfl ?_
  obtain ⟨x7, hx7, hF⟩ := bnd_some hF
  refine Exec.callG (fun y : Option Addr × Nat => .slice y.1 ((x7).length) (y.2)) (none, 0) (R := fun V' y => SlAt (cInt .i64) V' y.1 y.2 x7) rfl rfl rfl (fun gg0 => (W_route_Nodes x1 x3 h2 h4 h5 (gcall_some hx7 (gd1_of gg0))).mono (fun V' _ _ ⟨a8, k8, e1, h8⟩ => ⟨⟨a8, k8⟩, e1, h8⟩)) ?_
  rintro V9 ⟨a8, k8⟩ hv9 hg9
  have h8 : SlAt (cInt .i64) V9 a8 k8 x7 := gslat1 hx7 (fun gg0 => (hg9 gg0))
  have h10 := SlAt.mono h2 hv9
  have h11 := SlAt.mono h4 hv9
  have h12 := SlAt.mono h5 hv9
  refine Exec.run tyOk 400 rfl ?_
  obtain rfl := some_inj hF
  exact Exec.ret tyOk rfl rfl rfl

def F_clockworkref30_Local (x1 : TPlacement) (x3 : TFootprint) : Option Bool :=
  (bnd (F_clockworkref30_valid x1 x3) fun x6 => (bnd (gcall ((x6) == true) (F_clockworkref30_Nodes x1 x3)) fun x7 => (some (x6 && (decide ((((x7).length : Nat) : Int) ≤ (1 : Int)))))))

set_option maxRecDepth 100000 in
theorem W_clockworkref30_Local {V : View} (x1 : TPlacement) (x3 : TFootprint) {a2 : Option Addr} {k2 : Nat} {a4 : Option Addr} {k4 : Nat} {a5 : Option Addr} {k5 : Nat} (h2 : SlAt cTPart V a2 k2 x1.Parts) (h4 : SlAt cStr V a4 k4 x3.Reads) (h5 : SlAt cStr V a5 k5 x3.Writes) {r : Bool} (hF : F_clockworkref30_Local x1 x3 = some r) :
    Spec Try.prog 16 [.agg ⟨[.int .i64 (x1.Version), .slice a2 ((x1.Parts).length) (k2)]⟩, .agg ⟨[.bool (x3.All), .slice a4 ((x3.Reads).length) (k4), .slice a5 ((x3.Writes).length) (k5)]⟩] V (fun _ v => v = .bool (r)) := by
  unfold F_clockworkref30_Local at hF
  refine Spec.enter (T := tyT) Try.func16 rfl (by kernel_rfl) rfl rfl rfl ?_
  refine Exec.run tyOk 400 rfl ?_
  obtain ⟨x6, hx6, hF⟩ := bnd_some hF
  refine Exec.callS (.bool (x6)) rfl rfl (W_clockworkref30_valid x1 x3 h2 h4 h5 hx6) ?_
  refine Exec.run tyOk 400 rfl ?_
  obtain ⟨x7, hx7, hF⟩ := bnd_some hF
  refine Exec.callG (fun y : Option Addr × Nat => .slice y.1 ((x7).length) (y.2)) (none, 0) (R := fun V' y => SlAt (cInt .i64) V' y.1 y.2 x7) rfl rfl rfl (fun gg0 => (W_clockworkref30_Nodes x1 x3 h2 h4 h5 (gcall_some hx7 (gd1_of gg0))).mono (fun V' _ _ ⟨a8, k8, e1, h8⟩ => ⟨⟨a8, k8⟩, e1, h8⟩)) ?_
  rintro V9 ⟨a8, k8⟩ hv9 hg9
  have h8 : SlAt (cInt .i64) V9 a8 k8 x7 := gslat1 hx7 (fun gg0 => (hg9 gg0))
  have h10 := SlAt.mono h2 hv9
  have h11 := SlAt.mono h4 hv9
  have h12 := SlAt.mono h5 hv9
  refine Exec.run tyOk 400 rfl ?_
  obtain rfl := some_inj hF
  exact Exec.ret tyOk rfl rfl rfl

def F_clockworklaw30_examples  : Option Bool :=
  (bnd (F_route_Nodes ((⟨(1 : Int), ([(⟨(1 : Int), [], (1 : Int), 0, []⟩ : TPart), (⟨(2 : Int), ([109] : Str), (2 : Int), 0, []⟩ : TPart)] : List TPart)⟩ : TPlacement)) ((⟨false, ([([98] : Str)] : List Str), ([([120] : Str)] : List Str)⟩ : TFootprint))) fun x7 => (bnd (F_clockworklaw30_sameInts x7 (([(1 : Int), (2 : Int)] : List Int))) fun x18 => (bnd (gcall ((x18) == true) (F_route_Executors ((⟨(1 : Int), ([(⟨(1 : Int), [], (1 : Int), 0, []⟩ : TPart), (⟨(2 : Int), ([109] : Str), (2 : Int), 0, []⟩ : TPart)] : List TPart)⟩ : TPlacement)) ((⟨false, ([([98] : Str)] : List Str), ([([120] : Str)] : List Str)⟩ : TFootprint)))) fun x19 => (bnd (gcall ((x18) == true) (F_clockworklaw30_sameInts x19 (([(2 : Int)] : List Int)))) fun x34 => (bnd (gcall (((x18 && x34)) == true) (F_route_Nodes ((⟨(1 : Int), ([(⟨(1 : Int), [], (1 : Int), 0, []⟩ : TPart), (⟨(2 : Int), ([109] : Str), (2 : Int), 0, []⟩ : TPart)] : List TPart)⟩ : TPlacement)) ((⟨false, ([] : List Str), ([] : List Str)⟩ : TFootprint)))) fun x35 => (bnd (gcall ((((x18 && x34) && ((((x35).length : Nat) : Int) == (0 : Int)))) == true) (F_route_Executors ((⟨(1 : Int), ([(⟨(1 : Int), [], (1 : Int), 0, []⟩ : TPart), (⟨(2 : Int), ([109] : Str), (2 : Int), 0, []⟩ : TPart)] : List TPart)⟩ : TPlacement)) ((⟨false, ([] : List Str), ([] : List Str)⟩ : TFootprint)))) fun x45 => (bnd (gcall ((((x18 && x34) && ((((x35).length : Nat) : Int) == (0 : Int)))) == true) (F_clockworklaw30_sameInts x45 (([(1 : Int)] : List Int)))) fun x66 => (bnd (gcall (((((x18 && x34) && ((((x35).length : Nat) : Int) == (0 : Int))) && x66)) == true) (F_route_Local ((⟨(1 : Int), ([(⟨(1 : Int), [], (1 : Int), 0, []⟩ : TPart), (⟨(2 : Int), ([109] : Str), (2 : Int), 0, []⟩ : TPart)] : List TPart)⟩ : TPlacement)) ((⟨false, ([([98] : Str)] : List Str), ([([120] : Str)] : List Str)⟩ : TFootprint)))) fun x67 => (some ((((x18 && x34) && ((((x35).length : Nat) : Int) == (0 : Int))) && x66) && (!x67)))))))))))

set_option maxRecDepth 100000 in
theorem W_clockworklaw30_examples {V : View}    {r : Bool} (hF : F_clockworklaw30_examples  = some r) :
    Spec Try.prog 17 [] V (fun _ v => v = .bool (r)) := by
  unfold F_clockworklaw30_examples at hF
  refine Spec.enter (T := tyT) Try.func17 rfl (by kernel_rfl) rfl rfl rfl ?_
  refine Exec.run tyOk 400 rfl ?_
  refine Exec.bsV tyOk rfl rfl rfl rfl rfl (fun V1 a1 hv1 hd1 => ?_)
  have h1 : SlAt cTPart V1 (some a1) 2 ([(⟨(1 : Int), [], (1 : Int), 0, []⟩ : TPart), (⟨(2 : Int), ([109] : Str), (2 : Int), 0, []⟩ : TPart)] : List TPart) := RowRep.slat (c := cTPart) (V := V1) (cs := [.int .i64 ((1 : Int)), .string ⟨⟨[]⟩⟩, .int .i64 ((1 : Int)), .int .i64 (0), .string ⟨⟨[]⟩⟩, .int .i64 ((2 : Int)), .string ⟨⟨([109] : Str)⟩⟩, .int .i64 ((2 : Int)), .int .i64 (0), .string ⟨⟨[]⟩⟩]) ⟨_, _, rfl, rfl, ⟨_, _, rfl, rfl, rfl⟩⟩ (VLe.refl _) (fun _ => hd1) (by simp)
  refine Exec.run tyOk 400 rfl ?_
  refine Exec.bsV tyOk rfl rfl rfl rfl rfl (fun V2 a2 hv2 hd2 => ?_)
  have h3 := SlAt.mono h1 hv2
  have h2 : SlAt cStr V2 (some a2) 1 ([([98] : Str)] : List Str) := RowRep.slat (c := cStr) (V := V2) (cs := [.string ⟨⟨([98] : Str)⟩⟩]) ⟨_, _, rfl, rfl, rfl⟩ (VLe.refl _) (fun _ => hd2) (by simp)
  refine Exec.run tyOk 400 rfl ?_
  refine Exec.bsV tyOk rfl rfl rfl rfl rfl (fun V4 a4 hv4 hd4 => ?_)
  have h5 := SlAt.mono h3 hv4
  have h6 := SlAt.mono h2 hv4
  have h4 : SlAt cStr V4 (some a4) 1 ([([120] : Str)] : List Str) := RowRep.slat (c := cStr) (V := V4) (cs := [.string ⟨⟨([120] : Str)⟩⟩]) ⟨_, _, rfl, rfl, rfl⟩ (VLe.refl _) (fun _ => hd4) (by simp)
  refine Exec.run tyOk 400 rfl ?_
  obtain ⟨x7, hx7, hF⟩ := bnd_some hF
  refine Exec.call rfl rfl (W_route_Nodes ((⟨(1 : Int), ([(⟨(1 : Int), [], (1 : Int), 0, []⟩ : TPart), (⟨(2 : Int), ([109] : Str), (2 : Int), 0, []⟩ : TPart)] : List TPart)⟩ : TPlacement)) ((⟨false, ([([98] : Str)] : List Str), ([([120] : Str)] : List Str)⟩ : TFootprint)) h5 h6 h4 hx7) ?_
  rintro V9 _ hv9 ⟨a8, k8, rfl, h8⟩
  have h10 := SlAt.mono h5 hv9
  have h11 := SlAt.mono h6 hv9
  have h12 := SlAt.mono h4 hv9
  refine Exec.run tyOk 400 rfl ?_
  refine Exec.bsV tyOk rfl rfl rfl rfl rfl (fun V13 a13 hv13 hd13 => ?_)
  have h14 := SlAt.mono h10 hv13
  have h15 := SlAt.mono h11 hv13
  have h16 := SlAt.mono h12 hv13
  have h17 := SlAt.mono h8 hv13
  have h13 : SlAt (cInt .i64) V13 (some a13) 2 ([(1 : Int), (2 : Int)] : List Int) := RowRep.slat (c := (cInt .i64)) (V := V13) (cs := [.int .i64 ((1 : Int)), .int .i64 ((2 : Int))]) ⟨_, _, rfl, rfl, ⟨_, _, rfl, rfl, rfl⟩⟩ (VLe.refl _) (fun _ => hd13) (by simp)
  refine Exec.run tyOk 400 rfl ?_
  obtain ⟨x18, hx18, hF⟩ := bnd_some hF
  refine Exec.callS (.bool (x18)) rfl rfl (W_clockworklaw30_sameInts x7 (([(1 : Int), (2 : Int)] : List Int)) h17 h13 hx18) ?_
  refine Exec.run tyOk 400 rfl ?_
  obtain ⟨x19, hx19, hF⟩ := bnd_some hF
  refine Exec.callG (fun y : Option Addr × Nat => .slice y.1 ((x19).length) (y.2)) (none, 0) (R := fun V' y => SlAt (cInt .i64) V' y.1 y.2 x19) rfl rfl rfl (fun gg0 => (W_route_Executors ((⟨(1 : Int), ([(⟨(1 : Int), [], (1 : Int), 0, []⟩ : TPart), (⟨(2 : Int), ([109] : Str), (2 : Int), 0, []⟩ : TPart)] : List TPart)⟩ : TPlacement)) ((⟨false, ([([98] : Str)] : List Str), ([([120] : Str)] : List Str)⟩ : TFootprint)) h14 h15 h16 (gcall_some hx19 (gd1_of gg0))).mono (fun V' _ _ ⟨a20, k20, e1, h20⟩ => ⟨⟨a20, k20⟩, e1, h20⟩)) ?_
  rintro V21 ⟨a20, k20⟩ hv21 hg21
  have h20 : SlAt (cInt .i64) V21 a20 k20 x19 := gslat1 hx19 (fun gg0 => (hg21 gg0))
  have h22 := SlAt.mono h14 hv21
  have h23 := SlAt.mono h15 hv21
  have h24 := SlAt.mono h16 hv21
  have h25 := SlAt.mono h17 hv21
  have h26 := SlAt.mono h13 hv21
  refine Exec.run tyOk 400 rfl ?_
  refine Exec.gbsV tyOk rfl rfl rfl rfl (fun V27 a27 hv27 hg27 => ?_) rfl
  have h28 := SlAt.mono h22 hv27
  have h29 := SlAt.mono h23 hv27
  have h30 := SlAt.mono h24 hv27
  have h31 := SlAt.mono h25 hv27
  have h32 := SlAt.mono h26 hv27
  have h33 := SlAt.mono h20 hv27
  have h27 : (x18) = true → SlAt (cInt .i64) V27 ((some a27)) 1 (([(2 : Int)] : List Int)) := fun gg0 => RowRep.slat (c := (cInt .i64)) (V := V27) (cs := [.int .i64 ((2 : Int))]) ⟨_, _, rfl, rfl, rfl⟩ (VLe.refl _) (fun _ => hg27 gg0) (by simp)
  refine Exec.run tyOk 400 rfl ?_
  obtain ⟨x34, hx34, hF⟩ := bnd_some hF
  refine Exec.callS (.bool (x34)) rfl rfl (fun gg0 => W_clockworklaw30_sameInts x19 (([(2 : Int)] : List Int)) h33 (h27 gg0) (gcall_some hx34 (gd1_of gg0))) ?_
  refine Exec.run tyOk 400 rfl ?_
  obtain ⟨x35, hx35, hF⟩ := bnd_some hF
  refine Exec.callG (fun y : Option Addr × Nat => .slice y.1 ((x35).length) (y.2)) (none, 0) (R := fun V' y => SlAt (cInt .i64) V' y.1 y.2 x35) rfl rfl rfl (fun gg0 => (W_route_Nodes ((⟨(1 : Int), ([(⟨(1 : Int), [], (1 : Int), 0, []⟩ : TPart), (⟨(2 : Int), ([109] : Str), (2 : Int), 0, []⟩ : TPart)] : List TPart)⟩ : TPlacement)) ((⟨false, ([] : List Str), ([] : List Str)⟩ : TFootprint)) h28 SlAt.nil SlAt.nil (gcall_some hx35 (gd1_of gg0))).mono (fun V' _ _ ⟨a36, k36, e1, h36⟩ => ⟨⟨a36, k36⟩, e1, h36⟩)) ?_
  rintro V37 ⟨a36, k36⟩ hv37 hg37
  have h36 : SlAt (cInt .i64) V37 a36 k36 x35 := gslat1 hx35 (fun gg0 => (hg37 gg0))
  have h38 := SlAt.mono h28 hv37
  have h39 := SlAt.mono h29 hv37
  have h40 := SlAt.mono h30 hv37
  have h41 := SlAt.mono h31 hv37
  have h42 := SlAt.mono h32 hv37
  have h43 := SlAt.mono h33 hv37
  have h44 : (x18) = true → SlAt (cInt .i64) V37 ((some a27)) 1 (([(2 : Int)] : List Int)) := fun gg0 => SlAt.mono (h27 gg0) hv37
  refine Exec.run tyOk 400 rfl ?_
  obtain ⟨x45, hx45, hF⟩ := bnd_some hF
  refine Exec.callG (fun y : Option Addr × Nat => .slice y.1 ((x45).length) (y.2)) (none, 0) (R := fun V' y => SlAt (cInt .i64) V' y.1 y.2 x45) rfl rfl rfl (fun gg0 => (W_route_Executors ((⟨(1 : Int), ([(⟨(1 : Int), [], (1 : Int), 0, []⟩ : TPart), (⟨(2 : Int), ([109] : Str), (2 : Int), 0, []⟩ : TPart)] : List TPart)⟩ : TPlacement)) ((⟨false, ([] : List Str), ([] : List Str)⟩ : TFootprint)) h38 SlAt.nil SlAt.nil (gcall_some hx45 (gd1_of gg0))).mono (fun V' _ _ ⟨a46, k46, e1, h46⟩ => ⟨⟨a46, k46⟩, e1, h46⟩)) ?_
  rintro V47 ⟨a46, k46⟩ hv47 hg47
  have h46 : SlAt (cInt .i64) V47 a46 k46 x45 := gslat1 hx45 (fun gg0 => (hg47 gg0))
  have h48 := SlAt.mono h38 hv47
  have h49 := SlAt.mono h39 hv47
  have h50 := SlAt.mono h40 hv47
  have h51 := SlAt.mono h41 hv47
  have h52 := SlAt.mono h42 hv47
  have h53 := SlAt.mono h43 hv47
  have h54 : (x18) = true → SlAt (cInt .i64) V47 ((some a27)) 1 (([(2 : Int)] : List Int)) := fun gg0 => SlAt.mono (h44 gg0) hv47
  have h55 := SlAt.mono h36 hv47
  refine Exec.run tyOk 400 rfl ?_
  refine Exec.gbsV tyOk rfl rfl rfl rfl (fun V56 a56 hv56 hg56 => ?_) rfl
  have h57 := SlAt.mono h48 hv56
  have h58 := SlAt.mono h49 hv56
  have h59 := SlAt.mono h50 hv56
  have h60 := SlAt.mono h51 hv56
  have h61 := SlAt.mono h52 hv56
  have h62 := SlAt.mono h53 hv56
  have h63 : (x18) = true → SlAt (cInt .i64) V56 ((some a27)) 1 (([(2 : Int)] : List Int)) := fun gg0 => SlAt.mono (h54 gg0) hv56
  have h64 := SlAt.mono h55 hv56
  have h65 := SlAt.mono h46 hv56
  have h56 : (((x18 && x34) && ((((x35).length : Nat) : Int) == (0 : Int)))) = true → SlAt (cInt .i64) V56 ((some a56)) 1 (([(1 : Int)] : List Int)) := fun gg0 => RowRep.slat (c := (cInt .i64)) (V := V56) (cs := [.int .i64 ((1 : Int))]) ⟨_, _, rfl, rfl, rfl⟩ (VLe.refl _) (fun _ => hg56 gg0) (by simp)
  refine Exec.run tyOk 400 rfl ?_
  obtain ⟨x66, hx66, hF⟩ := bnd_some hF
  refine Exec.callS (.bool (x66)) rfl rfl (fun gg0 => W_clockworklaw30_sameInts x45 (([(1 : Int)] : List Int)) h65 (h56 gg0) (gcall_some hx66 (gd1_of gg0))) ?_
  refine Exec.run tyOk 400 rfl ?_
  obtain ⟨x67, hx67, hF⟩ := bnd_some hF
  refine Exec.callS (.bool (x67)) rfl rfl (fun gg0 => W_route_Local ((⟨(1 : Int), ([(⟨(1 : Int), [], (1 : Int), 0, []⟩ : TPart), (⟨(2 : Int), ([109] : Str), (2 : Int), 0, []⟩ : TPart)] : List TPart)⟩ : TPlacement)) ((⟨false, ([([98] : Str)] : List Str), ([([120] : Str)] : List Str)⟩ : TFootprint)) h57 h58 h59 (gcall_some hx67 (gd1_of gg0))) ?_
  refine Exec.run tyOk 400 rfl ?_
  obtain rfl := some_inj hF
  exact Exec.ret tyOk rfl rfl rfl

def F_route_Project (x1 : TPlacement) (x3 : TFootprint) (x6 : Int) : Option TFootprint :=
  (bnd (F_route_valid x1 x3) fun x7 => (cond (!x7) (some (⟨false, ([] : List Str), ([] : List Str)⟩ : TFootprint)) (cond x3.All (bnd (F_placement_Nodes x1) fun x8 => (bnd (F_slices_Contains_int_int x8 x6) fun x14 => (some (⟨x14, ([] : List Str), ([] : List Str)⟩ : TFootprint)))) (bnd (F_route_owned x1 x3.Reads x6) fun x15 => (bnd (F_route_owned x1 x3.Writes x6) fun x21 => (some (⟨false, x15, x21⟩ : TFootprint)))))))

set_option maxRecDepth 100000 in
theorem W_route_Project {V : View} (x1 : TPlacement) (x3 : TFootprint) (x6 : Int) {a2 : Option Addr} {k2 : Nat} {a4 : Option Addr} {k4 : Nat} {a5 : Option Addr} {k5 : Nat} (h2 : SlAt cTPart V a2 k2 x1.Parts) (h4 : SlAt cStr V a4 k4 x3.Reads) (h5 : SlAt cStr V a5 k5 x3.Writes) {r : TFootprint} (hF : F_route_Project x1 x3 x6 = some r) :
    Spec Try.prog 22 [.agg ⟨[.int .i64 (x1.Version), .slice a2 ((x1.Parts).length) (k2)]⟩, .agg ⟨[.bool (x3.All), .slice a4 ((x3.Reads).length) (k4), .slice a5 ((x3.Writes).length) (k5)]⟩, .int .i64 (x6)] V (fun V' v => ∃ (a28 : Option Addr) (k28 : Nat) (a29 : Option Addr) (k29 : Nat), v = .agg ⟨[.bool (r.All), .slice a28 ((r.Reads).length) (k28), .slice a29 ((r.Writes).length) (k29)]⟩ ∧ SlAt cStr V' a28 k28 r.Reads ∧ SlAt cStr V' a29 k29 r.Writes) := by
  unfold F_route_Project at hF
  refine Spec.enter (T := tyT) Try.func22 rfl (by kernel_rfl) rfl rfl rfl ?_
  refine Exec.run tyOk 400 rfl ?_
  obtain ⟨x7, hx7, hF⟩ := bnd_some hF
  refine Exec.callS (.bool (x7)) rfl rfl (W_route_valid x1 x3 h2 h4 h5 hx7) ?_
  refine Exec.run tyOk 400 rfl ?_
  rcases cond_some hF with ⟨hb, hF⟩ | ⟨hb, hF⟩
  · skip
    refine Exec.ifT rfl hb ?_
    refine Exec.run tyOk 400 rfl ?_
    obtain rfl := some_inj hF
    exact Exec.ret tyOk rfl rfl ⟨_, _, _, _, rfl, SlAt.nil, SlAt.nil⟩
  · skip
    refine Exec.ifF rfl hb ?_
    refine Exec.run tyOk 400 rfl ?_
    rcases cond_some hF with ⟨hb, hF⟩ | ⟨hb, hF⟩
    · skip
      refine Exec.ifT rfl hb ?_
      refine Exec.run tyOk 400 rfl ?_
      obtain ⟨x8, hx8, hF⟩ := bnd_some hF
      refine Exec.call rfl rfl (W_placement_Nodes x1 h2 hx8) ?_
      rintro V10 _ hv10 ⟨a9, k9, rfl, h9⟩
      have h11 := SlAt.mono h2 hv10
      have h12 := SlAt.mono h4 hv10
      have h13 := SlAt.mono h5 hv10
      refine Exec.run tyOk 400 rfl ?_
      obtain ⟨x14, hx14, hF⟩ := bnd_some hF
      refine Exec.callS (.bool (x14)) rfl rfl (W_slices_Contains_int_int x8 x6 h9 hx14) ?_
      refine Exec.run tyOk 400 rfl ?_
      obtain rfl := some_inj hF
      exact Exec.ret tyOk rfl rfl ⟨_, _, _, _, rfl, SlAt.nil, SlAt.nil⟩
    · skip
      refine Exec.ifF rfl hb ?_
      refine Exec.run tyOk 400 rfl ?_
      refine Exec.draws tyOk [(0, true), (1, true), (2, true), (3, true), (5, true), (6, true), (7, true), (8, true), (4, false), (9, false), (10, false), (11, false)] rfl (by kernel_rfl) ?_
      refine Exec.run tyOk 400 rfl ?_
      obtain ⟨x15, hx15, hF⟩ := bnd_some hF
      refine Exec.call rfl rfl (W_route_owned x1 x3.Reads x6 h2 h4 hx15) ?_
      rintro V17 _ hv17 ⟨a16, k16, rfl, h16⟩
      have h18 := SlAt.mono h2 hv17
      have h19 := SlAt.mono h4 hv17
      have h20 := SlAt.mono h5 hv17
      refine Exec.run tyOk 400 rfl ?_
      obtain ⟨x21, hx21, hF⟩ := bnd_some hF
      refine Exec.call rfl rfl (W_route_owned x1 x3.Writes x6 h18 h20 hx21) ?_
      rintro V23 _ hv23 ⟨a22, k22, rfl, h22⟩
      have h24 := SlAt.mono h18 hv23
      have h25 := SlAt.mono h19 hv23
      have h26 := SlAt.mono h20 hv23
      have h27 := SlAt.mono h16 hv23
      refine Exec.run tyOk 400 rfl ?_
      obtain rfl := some_inj hF
      exact Exec.ret tyOk rfl rfl ⟨_, _, _, _, rfl, h27, h22⟩

def F_clockworkref30_Project (x1 : TPlacement) (x3 : TFootprint) (x6 : Int) : Option TFootprint :=
  (bnd (F_clockworkref30_valid x1 x3) fun x7 => (cond (!x7) (some (⟨false, ([] : List Str), ([] : List Str)⟩ : TFootprint)) (cond x3.All (bnd (F_clockworkref29_Nodes x1) fun x8 => (bnd (F_clockworkref30_Has x8 x6) fun x14 => (some (⟨x14, ([] : List Str), ([] : List Str)⟩ : TFootprint)))) (bnd (F_clockworkref30_owned x1 x3.Reads x6) fun x15 => (bnd (F_clockworkref30_owned x1 x3.Writes x6) fun x21 => (some (⟨false, x15, x21⟩ : TFootprint)))))))

set_option maxRecDepth 100000 in
theorem W_clockworkref30_Project {V : View} (x1 : TPlacement) (x3 : TFootprint) (x6 : Int) {a2 : Option Addr} {k2 : Nat} {a4 : Option Addr} {k4 : Nat} {a5 : Option Addr} {k5 : Nat} (h2 : SlAt cTPart V a2 k2 x1.Parts) (h4 : SlAt cStr V a4 k4 x3.Reads) (h5 : SlAt cStr V a5 k5 x3.Writes) {r : TFootprint} (hF : F_clockworkref30_Project x1 x3 x6 = some r) :
    Spec Try.prog 23 [.agg ⟨[.int .i64 (x1.Version), .slice a2 ((x1.Parts).length) (k2)]⟩, .agg ⟨[.bool (x3.All), .slice a4 ((x3.Reads).length) (k4), .slice a5 ((x3.Writes).length) (k5)]⟩, .int .i64 (x6)] V (fun V' v => ∃ (a28 : Option Addr) (k28 : Nat) (a29 : Option Addr) (k29 : Nat), v = .agg ⟨[.bool (r.All), .slice a28 ((r.Reads).length) (k28), .slice a29 ((r.Writes).length) (k29)]⟩ ∧ SlAt cStr V' a28 k28 r.Reads ∧ SlAt cStr V' a29 k29 r.Writes) := by
  unfold F_clockworkref30_Project at hF
  refine Spec.enter (T := tyT) Try.func23 rfl (by kernel_rfl) rfl rfl rfl ?_
  refine Exec.run tyOk 400 rfl ?_
  obtain ⟨x7, hx7, hF⟩ := bnd_some hF
  refine Exec.callS (.bool (x7)) rfl rfl (W_clockworkref30_valid x1 x3 h2 h4 h5 hx7) ?_
  refine Exec.run tyOk 400 rfl ?_
  rcases cond_some hF with ⟨hb, hF⟩ | ⟨hb, hF⟩
  · skip
    refine Exec.ifT rfl hb ?_
    refine Exec.run tyOk 400 rfl ?_
    obtain rfl := some_inj hF
    exact Exec.ret tyOk rfl rfl ⟨_, _, _, _, rfl, SlAt.nil, SlAt.nil⟩
  · skip
    refine Exec.ifF rfl hb ?_
    refine Exec.run tyOk 400 rfl ?_
    rcases cond_some hF with ⟨hb, hF⟩ | ⟨hb, hF⟩
    · skip
      refine Exec.ifT rfl hb ?_
      refine Exec.run tyOk 400 rfl ?_
      obtain ⟨x8, hx8, hF⟩ := bnd_some hF
      refine Exec.call rfl rfl (W_clockworkref29_Nodes x1 h2 hx8) ?_
      rintro V10 _ hv10 ⟨a9, k9, rfl, h9⟩
      have h11 := SlAt.mono h2 hv10
      have h12 := SlAt.mono h4 hv10
      have h13 := SlAt.mono h5 hv10
      refine Exec.run tyOk 400 rfl ?_
      obtain ⟨x14, hx14, hF⟩ := bnd_some hF
      refine Exec.callS (.bool (x14)) rfl rfl (W_clockworkref30_Has x8 x6 h9 hx14) ?_
      refine Exec.run tyOk 400 rfl ?_
      obtain rfl := some_inj hF
      exact Exec.ret tyOk rfl rfl ⟨_, _, _, _, rfl, SlAt.nil, SlAt.nil⟩
    · skip
      refine Exec.ifF rfl hb ?_
      refine Exec.run tyOk 400 rfl ?_
      refine Exec.draws tyOk [(0, true), (1, true), (2, true), (3, true), (5, true), (6, true), (7, true), (8, true), (4, false), (9, false), (10, false), (11, false)] rfl (by kernel_rfl) ?_
      refine Exec.run tyOk 400 rfl ?_
      obtain ⟨x15, hx15, hF⟩ := bnd_some hF
      refine Exec.call rfl rfl (W_clockworkref30_owned x1 x3.Reads x6 h2 h4 hx15) ?_
      rintro V17 _ hv17 ⟨a16, k16, rfl, h16⟩
      have h18 := SlAt.mono h2 hv17
      have h19 := SlAt.mono h4 hv17
      have h20 := SlAt.mono h5 hv17
      refine Exec.run tyOk 400 rfl ?_
      obtain ⟨x21, hx21, hF⟩ := bnd_some hF
      refine Exec.call rfl rfl (W_clockworkref30_owned x1 x3.Writes x6 h18 h20 hx21) ?_
      rintro V23 _ hv23 ⟨a22, k22, rfl, h22⟩
      have h24 := SlAt.mono h18 hv23
      have h25 := SlAt.mono h19 hv23
      have h26 := SlAt.mono h20 hv23
      have h27 := SlAt.mono h16 hv23
      refine Exec.run tyOk 400 rfl ?_
      obtain rfl := some_inj hF
      exact Exec.ret tyOk rfl rfl ⟨_, _, _, _, rfl, h27, h22⟩

def F_footprint_Covers (x1 : TFootprint) (x4 : TFootprint) : Option Bool :=
  (bnd (F_footprint_Valid x1) fun x7 => (bnd (gcall (((!x7)) == false) (F_footprint_Valid x4)) fun x8 => (cond ((!x7) || (!x8)) (some false) (bnd (gcall ((((!x4.All)) == true) && ((x1.All) == false)) (F_footprint_within x1.Reads x4.Reads)) fun x9 => (bnd (gcall (((((!x4.All) && x9)) == true) && ((x1.All) == false)) (F_footprint_within x1.Writes x4.Writes)) fun x10 => (some (x1.All || (((!x4.All) && x9) && x10))))))))

set_option maxRecDepth 100000 in
theorem W_footprint_Covers {V : View} (x1 : TFootprint) (x4 : TFootprint) {a2 : Option Addr} {k2 : Nat} {a3 : Option Addr} {k3 : Nat} {a5 : Option Addr} {k5 : Nat} {a6 : Option Addr} {k6 : Nat} (h2 : SlAt cStr V a2 k2 x1.Reads) (h3 : SlAt cStr V a3 k3 x1.Writes) (h5 : SlAt cStr V a5 k5 x4.Reads) (h6 : SlAt cStr V a6 k6 x4.Writes) {r : Bool} (hF : F_footprint_Covers x1 x4 = some r) :
    Spec Try.prog 24 [.agg ⟨[.bool (x1.All), .slice a2 ((x1.Reads).length) (k2), .slice a3 ((x1.Writes).length) (k3)]⟩, .agg ⟨[.bool (x4.All), .slice a5 ((x4.Reads).length) (k5), .slice a6 ((x4.Writes).length) (k6)]⟩] V (fun _ v => v = .bool (r)) := by
  unfold F_footprint_Covers at hF
  refine Spec.enter (T := tyT) Try.func24 rfl (by kernel_rfl) rfl rfl rfl ?_
  refine Exec.run tyOk 400 rfl ?_
  obtain ⟨x7, hx7, hF⟩ := bnd_some hF
  refine Exec.callS (.bool (x7)) rfl rfl (W_footprint_Valid x1 h2 h3 hx7) ?_
  refine Exec.run tyOk 400 rfl ?_
  obtain ⟨x8, hx8, hF⟩ := bnd_some hF
  refine Exec.callS (.bool (x8)) rfl rfl (fun gg0 => W_footprint_Valid x4 h5 h6 (gcall_some hx8 (gd1_of gg0))) ?_
  refine Exec.run tyOk 400 rfl ?_
  rcases cond_some hF with ⟨hb, hF⟩ | ⟨hb, hF⟩
  · skip
    refine Exec.ifT rfl hb ?_
    refine Exec.run tyOk 400 rfl ?_
    obtain rfl := some_inj hF
    exact Exec.ret tyOk rfl rfl rfl
  · skip
    refine Exec.ifF rfl hb ?_
    refine Exec.run tyOk 400 rfl ?_
    obtain ⟨x9, hx9, hF⟩ := bnd_some hF
    refine Exec.callS (.bool (x9)) rfl rfl (fun gg0 gg1 => W_footprint_within x1.Reads x4.Reads h2 h5 (gcall_some hx9 (gd2_of gg0 gg1))) ?_
    refine Exec.run tyOk 400 rfl ?_
    obtain ⟨x10, hx10, hF⟩ := bnd_some hF
    refine Exec.callS (.bool (x10)) rfl rfl (fun gg0 gg1 => W_footprint_within x1.Writes x4.Writes h3 h6 (gcall_some hx10 (gd2_of gg0 gg1))) ?_
    refine Exec.run tyOk 400 rfl ?_
    obtain rfl := some_inj hF
    exact Exec.ret tyOk rfl rfl rfl

end Go.Proofs.Ytkbldnpifmjipaa
