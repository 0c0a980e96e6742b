/-
  Chapter 30, plain texts: the examples; the laws on nodes.
  Conditions: none.
-/
import Derived.Test.YtkbldnpifmjipaaVj
import Derived.Test.YtkbldnpifmjipaaOp
set_option linter.all false
namespace Go.Proofs.Ytkbldnpifmjipaa

def exP : TPlacement := ⟨(1 : Int), ([(⟨(1 : Int), [], (1 : Int), 0, []⟩ : TPart), (⟨(2 : Int), ([109] : Str), (2 : Int), 0, []⟩ : TPart)] : List TPart)⟩
def exF : TFootprint := ⟨false, ([([98] : Str)] : List Str), ([([120] : Str)] : List Str)⟩
def exG : TFootprint := ⟨false, ([] : List Str), ([] : List Str)⟩

theorem exP_ok : POk exP := ⟨by decide, by simp [exP, big]⟩
theorem exF_ok : FOk exF := ⟨by decide, by decide, by simp [exF, big], by simp [exF, big]⟩
theorem exG_ok : FOk exG := ⟨by decide, by decide, by simp [exG, big], by simp [exG, big]⟩

theorem examples_true : F_clockworklaw30_examples = some true := by
  have h : F_clockworklaw30_examples = (bnd (F_route_Nodes exP exF) fun x7 => (bnd (F_clockworklaw30_sameInts x7 (([(1 : Int), (2 : Int)] : List Int))) fun x18 => (bnd (gcall ((x18) == true) (F_route_Executors exP exF)) fun x19 => (bnd (gcall ((x18) == true) (F_clockworklaw30_sameInts x19 (([(2 : Int)] : List Int)))) fun x34 => (bnd (gcall (((x18 && x34)) == true) (F_route_Nodes exP exG)) fun x35 => (bnd (gcall ((((x18 && x34) && ((((x35).length : Nat) : Int) == (0 : Int)))) == true) (F_route_Executors exP exG)) fun x45 => (bnd (gcall ((((x18 && x34) && ((((x35).length : Nat) : Int) == (0 : Int)))) == true) (F_clockworklaw30_sameInts x45 (([(1 : Int)] : List Int)))) fun x66 => (bnd (gcall (((((x18 && x34) && ((((x35).length : Nat) : Int) == (0 : Int))) && x66)) == true) (F_route_Local exP exF)) fun x67 => (some ((((x18 && x34) && ((((x35).length : Nat) : Int) == (0 : Int))) && x66) && (!x67))))))))))) := rfl
  rw [h, nodes30_impl exP_ok exF_ok, exec30_impl exP_ok exF_ok, nodes30_impl exP_ok exG_ok, exec30_impl exP_ok exG_ok, local30_impl exP_ok exF_ok]
  have e1 : nodes30 exP exF = [1, 2] := by decide +kernel
  have e2 : exec30 exP exF = [2] := by decide +kernel
  have e3 : nodes30 exP exG = [] := by decide +kernel
  have e4 : exec30 exP exG = [1] := by decide +kernel
  have e5 : local30 exP exF = false := by decide +kernel
  rw [e1, e2, e3, e4, e5]
  rfl

theorem okP_facts {p : TPlacement} (h : okTPlacement p) : p.Parts.length < big ∧ ∀ x ∈ p.Parts, x.From.length < big ∧ x.Done.length < big := by
  obtain ⟨_, h1, h2⟩ := h
  have e : big = 9223372036854775808 := rfl
  refine ⟨by rw [e]; omega, fun x hx => ?_⟩
  obtain ⟨_, h3, _, _, h4⟩ := h2 x hx
  have h3 : x.From.length ≤ 9223372036854775807 := h3
  have h4 : x.Done.length ≤ 9223372036854775807 := h4
  rw [e]
  omega

theorem okP30 {x0 : TPlacement} (o0 : okTPlacement x0) : POk x0 := by
  obtain ⟨hl, hs⟩ := okP_facts o0
  exact ⟨hl, hs⟩

theorem okF30 {x0 : TFootprint} (o0 : okTFootprint x0) : FOk x0 := by
  obtain ⟨_, ⟨h1, h2⟩, ⟨h3, h4⟩⟩ := o0
  exact ⟨by omega, by omega, fun k hk => by have := h2 k hk; simp only [okS] at this; have e : big = 9223372036854775808 := rfl; omega, fun k hk => by have := h4 k hk; simp only [okS] at this; have e : big = 9223372036854775808 := rfl; omega⟩

theorem plain_RouteNodes (x0 : TPlacement) (x1 : TFootprint) (o0 : okTPlacement x0) (o1 : okTFootprint x1) : F_clockworklaw30_RouteNodes x0 x1 = some true := by
  have hp := okP30 o0
  have hf := okF30 o1
  have hb : ∀ n : Nat, n ≤ 17 → n < big := fun n h => by have e : big = 9223372036854775808 := rfl; omega
  unfold F_clockworklaw30_RouteNodes
  rw [nodes30_impl hp hf, nodes30_ref hp hf, active30_impl hp hf, active30_ref hp hf, exec30_impl hp hf, exec30_ref hp hf, local30_impl hp hf, local30_ref hp hf, examples_true]
  simp [bnd_mk, gcall_t, same_self30 (hb _ nodes30_len), same_self30 (hb _ active30_len), same_self30 (hb _ exec30_len), bnd, gcall]

end Go.Proofs.Ytkbldnpifmjipaa
