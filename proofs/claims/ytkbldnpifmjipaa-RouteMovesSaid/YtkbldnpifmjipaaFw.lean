/-
  A FRAMEWORK FOR PROOFS ABOUT CALLS (part w): regions whose order is drawn.
  Conditions: none here.
-/
import Derived.OrdersHeld
import Derived.Test.YtkbldnpifmjipaaFb
set_option linter.all false
namespace Go.Proofs.Ytkbldnpifmjipaa

/-- Whatever order is picked: a condition that may depend on what has come up holds behind every operation. -/
def wpAnyG (P : Program) (ops : Array Oper) (Q : Exit → Act → World → Prop) (S : Array Bool → World → Prop) : Nat → Array Bool → Act → World → Prop
  | 0, listed, a, w => Region.ready .any ops listed = [] ∧ Q .normal a w
  | fuel + 1, listed, a, w =>
    (Region.ready .any ops listed = [] → Q .normal a w) ∧
    ∀ i ∈ Region.ready .any ops listed, wpOp P ops Q i (fun a' w' => S (listed.setIfInBounds i true) w' ∧ wpAnyG P ops Q S fuel (listed.setIfInBounds i true) a' w') a w

theorem wpAny_of_G {P : Program} {ops : Array Oper} {Q : Exit → Act → World → Prop} {S : Array Bool → World → Prop} : ∀ (fuel : Nat) (listed : Array Bool) (a : Act) (w : World), wpAnyG P ops Q S fuel listed a w → wpAny P .any ops Q fuel listed a w
  | 0, _, _, _, h => h
  | fuel + 1, _, _, _, h => ⟨h.1, fun i hi => wpOp_mono (fun a' w' h' => wpAny_of_G fuel _ a' w' h'.2) (h.2 i hi)⟩

theorem wpAnyG_mono {P : Program} {ops : Array Oper} {Q Q' : Exit → Act → World → Prop} {S : Array Bool → World → Prop} (hQ : ∀ e a w, Q e a w → Q' e a w) (hl : LetsOut Q → LetsOut Q') : ∀ (fuel : Nat) (listed : Array Bool) (a : Act) (w : World), wpAnyG P ops Q S fuel listed a w → wpAnyG P ops Q' S fuel listed a w := by
  have key : ∀ (i : Nat) (K K' : Act → World → Prop) (a : Act) (w : World), (∀ a w, K a w → K' a w) → wpOp P ops Q i K a w → wpOp P ops Q' i K' a w := by
    intro i K K' a w hK h
    unfold wpOp at *
    split
    · rename_i hn; simp only [hn] at h; exact hK _ _ h
    · rename_i o ho
      simp only [ho] at h
      split
      · rename_i hw
        rw [if_pos hw] at h
        rcases h with h | h
        · left
          unfold Oper.wp at *
          generalize (execOp a.eval o).run P w = r at *
          cases r with
          | ok n w' =>
            cases n <;> simp only [Oper.upon] at h ⊢ <;> first
              | exact hK _ _ h
              | exact hQ _ _ _ h
              | exact Calls.mono h (fun e w'' he => by cases e <;> first | exact hK _ _ he | exact hQ _ _ _ he | exact hl he | exact he)
              | exact Rows.mono h (fun _ _ he => hK _ _ he)
              | exact h
          | halt x w' => cases x <;> simp only [Oper.upon] at h ⊢ <;> first | exact hQ _ _ _ h | exact h
        · exact .inr ⟨h.1, hl h.2⟩
      · rename_i hw
        rw [if_neg hw] at h
        exact hK _ _ h
  intro fuel
  induction fuel with
  | zero => exact fun listed a w h => ⟨h.1, hQ _ _ _ h.2⟩
  | succ fuel ih => exact fun listed a w h => ⟨fun hr => hQ _ _ _ (h.1 hr), fun i hi => key i _ _ a w (fun a w k => ⟨k.1, ih _ _ _ k.2⟩) (h.2 i hi)⟩

/-- As long as none of these has come up, 'S' holds. -/
def SF (ends : List Nat) (S : World → Prop) (listed : Array Bool) (w : World) : Prop := (∀ e ∈ ends, listed.getD e false = false) → S w

theorem getD_setT {listed : Array Bool} {i e : Nat} (h : e ≠ i) : (listed.setIfInBounds i true).getD e false = listed.getD e false := getD_set_ne false (Ne.symm h)

/-- An operation that may come up now may be taken first, if it yields its value in every world that meets S, and whatever ends S waits for it. -/
theorem wpAnyG_first {P : Program} {ops : Array Oper} {Q : Exit → Act → World → Prop} {ends : List Nat} {S : World → Prop} {i : Nat} {oi : Oper} {v : Value} (hi : ops[i]? = some oi)
    (hsel : ∀ (j : Nat) (o : Oper) cs b, ops[j]? = some o → o.op ≠ .select cs b) (hQ : ∀ c a w, Q (.panic c) (a.put oi.dst v) w → Q (.panic c) a w)
    (sh : List Nat) (hsub : ∀ e ∈ ends, e ∈ sh) (hw : ∀ e ∈ sh, e ≠ i ∧ ∀ oe, ops[e]? = some oe → ∃ ed ∈ oe.after, Region.binds .any ed = true ∧ (ed.on = i ∨ ed.on ∈ sh)) :
    ∀ (fuel : Nat) (listed : Array Bool) (a : Act) (w : World), (∀ e ∈ sh, listed.getD e false = false) →
      (∀ j oj, ops[j]? = some oj → j ≠ i → listed.getD j true = false → (∀ e ∈ oj.after, Region.binds .any e = true → e.on ≠ i) → oi.apart ops oj = true) →
      i ∈ Region.ready .any ops listed → YieldsIf P ops S oi v a → S w →
      wpAnyG P ops Q (SF ends S) fuel (listed.setIfInBounds i true) (a.put oi.dst v) w → wpAnyG P ops Q (SF ends S) (fuel + 1) listed a w := by
  intro fuel
  induction fuel with
  | zero =>
    intro listed a w _ _ hr hy hS H
    refine ⟨fun h => (by rw [h] at hr; cases hr), fun j hj => ?_⟩
    by_cases hji : j = i
    · subst hji; exact hy.wpOp hi hS ⟨fun _ => hS, H⟩
    · have := ready_mono hj hji
      rw [H.1] at this
      cases this
  | succ fuel ih =>
    intro listed a w hends hfree hr hy hS H
    refine ⟨fun h => (by rw [h] at hr; cases hr), fun j hj => ?_⟩
    by_cases hji : j = i
    · subst hji; exact hy.wpOp hi hS ⟨fun _ => hS, H⟩
    · have h1 := H.2 j (ready_mono hj hji)
      obtain ⟨hjun, oj, hoj, hall⟩ := mem_ready.1 hj
      have hnot : ∀ e ∈ oj.after, Region.binds .any e = true → e.on ≠ i := fun e he hb heq => by
        have h1 := hall e he hb
        have h0 := (mem_ready.1 hr).1
        rw [heq] at h1
        rcases Nat.lt_or_ge i listed.size with h' | h'
        · simp [h'] at h0 h1; rw [h0] at h1; cases h1
        · simp [Array.getElem?_eq_none h'] at h1
      have h2 := wpOp_putIf hoj (hfree j oj hoj hji hjun hnot) (fun cs b => hsel i oi cs b hi) (fun cs b => hsel j oj cs b hoj) hQ hy h1
      have hjend : ∀ e ∈ sh, e ≠ j := fun e he hej => by
        subst hej
        obtain ⟨ed, k1, k2, k3⟩ := (hw e he).2 oj hoj
        rcases k3 with k3 | k3
        · exact hnot ed k1 k2 k3
        · have h1 := hall ed k1 k2
          have h0 := hends ed.on k3
          rcases Nat.lt_or_ge ed.on listed.size with h' | h'
          · simp [h'] at h0 h1; rw [h0] at h1; cases h1
          · simp [Array.getElem?_eq_none h'] at h1
      have hends2 : ∀ e ∈ sh, (listed.setIfInBounds j true).getD e false = false := fun e he => by
        rw [getD_setT (hjend e he)]; exact hends e he
      have hends3 : ∀ e ∈ ends, ((listed.setIfInBounds i true).setIfInBounds j true).getD e false = false := fun e he => by
        rw [getD_setT (hjend e (hsub e he)), getD_setT (hw e (hsub e he)).1]; exact hends e (hsub e he)
      have hfree' : ∀ k ok, ops[k]? = some ok → k ≠ i → (listed.setIfInBounds j true).getD k true = false →
          (∀ e ∈ ok.after, Region.binds .any e = true → e.on ≠ i) → oi.apart ops ok = true := fun k ok hk hki hun hno => by
        refine hfree k ok hk hki ?_ hno
        by_cases hjk : j = k
        · subst hjk; exact hjun
        · rw [getD_set_ne true hjk] at hun; exact hun
      refine wpOp_mono (fun a' w' h3 => ⟨fun _ => h3.2.1 hends3, ih (listed.setIfInBounds j true) a' w' hends2 hfree' (ready_mono hr (Ne.symm hji)) h3.1 (h3.2.1 hends3) ?_⟩) h2
      rw [Array.setIfInBounds_comm _ _ hji]
      exact h3.2.2

/-! ### The side conditions, over lists -/

def lst : List Bool → Nat → Bool
  | [], _ => false
  | b :: _, 0 => b
  | _ :: l, n + 1 => lst l n

theorem lst_eq : ∀ (l : List Bool) (n : Nat), lst l n = (⟨l⟩ : Array Bool).getD n false
  | [], n => by simp [lst]
  | b :: l, 0 => by simp [lst]
  | b :: l, n + 1 => by
    rw [lst, lst_eq l n]
    simp

def setT : List Bool → Nat → List Bool
  | [], _ => []
  | _ :: l, 0 => true :: l
  | b :: l, n + 1 => b :: setT l n

theorem setT_eq : ∀ (l : List Bool) (n : Nat), (⟨setT l n⟩ : Array Bool) = (⟨l⟩ : Array Bool).setIfInBounds n true := by
  intro l n
  apply Array.ext'
  simp only [Array.toList_setIfInBounds]
  induction l generalizing n with
  | nil => simp [setT]
  | cons b l ih =>
    cases n with
    | zero => simp [setT]
    | succ n => simp [setT, ih]

def bindsE (e : Edge) : Bool :=
  match e.ground with
  | .textOnly _ => false
  | .gcOnly _ => false
  | _ => true

theorem bindsE_eq (e : Edge) : Region.binds .any e = bindsE e := by
  unfold Region.binds bindsE
  split <;> first | rfl | simp_all

def edgesUp (listed : List Bool) : List Edge → Bool
  | [] => true
  | e :: l => match bindsE e with
    | true => match lst listed e.on with
      | true => edgesUp listed l
      | false => false
    | false => edgesUp listed l

theorem edgesUp_iff {listed : List Bool} : ∀ {l : List Edge}, edgesUp listed l = true ↔ ∀ e ∈ l, Region.binds .any e = true → (⟨listed⟩ : Array Bool).getD e.on false = true
  | [] => by simp [edgesUp]
  | e :: l => by
    have ih := edgesUp_iff (listed := listed) (l := l)
    simp only [edgesUp, List.mem_cons, forall_eq_or_imp, bindsE_eq] at *
    cases hb : bindsE e with
    | false => simpa using ih
    | true =>
      simp only [forall_const]
      rw [← lst_eq]
      cases hl : lst listed e.on with
      | false => simp
      | true => simpa using ih

/-- Those that may come up. -/
def rdy (listed : List Bool) : Nat → List Oper → List Nat
  | _, [] => []
  | i, o :: r => match lst listed i with
    | true => rdy listed (i + 1) r
    | false => match edgesUp listed o.after.toList with
      | true => i :: rdy listed (i + 1) r
      | false => rdy listed (i + 1) r

theorem mem_rdy {listed : List Bool} : ∀ {ops : List Oper} {i j : Nat}, j ∈ rdy listed i ops ↔ i ≤ j ∧ lst listed j = false ∧ ∃ o, ops[j - i]? = some o ∧ edgesUp listed o.after.toList = true
  | [], i, j => by simp [rdy]
  | o :: r, i, j => by
    have ih := mem_rdy (listed := listed) (ops := r) (i := i + 1) (j := j)
    have step : (i + 1 ≤ j ∧ lst listed j = false ∧ ∃ o, r[j - (i + 1)]? = some o ∧ edgesUp listed o.after.toList = true) ↔ (i < j ∧ lst listed j = false ∧ ∃ o', (o :: r)[j - i]? = some o' ∧ edgesUp listed o'.after.toList = true) := by
      constructor
      · rintro ⟨h1, h2, h3⟩
        refine ⟨h1, h2, ?_⟩
        rw [show j - i = (j - (i + 1)) + 1 by omega, List.getElem?_cons_succ]
        exact h3
      · rintro ⟨h1, h2, h3⟩
        rw [show j - i = (j - (i + 1)) + 1 by omega, List.getElem?_cons_succ] at h3
        exact ⟨h1, h2, h3⟩
    unfold rdy
    split
    · rename_i hl
      rw [ih, step]
      constructor
      · rintro ⟨h1, h2⟩; exact ⟨by omega, h2⟩
      · rintro ⟨h1, h2, h3⟩
        refine ⟨?_, h2, h3⟩
        rcases Nat.lt_or_ge i j with h | h
        · exact h
        · have : j = i := by omega
          subst this
          rw [hl] at h2
          simp at h2
    · rename_i hl
      split
      · rename_i he
        rw [List.mem_cons, ih, step]
        constructor
        · rintro (rfl | ⟨h1, h2⟩)
          · exact ⟨Nat.le_refl _, hl, o, by simp, he⟩
          · exact ⟨by omega, h2⟩
        · rintro ⟨h1, h2⟩
          rcases Nat.lt_or_ge i j with h | h
          · exact .inr ⟨h, h2⟩
          · exact .inl (by omega)
      · rename_i he
        rw [ih, step]
        constructor
        · rintro ⟨h1, h2⟩; exact ⟨by omega, h2⟩
        · rintro ⟨h1, h2, o', h3, h4⟩
          refine ⟨?_, h2, o', h3, h4⟩
          rcases Nat.lt_or_ge i j with h | h
          · exact h
          · have : j = i := by omega
            subst this
            rw [Nat.sub_self] at h3
            simp only [List.getElem?_cons_zero, Option.some.injEq] at h3
            subst h3
            rw [he] at h4
            simp at h4

def sameL : List Oper → List Bool → Bool
  | [], [] => true
  | _ :: l, _ :: r => sameL l r
  | _, _ => false

theorem sameL_len : ∀ {l : List Oper} {r : List Bool}, sameL l r = true → l.length = r.length
  | [], [], _ => rfl
  | _ :: l, _ :: r, h => by simp [sameL_len (l := l) (r := r) h]
  | [], _ :: _, h => by simp [sameL] at h
  | _ :: _, [], h => by simp [sameL] at h

theorem ready_rdy {ops : List Oper} {listed : List Bool} (hs : sameL ops listed = true) {j : Nat} : j ∈ Region.ready .any ⟨ops⟩ ⟨listed⟩ ↔ j ∈ rdy listed 0 ops := by
  have hlen := sameL_len hs
  rw [mem_ready, mem_rdy]
  simp only [Nat.zero_le, true_and, Nat.sub_zero, edgesUp_iff, List.getElem?_toArray, Array.mem_toList_iff]
  constructor
  · rintro ⟨h1, o, h2, h3⟩
    have hlt : j < listed.length := by rw [← hlen]; exact (List.getElem?_eq_some_iff.1 h2).1
    refine ⟨?_, o, h2, h3⟩
    rw [lst_eq]
    simp only [Array.getD_eq_getD_getElem?, List.getElem?_toArray, List.getElem?_eq_getElem hlt, Option.getD_some] at h1 ⊢
    exact h1
  · rintro ⟨h1, o, h2, h3⟩
    have hlt : j < listed.length := by rw [← hlen]; exact (List.getElem?_eq_some_iff.1 h2).1
    refine ⟨?_, o, h2, h3⟩
    rw [lst_eq] at h1
    simp only [Array.getD_eq_getD_getElem?, List.getElem?_toArray, List.getElem?_eq_getElem hlt, Option.getD_some] at h1 ⊢
    exact h1

/-- The slots that an operation looks at. -/
def opsl : List Operand → List Nat
  | [] => []
  | .tmp s :: l => s :: opsl l
  | _ :: l => opsl l

def optO : Option Operand → List Operand
  | some x => [x]
  | none => []

def snds : List (Nat × Operand) → List Operand
  | [] => []
  | p :: l => p.2 :: snds l

def apO : List Operand → List Operand → List Operand
  | [], l => l
  | x :: r, l => x :: apO r l

def usesO : Op → Option (List Operand)
  | .alloc _ => some []
  | .move x => some [x]
  | .assign x => some [x]
  | .box _ x => some [x]
  | .load _ x => some [x]
  | .nilCheck x => some [x]
  | .unOp _ _ x => some [x]
  | .convert _ _ x => some [x]
  | .makeInterface _ x => some [x]
  | .fieldAddr _ x _ => some [x]
  | .field _ x _ => some [x]
  | .range _ x => some [x]
  | .next x _ => some [x]
  | .entry x => some [x]
  | .extract x _ => some [x]
  | .panic x => some [x]
  | .pick c a b => some [c, a, b]
  | .build _ ⟨ps⟩ => some (snds ps)
  | .buildSlice _ _ ⟨ps⟩ => some (snds ps)
  | .store _ a v => some [a, v]
  | .binOp _ _ a v _ => some [a, v]
  | .makeSlice _ a v => some [a, v]
  | .indexAddr _ a v => some [a, v]
  | .index _ a v => some [a, v]
  | .lookup _ a v _ => some [a, v]
  | .mapEntry _ a v => some [a, v]
  | .makeFunc _ ⟨f⟩ ⟨c⟩ => some (apO f c)
  | .makeMap _ r => some (optO r)
  | .slice _ x l h m => some (x :: apO (optO l) (apO (optO h) (optO m)))
  | .mapUpdate _ m k v => some [m, k, v]
  | .entryStore _ m k v => some [m, k, v]
  | .insert _ m k v => some [m, k, v]
  | .call ⟨.value f, ⟨as⟩, _⟩ => some (f :: as)
  | .call ⟨.builtin _, ⟨as⟩, _⟩ => some as
  | _ => none

theorem snds_eq : ∀ l : List (Nat × Operand), snds l = l.map (·.2)
  | [] => rfl
  | p :: l => by simp [snds, snds_eq l]

theorem apO_eq : ∀ l r : List Operand, apO l r = l ++ r
  | [], r => rfl
  | x :: l, r => by simp [apO, apO_eq l r]

theorem optO_eq : ∀ l : Option Operand, optO l = l.toArray.toList
  | none => rfl
  | some x => rfl

theorem usesO_eq {op : Op} {l : List Operand} (h : usesO op = some l) : op.operands.toList = l := by
  cases op <;> simp only [usesO, Option.some.injEq, reduceCtorEq] at h <;> try (subst h; simp [Op.operands]; done)
  case makeFunc fn f c =>
    obtain ⟨f⟩ := f; obtain ⟨c⟩ := c
    simp only [Option.some.injEq] at h; subst h
    simp [Op.operands, apO_eq]
  case build t ps =>
    obtain ⟨ps⟩ := ps
    simp only [Option.some.injEq] at h; subst h
    simp [Op.operands, snds_eq]
  case buildSlice t n ps =>
    obtain ⟨ps⟩ := ps
    simp only [Option.some.injEq] at h; subst h
    simp [Op.operands, snds_eq]
  case makeMap t r => subst h; simp [Op.operands, optO_eq]
  case slice t x lo hi mx => subst h; simp [Op.operands, optO_eq, apO_eq]
  case call c =>
    obtain ⟨ce, ⟨as⟩, tys⟩ := c
    cases ce <;> simp only [Option.some.injEq, reduceCtorEq] at h
    · subst h; simp [Op.operands, Call.operands]
    · subst h; simp [Op.operands, Call.operands]

def guardS (ops : List Oper) : Option (Nat × Bool) → List Nat
  | none => []
  | some (g, _) => match nth ops g with
    | some o => match o.dst with
      | some d => [d]
      | none => []
    | none => []

def notIn (d : Nat) : List Nat → Bool
  | [] => true
  | a :: l => match Nat.beq a d with
    | true => false
    | false => notIn d l

theorem notIn_iff {d : Nat} : ∀ {l : List Nat}, notIn d l = true ↔ d ∉ l
  | [] => by simp [notIn]
  | a :: l => by
    unfold notIn
    split
    · rename_i h; simp [Nat.eq_of_beq_eq_true h]
    · rename_i h
      have := Nat.ne_of_beq_eq_false h
      simp only [List.mem_cons, not_or, notIn_iff (l := l)]
      constructor
      · exact fun k => ⟨Ne.symm this, k⟩
      · exact fun k => k.2

def looks (ops : List Oper) (o : Oper) : Option (List Nat) :=
  match usesO o.op with
  | some l => some (opsl l ++ guardS ops o.guard)
  | none => none

theorem opsl_eq : ∀ l : List Operand, l.filterMap (fun | .tmp t => some t | _ => none) = opsl l
  | [] => rfl
  | x :: l => by
    cases x <;> simp [opsl, opsl_eq l]

theorem looks_eq {ops : List Oper} {o : Oper} {l : List Nat} (h : looks ops o = some l) : o.looksAt ⟨ops⟩ = l := by
  unfold looks at h
  split at h
  · rename_i r hr
    simp only [Option.some.injEq] at h; subst h
    unfold Oper.looksAt
    rw [usesO_eq hr]
    congr 1
    · exact opsl_eq r
    · unfold guardS
      split
      · rename_i g b hg
        simp only [hg, List.getElem?_toArray, nth_eq]
        cases ops[g]? with
        | none => rfl
        | some o' => cases ho : o'.dst <;> simp [ho]
      · rename_i hg; simp [hg]
  · simp at h

def sameD (d : Nat) : Option Nat → Bool
  | some e => Nat.beq e d
  | none => false

def apartB (ops : List Oper) (d : Nat) (li : List Nat) (y : Oper) : Bool :=
  match looks ops y with
  | some ly => match notIn d ly, sameD d y.dst with
    | true, false => match y.dst with
      | some e => notIn e li
      | none => true
    | _, _ => false
  | none => false

theorem apartB_sound {ops : List Oper} {d : Nat} {li : List Nat} {x y : Oper} (hx : x.dst = some d) (hl : looks ops x = some li) (h : apartB ops d li y = true) : x.apart ⟨ops⟩ y = true := by
  unfold apartB at h
  split at h <;> try (simp at h; done)
  rename_i ly hly
  split at h <;> try (simp at h; done)
  rename_i h1 h2
  have e1 := looks_eq hl
  have e2 := looks_eq hly
  have n1 := notIn_iff.1 h1
  unfold Oper.apart
  rw [hx, e1, e2]
  have hd : y.dst ≠ some d := by
    intro hy
    rw [hy] at h2
    simp [sameD] at h2
  simp only [Bool.and_eq_true, Bool.not_eq_true', List.contains_eq_mem, decide_eq_false_iff_not, bne_iff_ne, ne_eq]
  refine ⟨⟨n1, hd⟩, ?_⟩
  split
  · rename_i e he
    rw [he] at h
    simp only at h
    simpa using notIn_iff.1 h
  · rfl

/-- Some binding edge leads to i. -/
def waitsOn (i : Nat) : List Edge → Bool
  | [] => false
  | e :: l => match bindsE e with
    | true => match Nat.beq e.on i with
      | true => true
      | false => waitsOn i l
    | false => waitsOn i l

theorem waitsOn_iff {i : Nat} : ∀ {l : List Edge}, waitsOn i l = true ↔ ∃ e ∈ l, Region.binds .any e = true ∧ e.on = i
  | [] => by simp [waitsOn]
  | e :: l => by
    have ih := waitsOn_iff (i := i) (l := l)
    unfold waitsOn
    simp only [List.mem_cons, exists_eq_or_imp, bindsE_eq] at *
    split
    · rename_i hb
      split
      · rename_i he; simp [hb, Nat.eq_of_beq_eq_true he]
      · rename_i he; simp [hb, Nat.ne_of_beq_eq_false he, ih]
    · rename_i hb; simp [hb, ih]

/-- Nobody who could come before i touches its slots. -/
def freeB (all : List Oper) (listed : List Bool) (i d : Nat) (li : List Nat) : Nat → List Oper → Bool
  | _, [] => true
  | j, o :: r => match Nat.beq j i with
    | true => freeB all listed i d li (j + 1) r
    | false => match lst listed j with
      | true => freeB all listed i d li (j + 1) r
      | false => match waitsOn i o.after.toList with
        | true => freeB all listed i d li (j + 1) r
        | false => match apartB all d li o with
          | true => freeB all listed i d li (j + 1) r
          | false => false

theorem freeB_sound {all : List Oper} {listed : List Bool} {i d : Nat} {li : List Nat} {x : Oper} (hx : x.dst = some d) (hl : looks all x = some li) : ∀ {ops : List Oper} {s : Nat}, freeB all listed i d li s ops = true →
    ∀ j oj, s ≤ j → ops[j - s]? = some oj → j ≠ i → lst listed j = false → (∀ e ∈ oj.after.toList, Region.binds .any e = true → e.on ≠ i) → x.apart ⟨all⟩ oj = true
  | [], s, _, j, oj, _, ho, _, _, _ => by simp at ho
  | o :: r, s, h, j, oj, hs, ho, hji, hun, hno => by
    unfold freeB at h
    by_cases hjs : j = s
    · subst hjs
      rw [Nat.sub_self] at ho
      simp only [List.getElem?_cons_zero, Option.some.injEq] at ho
      subst ho
      split at h
      · rename_i hb; exact absurd (Nat.eq_of_beq_eq_true hb) hji
      · split at h
        · rename_i hb; rw [hun] at hb; simp at hb
        · split at h
          · rename_i hb
            obtain ⟨e, k1, k2, k3⟩ := waitsOn_iff.1 hb
            exact absurd k3 (hno e k1 k2)
          · split at h
            · rename_i hb; exact apartB_sound hx hl hb
            · simp at h
    · have ho' : r[j - (s + 1)]? = some oj := by
        rw [show j - s = (j - (s + 1)) + 1 by omega, List.getElem?_cons_succ] at ho
        exact ho
      have next : freeB all listed i d li (s + 1) r = true := by
        split at h
        · exact h
        · split at h
          · exact h
          · split at h
            · exact h
            · split at h
              · exact h
              · simp at h
      exact freeB_sound hx hl next j oj (by omega) ho' hji hun hno

def noSelB : List Oper → Bool
  | [] => true
  | o :: r => match o.op with
    | .select _ _ => false
    | _ => noSelB r

theorem noSelB_sound : ∀ {ops : List Oper}, noSelB ops = true → ∀ (j : Nat) (o : Oper) cs b, ops[j]? = some o → o.op ≠ .select cs b
  | [], _, j, o, cs, b, ho => by simp at ho
  | x :: r, h, j, o, cs, b, ho => by
    unfold noSelB at h
    split at h
    · simp at h
    · rename_i hx
      cases j with
      | zero => simp at ho; subst ho; exact hx cs b
      | succ j => exact noSelB_sound h j o cs b (by simpa using ho)

def waitsAny (i : Nat) (sh : List Nat) : List Edge → Bool
  | [] => false
  | e :: l => match bindsE e with
    | true => match Nat.beq e.on i with
      | true => true
      | false => match lstN e.on sh with
        | true => true
        | false => waitsAny i sh l
    | false => waitsAny i sh l
where lstN (x : Nat) : List Nat → Bool
  | [] => false
  | a :: l => match Nat.beq a x with
    | true => true
    | false => lstN x l

/-- What waits for i, by one edge or by more. -/
def shield (i : Nat) (listed : List Bool) : Nat → List Nat → List Oper → List Nat
  | _, sh, [] => sh
  | j, sh, o :: r => match Nat.beq j i, lst listed j, waitsAny i sh o.after.toList with
    | false, false, true => shield i listed (j + 1) (j :: sh) r
    | _, _, _ => shield i listed (j + 1) sh r

def allIn (sh : List Nat) : List Nat → Bool
  | [] => true
  | e :: l => match waitsAny.lstN e sh with
    | true => allIn sh l
    | false => false

def endsOk (ops : List Oper) (listed : List Bool) (i : Nat) : List Nat → Bool
  | [] => true
  | e :: l => allIn (shield i listed 0 [] ops) (e :: l)

theorem lstN_iff {x : Nat} : ∀ {l : List Nat}, waitsAny.lstN x l = true ↔ x ∈ l
  | [] => by simp [waitsAny.lstN]
  | a :: l => by
    unfold waitsAny.lstN
    split
    · rename_i h; simp [Nat.eq_of_beq_eq_true h]
    · rename_i h
      have hn := Ne.symm (Nat.ne_of_beq_eq_false h)
      simp [hn, lstN_iff (l := l)]

theorem waitsAny_sound {i : Nat} {sh : List Nat} : ∀ {l : List Edge}, waitsAny i sh l = true → ∃ e ∈ l, Region.binds .any e = true ∧ (e.on = i ∨ e.on ∈ sh)
  | [], h => by simp [waitsAny] at h
  | e :: l, h => by
    have ih := waitsAny_sound (i := i) (sh := sh) (l := l)
    unfold waitsAny at h
    split at h
    · rename_i hb
      have hb : Region.binds .any e = true := by simpa [bindsE_eq] using hb
      split at h
      · rename_i he; exact ⟨e, by simp, hb, .inl (Nat.eq_of_beq_eq_true he)⟩
      · split at h
        · rename_i hl; exact ⟨e, by simp, hb, .inr (lstN_iff.1 hl)⟩
        · obtain ⟨e', h1, h2⟩ := ih h; exact ⟨e', by simp [h1], h2⟩
    · obtain ⟨e', h1, h2⟩ := ih h; exact ⟨e', by simp [h1], h2⟩

theorem shield_sound {ops : List Oper} {listed : List Bool} {i : Nat} : ∀ (r : List Oper) (j : Nat) (sh : List Nat), (∀ k, r[k]? = ops[j + k]?) →
    (∀ e ∈ sh, lst listed e = false ∧ e ≠ i ∧ ∀ oe, ops[e]? = some oe → ∃ ed ∈ oe.after.toList, Region.binds .any ed = true ∧ (ed.on = i ∨ ed.on ∈ sh)) →
    ∀ e ∈ shield i listed j sh r, lst listed e = false ∧ e ≠ i ∧ ∀ oe, ops[e]? = some oe → ∃ ed ∈ oe.after.toList, Region.binds .any ed = true ∧ (ed.on = i ∨ ed.on ∈ shield i listed j sh r)
  | [], j, sh, _, h => by simpa [shield] using h
  | o :: r, j, sh, hr, h => by
    have hr' : ∀ k, r[k]? = ops[j + 1 + k]? := fun k => by have := hr (k + 1); simpa [Nat.add_assoc, Nat.add_comm 1 k] using this
    have ho : ops[j]? = some o := by simpa using (hr 0).symm
    unfold shield
    split
    · rename_i h1 h2 h3
      refine shield_sound r (j + 1) (j :: sh) hr' ?_
      intro e he
      rcases List.mem_cons.1 he with rfl | he
      · refine ⟨h2, Nat.ne_of_beq_eq_false h1, fun oe hoe => ?_⟩
        rw [ho] at hoe
        simp only [Option.some.injEq] at hoe; subst hoe
        obtain ⟨ed, k1, k2, k3⟩ := waitsAny_sound h3
        exact ⟨ed, k1, k2, k3.imp id (fun k => List.mem_cons_of_mem _ k)⟩
      · obtain ⟨a1, a2, a3⟩ := h e he
        refine ⟨a1, a2, fun oe hoe => ?_⟩
        obtain ⟨ed, k1, k2, k3⟩ := a3 oe hoe
        exact ⟨ed, k1, k2, k3.imp id (fun k => List.mem_cons_of_mem _ k)⟩
    · exact shield_sound r (j + 1) sh hr' h

theorem allIn_sound {sh : List Nat} : ∀ {l : List Nat}, allIn sh l = true → ∀ e ∈ l, e ∈ sh
  | [], _ => by simp
  | a :: l, h => by
    unfold allIn at h
    split at h <;> try (simp at h; done)
    rename_i ha
    intro e he
    rcases List.mem_cons.1 he with rfl | he
    · exact lstN_iff.1 ha
    · exact allIn_sound h e he

theorem endsOk_sound {ops : List Oper} {listed : List Bool} {i : Nat} {ends : List Nat} (h : endsOk ops listed i ends = true) :
    ∃ sh : List Nat, (∀ e ∈ ends, e ∈ sh) ∧ (∀ e ∈ sh, (⟨listed⟩ : Array Bool).getD e false = false) ∧
      ∀ e ∈ sh, e ≠ i ∧ ∀ oe, (⟨ops⟩ : Array Oper)[e]? = some oe → ∃ ed ∈ oe.after, Region.binds .any ed = true ∧ (ed.on = i ∨ ed.on ∈ sh) := by
  cases ends with
  | nil => exact ⟨[], by simp, by simp, by simp⟩
  | cons e l =>
    have hs := shield_sound (ops := ops) (listed := listed) (i := i) ops 0 [] (fun k => by simp) (by simp)
    refine ⟨shield i listed 0 [] ops, allIn_sound h, fun e he => ?_, fun e he => ⟨(hs e he).2.1, fun oe hoe => ?_⟩⟩
    · rw [← lst_eq]; exact (hs e he).1
    · obtain ⟨ed, k1, k2, k3⟩ := (hs e he).2.2 oe (by simpa using hoe)
      exact ⟨ed, by simpa using k1, k2, k3⟩

end Go.Proofs.Ytkbldnpifmjipaa
