/-
  A FRAMEWORK FOR PROOFS ABOUT CALLS (part f): composite literals; memory of the call's own; one operation.
  Conditions: the table of types is the program's (TOk).
-/
import Derived.Test.YtkbldnpifmjipaaFe
set_option linter.all false
namespace Go.Proofs.Ytkbldnpifmjipaa

theorem fold_put (off : Nat) : ∀ (vs : List Value) (k : Nat) (cur : List Value), off + k + vs.length ≤ cur.length →
    (vs.zipIdx k).foldl (fun (cs : Array Value) (p : Value × Nat) => cs.setIfInBounds (off + p.2) p.1) ⟨cur⟩ = ⟨cur.take (off + k) ++ vs ++ cur.drop (off + k + vs.length)⟩
  | [], k, cur, h => by simp
  | v :: vs, k, cur, h => by
    simp only [List.length_cons] at h
    have ih := fold_put off vs (k + 1) (cur.set (off + k) v) (by simp; omega)
    simp only [List.zipIdx_cons, List.foldl_cons]
    rw [show (⟨cur⟩ : Array Value).setIfInBounds (off + k) v = ⟨cur.set (off + k) v⟩ from by simp, ih]
    congr 1
    apply List.ext_getElem?
    intro j
    simp only [List.getElem?_append, List.length_append, List.length_take, List.length_set, List.getElem?_take, List.getElem?_drop, List.getElem?_set, List.length_cons]
    have e1 : min (off + (k + 1)) cur.length = off + k + 1 := by omega
    have e2 : min (off + k) cur.length = off + k := by omega
    rw [e1, e2]
    by_cases h1 : j < off + k
    · simp [h1, show j < off + k + 1 by omega, show j < off + (k + 1) by omega, show off + k ≠ j by omega, show j < off + k + 1 + vs.length by omega, show j < off + k + (vs.length + 1) by omega]
    · by_cases h2 : j = off + k
      · subst h2
        simp [show off + k < off + (k + 1) by omega, show off + k < cur.length by omega, show off + k < off + k + 1 + vs.length by omega]
      · by_cases h3 : j < off + k + 1 + vs.length
        · simp [h1, h3, show ¬ j < off + k + 1 by omega, show j < off + k + (vs.length + 1) by omega, show j - (off + k) = (j - (off + k + 1)) + 1 by omega]
        · simp [h3, show ¬ j < off + k + (vs.length + 1) by omega, show off + k ≠ off + (k + 1) + vs.length + (j - (off + k + 1 + vs.length)) by omega]
          congr 1
          omega

theorem fillSV_sound {env : List Nat} {M : List OB} {place place' : Nat → Option (Nat × Nat)} (hpl : ∀ i p, place i = some p → place' i = some p) {e : Operand → Option SV} {ρ : Operand → Value} (he : ∀ x a, e x = some a → ρ x = den env a ∧ a.ok M) :
    ∀ (parts : List (Nat × Operand)) (cs r : List SV), (∀ x ∈ cs, x.ok M) → fillSV place e cs parts = some r →
      (Instr.fill place' ⟨cs.map (den env)⟩ (parts.map fun p => (p.1, ρ p.2)) = some ⟨r.map (den env)⟩ ∧ (∀ x ∈ r, x.ok M) ∧ r.length = cs.length)
  | [], cs, r, hcs, h => by
    simp only [fillSV, Option.some.injEq] at h; subst h
    exact ⟨rfl, hcs, rfl⟩
  | (i, x) :: parts, cs, r, hcs, h => by
    simp only [fillSV] at h
    split at h
    · rename_i off size hp
      split at h
      · rename_i v hv
        split at h
        · rename_i vs hvs
          split at h
          · rename_i hb
            split at h
            · rename_i cs' hcs'
              obtain ⟨h1, h2⟩ := he x v hv
              obtain ⟨h3, h4⟩ := cellsV_sound (env := env) h2 hvs
              obtain ⟨h5, h6⟩ := putN_sound hcs'
              have hlt : ∀ x ∈ cs', x.ok M := by
                intro y hy
                rw [h6] at hy
                simp only [List.mem_append] at hy
                rcases hy with (hy | hy) | hy
                · exact hcs y (List.mem_of_mem_take hy)
                · exact h4 y hy
                · exact hcs y (List.mem_of_mem_drop hy)
              obtain ⟨k1, k2, k3⟩ := fillSV_sound hpl he parts cs' r hlt h
              have hl : cs'.length = cs.length := by rw [h6]; simp; omega
              refine ⟨?_, k2, by rw [k3, hl]⟩
              have hsz : vs.length = size := beq_nat hb
              simp only [List.map_cons, Instr.fill, hpl _ _ hp, h1, h3]
              rw [if_neg (by simp [hsz]; omega)]
              rw [← k1]
              congr 1
              have := fold_put off (vs.map (den env)) 0 (cs.map (den env)) (by simpa using h5)
              simp only [Nat.add_zero] at this
              rw [h6]
              simp only [List.map_append, List.map_take, List.map_drop, List.length_map] at this ⊢
              rw [← this, ← Array.foldl_toList]
              simp
            · simp at h
          · simp at h
        · simp at h
      · simp at h
    · simp at h

section
variable {P : Program} {T : List TyD} (hT : TOk P T)
include hT

theorem allF_places : ∀ (F : List Field), allF T (F.map fun f => (f.offset, f.type)) = true →
    ∃ pl, F.mapM (fun f => (P.info? f.type).map fun i => (f.offset, i.size)) = some pl ∧ pl = F.map fun f => (f.offset, ((nth T f.type).map (·.size)).getD 0)
  | [], _ => ⟨[], by simp, rfl⟩
  | f :: F, h => by
    simp only [List.map_cons, allF] at h
    split at h
    · rename_i fd hfd
      split at h
      · simp at h
      · rename_i n hsz
        obtain ⟨pl, h1, h2⟩ := allF_places F h
        obtain ⟨i, dd, z, k1, k2, k3, k4⟩ := tyD_some (hT.1 _ _ hfd (by omega))
        refine ⟨(f.offset, i.size) :: pl, by simp [List.mapM_cons, k1, h1], ?_⟩
        rw [List.map_cons, hfd, h2]
        subst k4
        rfl
    · simp at h

theorem buildSV_sound {env : List Nat} {M : List OB} {e : Operand → Option SV} {ρ : Operand → Value} (he : ∀ x a, e x = some a → ρ x = den env a ∧ a.ok M)
    {t : Nat} {parts : List (Nat × Operand)} {r : SV} (h : buildSV T t parts e = some r) (w : World) :
    (Instr.build t ((⟨parts⟩ : Array (Nat × Operand)).map fun (i, x) => (i, ρ x))).run P w = Result.ok (den env r) w ∧ r.ok M := by
  unfold buildSV at h
  split at h <;> try (simp at h; done)
  rename_i d hd
  split at h <;> try (simp at h; done)
  rename_i n hsz
  split at h <;> try (simp at h; done)
  rename_i fs hu
  split at h <;> try (simp at h; done)
  rename_i hall
  split at h <;> try (simp at h; done)
  rename_i z hz
  split at h <;> try (simp at h; done)
  rename_i cs hcs
  split at h <;> try (simp at h; done)
  rename_i l hl
  simp only [Option.some.injEq] at h; subst h
  refine ⟨?_, trivial⟩
  obtain ⟨i, dd, zv, h1, h2, h3, h4⟩ := tyD_some (hT.1 t d hd (by omega))
  obtain ⟨F, k1, k2, k3⟩ := t_struct hT hd (by omega) hu
  subst k2
  obtain ⟨pl, m1, m2⟩ := allF_places hT F.toList hall
  obtain ⟨z1, z2⟩ := liftV_sound (env := env) (M := M) hz
  have f4 := vals_sound (env := env) hl
  refine run_build w t _ ⟨l⟩ ?_
  have hplace : ∀ i p, placeOf T t i = some p → (pl.toArray[i]? : Option (Nat × Nat)) = some p := by
    intro i p hp
    unfold placeOf at hp
    split at hp
    · rename_i off fd hf
      simp only [Option.some.injEq] at hp; subst hp
      obtain ⟨F', fi, g1, g2, g3, g4, g5⟩ := fieldV_some hT hf
      rw [k1] at g1
      simp only [Option.some.injEq, TypeDesc.struct.injEq] at g1
      subst g1
      rw [m2]
      have : F.toList[i]? = some fi := by simpa using g2
      simp [g2, g3, g4]
    · simp at hp
  obtain ⟨f1, f2, f3⟩ := fillSV_sound hplace he parts z cs z2 hcs
  have hdz : d.zero = zv.cells.toList := by rw [h4]
  simp only [Program.built, h1, k1, h3, m1]
  rw [← f4, ← f1, z1, hdz]
  have hfun : (fun x : Nat => (pl.toArray[x]? : Option (Nat × Nat))) = fun x : Nat => (pl[x]? : Option (Nat × Nat)) := by funext x; simp
  simp [hfun]

end

/-- 'n' times the zero of an element. -/
theorem repN_sound {env : List Nat} {z : List SV} : ∀ {n : Nat} {r : List SV}, repN z n = some r → r.map (den env) = (List.range (n * z.length)).map (fun i => (z.map (den env))[i % z.length]?.getD default) ∧ (∀ M, (∀ x ∈ z, x.ok M) → ∀ x ∈ r, x.ok M)
  | 0, r, h => by simp only [repN, Option.some.injEq] at h; subst h; simp
  | n + 1, r, h => by
    simp only [repN] at h
    split at h
    · rename_i r' hr
      simp only [Option.some.injEq] at h; subst h
      obtain ⟨h1, h2⟩ := repN_sound (env := env) hr
      refine ⟨?_, ?_⟩
      · rw [List.map_append, h1, show (n + 1) * z.length = z.length + n * z.length by rw [Nat.add_mul]; omega, List.range_add, List.map_append, List.map_map]
        congr 1
        · apply List.ext_getElem?
          intro j
          simp only [List.getElem?_map]
          by_cases hj : j < z.length
          · simp [hj, Nat.mod_eq_of_lt hj]
          · simp [hj]
        · apply List.map_congr_left
          intro i _
          simp
      · intro m hm x hx
        simp only [List.mem_append] at hx
        rcases hx with hx | hx
        · exact hm x hx
        · exact h2 m hm x hx
    · simp at h

section
variable {P : Program} {T : List TyD} (hT : TOk P T)
include hT

/-- An operation that only yields a value. -/
theorem valOf_sound {env : List Nat} {od : Look} {M Mr : List OB} {t : Array Value} {w : World} (hW : RdM env M Mr w) (hO : Tells env M t od) (hp : Plain od)
    {G : List (Nat × Bool)} {o : Oper} {x : SV} {r : Option Nat} (h : valOf T od Mr G o.op = some (x, r)) :
    (condT t G → x.ok M) ∧ (condT t G → (execOp (⟨t, []⟩ : Act).eval o).run P w = .ok (.value (den env x)) w) ∧
      ∀ r0, r = some r0 → (condT t G → t[r0]? = some (den env x)) ∧ (¬ condT t G → t[r0]? = some undef) ∧ ∃ y c v, od y = some (c, v, some r0) := by
  unfold valOf at h
  split at h
  case h_1 y hop =>
    split at h
    · rename_i c v r' ho
      obtain ⟨h1, h2, h3⟩ := hO _ _ _ _ ho
      split at h
      · rename_i hs
        have hex : v = x → condT t G → (execOp (⟨t, []⟩ : Act).eval o).run P w = .ok (.value (den env x)) w := by
          rintro rfl hG
          unfold execOp
          simp only [hop, Sem.run_pure, h1 (subC_sound t G c hs hG)]
        split at h
        · rename_i hs2
          simp only [Option.some.injEq, Prod.mk.injEq] at h
          obtain ⟨rfl, rfl⟩ := h
          refine ⟨fun hG => h2 (subC_sound t G c hs hG), hex rfl, fun r0 hr => ?_⟩
          obtain ⟨k1, k2⟩ := h3 r0 hr
          subst hr
          exact ⟨fun hG => k1 (subC_sound t G c hs hG), fun hG => k2 fun hc => hG (subC_sound t c G hs2 hc), _, _, _, ho⟩
        · simp only [Option.some.injEq, Prod.mk.injEq] at h
          obtain ⟨rfl, rfl⟩ := h
          exact ⟨fun hG => h2 (subC_sound t G c hs hG), hex rfl, fun r0 hr => by simp at hr⟩
      · simp at h
    · simp at h
  case h_2 c a b hop =>
    split at h
    · rename_i cc xb rc ho
      obtain ⟨h1, h2, h3⟩ := hO _ _ _ _ ho
      split at h
      · rename_i hs
        split at h
        · rename_i r'
          split at h
          · rename_i va vb hva hvb
            split at h
            · rename_i v hv
              simp only [Option.some.injEq, Prod.mk.injEq] at h
              obtain ⟨rfl, rfl⟩ := h
              obtain ⟨⟨q, rfl⟩, k1, k2⟩ := pickSV_sound hv (fun y hy => by subst hy; exact ev_const hp hva) (fun y hy => by subst hy; exact ev_const hp hvb)
              refine ⟨fun _ => trivial, fun hG => ?_, fun r0 hr => by simp at hr⟩
              have hc := h1 (subC_sound t G cc hs hG)
              have hts : t[r']? = some (.bool xb) := (h3 r' rfl).1 (subC_sound t G cc hs hG)
              unfold execOp
              simp only [hop, hc, den, asBool, Sem.run_bind, Sem.run_pure, Result.andThen_ok]
              cases xb with
              | true =>
                have := ev_sound hO (G := (r', true) :: G) ⟨hts, hG⟩ hva
                rw [← k1 rfl] at this
                simp [this, den]
              | false =>
                have := ev_sound hO (G := (r', false) :: G) ⟨hts, hG⟩ hvb
                rw [← k2 rfl] at this
                simp [this, den]
            · simp at h
          · simp at h
        · split at h
          · rename_i va vb hva hvb
            split at h
            · rename_i v hv
              simp only [Option.some.injEq, Prod.mk.injEq] at h
              obtain ⟨rfl, rfl⟩ := h
              obtain ⟨⟨q, rfl⟩, k1, k2⟩ := pickSV_sound hv (fun y hy => by subst hy; exact ev_const hp hva) (fun y hy => by subst hy; exact ev_const hp hvb)
              refine ⟨fun _ => trivial, fun hG => ?_, fun r0 hr => by simp at hr⟩
              have hc := h1 (subC_sound t G cc hs hG)
              unfold execOp
              simp only [hop, hc, den, asBool, Sem.run_bind, Sem.run_pure, Result.andThen_ok]
              cases xb with
              | true =>
                have := ev_sound hO hG hva
                rw [← k1 rfl] at this
                simp [this, den]
              | false =>
                have := ev_sound hO hG hvb
                rw [← k2 rfl] at this
                simp [this, den]
            · simp at h
          · simp at h
      · simp at h
    · simp at h
  case h_3 ty y hop =>
    split at h <;> try (simp at h; done)
    rename_i d hd
    split at h <;> try (simp at h; done)
    rename_i n hsz
    split at h <;> try (simp at h; done)
    rename_i i o' hx
    split at h <;> try (simp at h; done)
    rename_i cs ty' hM
    split at h <;> try (simp at h; done)
    rename_i v hv
    simp only [Option.some.injEq, Prod.mk.injEq] at h
    obtain ⟨rfl, rfl⟩ := h
    rw [nth_eq] at hM
    have hs := hW.1 i _ _ hM
    refine ⟨fun _ => loadSV_ok hs.2 hv, fun hG => ?_, fun r0 hr => by simp at hr⟩
    have hx' := ev_sound hO hG hx
    unfold execOp
    simp [hop, hx', den, Instr.loadAt, Instr.sureAddr, run_loadSV hT hs.1 hd (by omega) hv]
  case h_4 y hop =>
    split at h <;> try (simp at h; done)
    rename_i i o' hx
    simp only [Option.some.injEq, Prod.mk.injEq] at h
    obtain ⟨rfl, rfl⟩ := h
    refine ⟨fun hG => ev_ok hO hG hx, fun hG => ?_, fun r0 hr => by simp at hr⟩
    have hx' := ev_sound hO hG hx
    unfold execOp
    simp only [hop, hx', den, Sem.run_pure]
  case h_5 ty parts hop =>
    split at h <;> try (simp at h; done)
    rename_i v hv
    simp only [Option.some.injEq, Prod.mk.injEq] at h
    obtain ⟨rfl, rfl⟩ := h
    have hlt : v.ok M := by
      unfold buildSV at hv
      repeat' (split at hv)
      all_goals first
        | (simp only [Option.some.injEq] at hv; subst hv; trivial)
        | (simp at hv; done)
    refine ⟨fun _ => hlt, fun hG => ?_, fun r0 hr => by simp at hr⟩
    have := (buildSV_sound hT (ρ := (⟨t, []⟩ : Act).eval) (fun x a hxa => ⟨ev_sound hO hG hxa, ev_ok hO hG hxa⟩) hv w).1
    unfold execOp
    simp only [hop]
    simp only [Sem.run_bind, this, Result.andThen_ok, Sem.run_pure]
  case h_6 =>
    split at h <;> try (simp at h; done)
    rename_i v hv
    simp only [Option.some.injEq, Prod.mk.injEq] at h
    obtain ⟨rfl, rfl⟩ := h
    refine ⟨fun hG => pv_ok (fun x a hxa => ev_ok hO hG hxa) hv, fun hG => ?_, fun r0 hr => by simp at hr⟩
    exact pv_sound hT w env _ (ev od G) (fun x a hxa => ev_sound hO hG hxa) (fun x a hxa => ev_ok hO hG hxa) o v hv

end

end Go.Proofs.Ytkbldnpifmjipaa
