/-
  A FRAMEWORK FOR PROOFS ABOUT CALLS (part g): arrays of numbers whose length the framework need not unfold; slices.Sort at []string.
  Conditions: the table of types is the program's (TOk).
-/
import Derived.Test.YtonijgmopcmldaaGreatMf
import Derived.ChangeKeysEq
set_option linter.all false
namespace Go.Proofs.YtonijgmopcmldaaGreat
section
open Go.Sort Go.RowKit
theorem putRow_factsS {w : World} {g e q : Nat} {cur : Array Value} {l2 : List (List UInt8)} {os : Array Obj} (hheap : w.heap[g]? = some (.cells cur e (0, 0))) (hl2 : l2.length ≤ cur.size) :
    (Go.Sort.grow (Go.Sort.putRow (encStr) (Go.Sort.ahead w q) g 0 l2.toArray) os).os = w.os ∧ (Go.Sort.grow (Go.Sort.putRow (encStr) (Go.Sort.ahead w q) g 0 l2.toArray) os).tape = w.tape ∧
    (Go.Sort.grow (Go.Sort.putRow (encStr) (Go.Sort.ahead w q) g 0 l2.toArray) os).output = w.output ∧
    (∀ k, k < w.heap.size → k ≠ g → (Go.Sort.grow (Go.Sort.putRow (encStr) (Go.Sort.ahead w q) g 0 l2.toArray) os).heap[k]? = w.heap[k]?) ∧
    ∃ cur', (Go.Sort.grow (Go.Sort.putRow (encStr) (Go.Sort.ahead w q) g 0 l2.toArray) os).heap[g]? = some (.cells cur' e (0, 0)) ∧ cur'.size = cur.size ∧ cur'.toList.take l2.length = l2.map (encStr) := by
  have hg : g < w.heap.size := (Array.getElem?_eq_some_iff.1 hheap).1
  refine ⟨rfl, rfl, rfl, fun k hk hne => ?_, Go.Sort.putCells (encStr) 0 l2.toArray cur, ?_, ?_, ?_⟩
  · show ((w.heap.modify g _) ++ os)[k]? = _
    rw [Array.getElem?_append_left (by simpa using hk), Array.getElem?_modify, if_neg (Ne.symm hne)]
  · show ((w.heap.modify g _) ++ os)[g]? = _
    rw [Array.getElem?_append_left (by simpa using hg), Array.getElem?_modify, if_pos rfl, hheap]
    rfl
  · simp [Go.Sort.putCells]
  · apply List.ext_getElem?
    intro j
    rw [List.getElem?_take]
    by_cases hj : j < l2.length
    · rw [if_pos hj]
      have hjc : j < cur.size := by omega
      simp [Go.Sort.putCells, hj, hjc]
    · rw [if_neg hj]
      exact (List.getElem?_eq_none (by simp; omega)).symm
theorem row_holdsS {w : World} {g e m : Nat} {cur : Array Value} {l : List (List UInt8)} (hheap : w.heap[g]? = some (.cells cur e (0, 0))) (htake : cur.toList.take m = l.map (encStr)) (hl : l.length = m) : Go.Sort.Holds (encStr) w g 0 l.toArray := by
  intro j hj
  have hj' : j < l.length := by simpa using hj
  have h1 : cur.toList[j]? = some (encStr l[j]) := by
    have : (cur.toList.take m)[j]? = some (encStr l[j]) := by rw [htake]; simp [hj']
    rw [List.getElem?_take, if_pos (by omega)] at this
    exact this
  constructor
  · simp only [World.cell?, hheap, Nat.zero_add]
    simp only [Option.isSome_none, Bool.false_eq_true, if_false]
    rw [Array.getElem?_toList] at h1
    rw [h1]
    simp [hj']
  · simp [World.frozen?, hheap]
theorem sortS_specM {P : Program} {f : Nat} (hf : IsFn P f)
    (hS : ∀ (blk off cap : Nat) (zs : List (List UInt8)) (w : World), Go.Sort.Holds (encStr) w blk off zs.toArray → blk < w.heap.size → zs.length < 4611686018427387904 →
      Calls P f #[.slice (some ⟨blk, off, none⟩) zs.length cap] w fun e w' => e = .returned (.tuple #[]) ∧ ∃ n os, w' = Go.Sort.grow (Go.Sort.putRow (encStr) (Go.Sort.ahead w n) blk off (zs.mergeSort fun x y => decide (x ≤ y)).toArray) os)
    (hN : ∀ (p : Option Addr) (cap : Nat) (w : World), Calls P f #[.slice p 0 cap] w fun e w' => e = .returned (.tuple #[]) ∧ w' = w)
    {a : Option Addr} {n c e : Nat} {l : List (List UInt8)} {V : View} (hsz : l.length < 4611686018427387904) :
    SpecM P f [.slice a n c] ⟨.slice a n c, l.map (encStr), e, 1⟩ V (fun V' v r' => v = .tuple #[] ∧ V' = V ∧ r' = ⟨.slice a n c, (l.mergeSort fun x y => decide (x ≤ y)).map (encStr), e, 1⟩) := by
  refine ⟨hf, fun w hV hrow hap => ?_⟩
  obtain ⟨m, hlen, hrest⟩ := hrow
  have hlm : l.length = m := by simpa using hlen
  rcases hrest with ⟨hx, hm⟩ | ⟨g, cap, cur, hx, hb, hheap, hnc, hcm, hcs, htake⟩
  · simp only [Value.slice.injEq] at hx
    obtain ⟨rfl, rfl, rfl⟩ := hx
    have hl0 : l = [] := List.eq_nil_of_length_eq_zero (by omega)
    subst hl0
    refine (hN none 0 w).mono ?_
    rintro e' w' ⟨rfl, rfl⟩
    exact ⟨_, V, _, rfl, ⟨rfl, rfl, rfl, fun _ _ _ => rfl⟩, VLe.refl V, hV, fun a x h => .inl h, ⟨0, by simp, .inl ⟨rfl, rfl⟩⟩, fun a ha => by simp [Value.ownBlock] at ha, fun a ha => by simp [Value.ownBlock] at ha, rfl, rfl, rfl⟩
  · simp only [Value.slice.injEq] at hx
    obtain ⟨rfl, rfl, rfl⟩ := hx
    rw [Nat.mul_one] at htake hcs
    have hg : g < w.heap.size := (Array.getElem?_eq_some_iff.1 hheap).1
    have hc := hS g 0 c l w (row_holdsS hheap htake hlm) hg hsz
    rw [hlm] at hc
    refine hc.mono ?_
    rintro e' w' ⟨rfl, q, os, rfl⟩
    have hsl : (l.mergeSort fun x y => decide (x ≤ y)).length = n := by rw [List.length_mergeSort, hlm]
    obtain ⟨p1, p2, p3, p4, cur', p5, p6, p7⟩ := putRow_factsS (q := q) (os := os) (l2 := l.mergeSort fun x y => decide (x ≤ y)) hheap (by omega)
    refine ⟨_, V, ⟨.slice (some ⟨g, 0, none⟩) n c, (l.mergeSort fun x y => decide (x ≤ y)).map (encStr), e, 1⟩, rfl, ⟨p1, p2, p3, fun k hk hne => p4 k hk (fun e => hne (by rw [e]; rfl))⟩, VLe.refl V, ?_, fun a x h => .inl h, ⟨n, by simp [hlm], .inr ⟨g, c, cur', rfl, hb, p5, hnc, hcm, ?_, ?_⟩⟩, fun a ha => hap a ha, fun a ha => .inl ha, rfl, rfl, rfl⟩
    · exact holds_off hV (fun a ha => hap a (by rw [ha]; rfl)) p4
    · show cur'.size = c * 1
      omega
    · show cur'.toList.take (n * 1) = _
      rw [Nat.mul_one, ← hsl]; exact p7
def sortS (l : List Str) : List Str := l.mergeSort fun x y => decide (x ≤ y)
theorem RowRep.strs {V : View} : ∀ {l : List Str} {cs : List Value}, RowRep cStr V l cs → cs = l.map encStr
  | [], cs, h => h
  | x :: l, cs, ⟨e, r, h0, h1, h2⟩ => by
    subst h0
    rw [show e = [.string ⟨⟨x⟩⟩] from h1, RowRep.strs h2]; rfl
theorem RowRep.ofStrs {V : View} : ∀ (l : List Str), RowRep cStr V l (l.map encStr)
  | [] => rfl
  | x :: l => ⟨[.string ⟨⟨x⟩⟩], _, rfl, rfl, RowRep.ofStrs l⟩
theorem sortS_row {P : Program} {f : Nat} {a : Option Addr} {n c e : Nat} {l : List Str} {cs : List Value} {V : View} (hr : RowRep cStr V l cs)
    (hs : ∀ cs', cs' = l.map encStr → SpecM P f [.slice a n c] ⟨.slice a n c, cs', e, 1⟩ V (fun V' v r' => v = .tuple #[] ∧ V' = V ∧ r' = ⟨.slice a n c, (sortS l).map encStr, e, 1⟩)) :
    SpecM P f [.slice a n c] ⟨.slice a n c, cs, e, 1⟩ V (fun V' v r' => v = .tuple #[] ∧ V' = V ∧ r' = ⟨.slice a n c, (sortS l).map encStr, e, 1⟩) := hs cs hr.strs
end

/-! ### Arrays of numbers -/
def arrTy (T : List TyD) (t : Nat) : Option (Nat × Nat) :=
  match nth T t with
  | some d => match d.size, d.und with
    | s + 1, .arr n e => match nth T e with
      | some ed => match Nat.beq ed.size 1, Nat.beq (s + 1) n with
        | true, true => some (n, e)
        | _, _ => none
      | none => none
    | _, _ => none
  | none => none
theorem arrTy_sound {P : Program} {T : List TyD} (hT : TOk P T) {t n e : Nat} (h : arrTy T t = some (n, e)) :
    P.underlying t = some (.array n e) ∧ 0 < n ∧ (∀ w, (sizeOf t).run P w = .ok n w) ∧ (∀ w, (sizeOf e).run P w = .ok 1 w) ∧ (∀ w, (isAgg t).run P w = .ok true w) ∧ ∃ d, nth T t = some d ∧ d.size = n ∧ d.und = .arr n e := by
  unfold arrTy at h
  split at h <;> try (simp at h; done)
  rename_i d hd
  split at h <;> try (simp at h; done)
  rename_i s n' e' hs hu
  split at h <;> try (simp at h; done)
  rename_i ed hed
  split at h <;> try (simp at h; done)
  rename_i h1 h2
  simp only [Option.some.injEq, Prod.mk.injEq] at h
  obtain ⟨rfl, rfl⟩ := h
  have h1 := beq_nat h1
  have h2 := beq_nat h2
  refine ⟨t_arr hT hd (by omega) hu, by omega, fun w => ?_, fun w => ?_, fun w => ?_, d, hd, by omega, hu⟩
  · rw [t_size hT w hd (by omega), hs]; exact congrArg (fun q => Result.ok q w) h2
  · rw [t_size hT w hed (by omega), h1]
  · rw [t_agg hT w hd (by omega), hu]; rfl
def slAOf (T : List TyD) (od : Look) (G : List (Nat × Bool)) (op : Op) : Option (Nat × Nat) :=
  match op with
  | .slice t x none none none => match arrTy T t, ev od G x with
    | some (n, _), some (.v (.pointer (some ⟨b, 0, none⟩))) => some (b, n)
    | _, _ => none
  | _ => none
theorem slA_run {P : Program} {T : List TyD} (hT : TOk P T) {env : List Nat} {M : List OB} {t : Array Value} {od : Look} (hO : Tells env M t od) {G : List (Nat × Bool)} (hG : condT t G) {o : Oper} {b n : Nat}
    (hc : slAOf T od G o.op = some (b, n)) (w : World) : (execOp (⟨t, []⟩ : Act).eval o).run P w = .ok (.value (.slice (some ⟨b, 0, none⟩) n n)) w := by
  unfold slAOf at hc
  split at hc <;> try (simp at hc; done)
  rename_i ty x hop
  split at hc <;> try (simp at hc; done)
  rename_i n' e' b' h1 h2
  simp only [Option.some.injEq, Prod.mk.injEq] at hc
  obtain ⟨rfl, rfl⟩ := hc
  obtain ⟨u1, u2, _, u3, _⟩ := arrTy_sound hT h1
  have e1 := ev_sound hO hG h2
  simp only [den] at e1
  unfold execOp
  simp only [hop, e1, Option.map_none, Instr.sliceAt, Instr.sliceBounds, Sem.run_bind, Sem.run_pure, Result.andThen_ok, run_underlying u1, Instr.sureAddr, u3, Nat.sub_zero, Nat.zero_mul]
  rw [if_neg (by omega)]
  simp [Addr.add_lit]
section
variable {C : Ctx} (hT : TOk C.P C.T) {o : Oper} {rest all : List Oper} {lr : List REnt} {k : List Kt} {L : Fr} {M : List OB} {V : View} {d : Nat}
include hT
theorem Exec.slA {b n m : Nat} (hh : headOf C.nt all lr L o = some ([], d)) (hc : slAOf C.T (opd L lr) [] o.op = some (b, n)) (hm : m = n)
    (h : Exec C ⟨.ops rest all (⟨d, [], .v (.slice (some ⟨b, 0, none⟩) m n), d⟩ :: lr) :: k, (d, .v (.slice (some ⟨b, 0, none⟩) m n)) :: L, M⟩ V) : Exec C ⟨.ops (o :: rest) all lr :: k, L, M⟩ V := by
  subst hm
  exact Exec.yieldsP (G := []) (x := .v (.slice (some ⟨b, 0, none⟩) m m)) hh (fun env t0 w h3 h4 _ _ => ⟨trivial, slA_run hT (opd_sound h3 h4) (G := []) trivial hc w⟩) h
theorem Exec.fslA {listed : List Bool} {i r r' : Nat} {ends n0 mask} {V1 : View} {p : List (Nat × Bool)} {b n m : Nat} (hh : headX C.nt all lr i L = some (o, [], d)) (hr : r' = r + 1) (hc : slAOf C.T (opd L lr) [] o.op = some (b, n)) (hm : m = n)
    (h : Exec C ⟨.draw ⟨all, setT listed i, r, ends, n0, mask, V1, p, ⟨d, [], .v (.slice (some ⟨b, 0, none⟩) m n), d⟩ :: lr⟩ :: k, (d, .v (.slice (some ⟨b, 0, none⟩) m n)) :: L, M⟩ V) : Exec C ⟨.draw ⟨all, listed, r', ends, n0, mask, V1, (i, true) :: p, lr⟩ :: k, L, M⟩ V := by
  subst hm
  exact Exec.fyields (x := .v (.slice (some ⟨b, 0, none⟩) m m)) hh hr (fun env t0 w h3 h4 _ _ _ => ⟨trivial, slA_run hT (opd_sound h3 h4) (G := []) trivial hc w⟩) h
theorem Exec.ldA (i : Nat) {G : List (Nat × Bool)} {g n c e : Nat} {dd : TyD} {kd : IntKind} {l : List Int} {cs : List Value} (hh : headOf C.nt all lr L o = some (G, d)) (hc : ldOf C.T (opd L lr) G o.op = some (some ⟨g, 0, none⟩, 0, dd))
    (hi : nth M i = some (.row (.slice (some ⟨g, 0, none⟩) n c) cs e 1)) (hr : RowRep (cInt kd) V l cs) (hsz : dd.size = n) (hag : dd.und.agg = true)
    (h : l.length = n → Exec C ⟨.ops rest all (⟨d, G, .v (.agg ⟨l.map (.int kd)⟩), d⟩ :: lr) :: k, nextL G d (.v (.agg ⟨l.map (.int kd)⟩)) L, M⟩ V) : Exec C ⟨.ops (o :: rest) all lr :: k, L, M⟩ V := by
  have hcs := hr.ints
  refine Exec.rowI i hi (fun ra _ _ => ?_)
  have hl : l.length = n := by rw [hcs] at ra; simpa using ra
  refine Exec.ldP hT i (l := cs) (x := .agg ⟨l.map (.int kd)⟩) hh hc hi (fun j v hj => by simpa using hj) (by rw [ra, hsz, Nat.mul_one]) (by rw [hag, hcs]; rfl) (h hl)
theorem Exec.stA (i : Nat) {g n c e t : Nat} {x y : Operand} {cs nv : List Value} {M' : List OB} {q : Nat × Nat} (hg : guardC all lr o.guard = some []) (hd : o.dst = none) (ho : o.op = .store t x y) (ht : arrTy C.T t = some q)
    (hx : ev (opd L lr) [] x = some (.v (.pointer (some ⟨g, 0, none⟩)))) (hy : ev (opd L lr) [] y = some (.v (.agg ⟨nv⟩))) (hi : nth M i = some (.row (.slice (some ⟨g, 0, none⟩) n c) cs e 1)) (hnn : n = q.1) (hnv : nv.length = n) (hone : ∀ u ∈ nv, u.oneCell' = true)
    (hs : setN M i (.row (.slice (some ⟨g, 0, none⟩) n c) nv e 1) = some M') (hk : wrOk i k = true)
    (h : Exec C ⟨.ops rest all lr :: k, L, M'⟩ V) : Exec C ⟨.ops (o :: rest) all lr :: k, L, M⟩ V := by
  obtain ⟨_, rfl⟩ := setN_sound hs
  rw [nth_eq] at hi
  obtain ⟨u1, u2, u3, _⟩ := arrTy_sound hT (n := q.1) (e := q.2) ht
  refine Exec.of fun FR DF env t' w g1 h2 h3 h4 h5 => ?_
  have hsat : rowSat w e 1 (.slice (some ⟨g, 0, none⟩) n c) cs := h2.sat i _ hi
  obtain ⟨cur, k2, k3, k4, k5, r1, k6⟩ := rowSat_cur hsat
  have e1 := ev_sound (opd_sound h3 h4) (G := []) trivial hx
  have e2 := ev_sound (opd_sound h3 h4) (G := []) trivial hy
  simp only [den] at e1 e2
  have hcl : nv.length ≤ cur.size := by rw [k5, hnv]; omega
  have hst := run_storeCells_at (P := C.P) g 0 e nv 0 cur w k2 (by omega) hone
  simp only [Nat.add_zero] at hst
  have hw := guard_sound h4 hg
  show wpList C.P ⟨all⟩ (post C FR DF k) (o :: rest) ⟨t', []⟩ w
  refine wpList_want ?_
  rw [if_pos (hw.2 trivial)]
  refine wp_skip' (w' := w.setRow g (cur.toList.take 0 ++ nv ++ cur.toList.drop (0 + nv.length)).toArray) ?_ ?_
  · unfold execOp
    have hcells : (Value.agg ⟨nv⟩).cells = ⟨nv⟩ := rfl
    simp only [ho, e1, e2, Instr.storeAt, Instr.sureAddr, storeVar, Sem.run_bind, Sem.run_pure, Result.andThen_ok, u3, hcells, Nat.zero_add]
    rw [if_neg (by simp [hnv, hnn])]
    simp only [Result.andThen_ok, hst, Nat.zero_add]
  · simp only [Act.put, hd]
    have hnew : rowSat (w.setRow g (cur.toList.take 0 ++ nv ++ cur.toList.drop (0 + nv.length)).toArray) e 1 (.slice (some ⟨g, 0, none⟩) n c) nv := by
      refine ⟨n, by omega, .inr ⟨g, c, _, rfl, Nat.zero_le _, setRow_heap w g cur _ e _ k2, k3, k4, ?_, ?_⟩⟩
      · simp only [List.size_toArray, List.length_append, List.length_take, List.length_drop, Array.length_toList]; omega
      · simp [← hnv]
    have hW := h2.upd (w' := w.setRow g (cur.toList.take 0 ++ nv ++ cur.toList.drop (0 + nv.length)).toArray) (o' := .row (.slice (some ⟨g, 0, none⟩) n c) nv e 1) hi (by simp) rfl rfl rfl
      (fun kk hk hn => setRow_other w g kk _ (fun he => hn (by simp [OB.own, Value.ownBlock, he]))) hnew (fun p hp => .inl hp)
    exact h.to FR DF env t' _ g1 hW (h3.set (by simp)) (h4.set (by simp)) (DOk.write hk h5.same)
theorem Exec.boxA {t n e i : Nat} {x : Operand} {cs : List Value} {M' : Nat → List OB} (hh : headOf C.nt all lr L o = some ([], d)) (ho : o.op = .box t x) (ht : arrTy C.T t = some (n, e)) (hx : ev (opd L lr) [] x = some (.v (.agg ⟨cs⟩))) (hn : cs.length = n) (hm : Nat.ble n 1000000 = true)
    (hs : ∀ b, snocN M (.row (.slice (some ⟨b, 0, none⟩) n n) cs t 1) 0 = some (M' b, i))
    (h : ∀ b, Exec C ⟨.ops rest all (⟨d, [], .v (.pointer (some ⟨b, 0, none⟩)), d⟩ :: lr) :: k, (d, .v (.pointer (some ⟨b, 0, none⟩))) :: L, M' b⟩ V) : Exec C ⟨.ops (o :: rest) all lr :: k, L, M⟩ V := by
  have hM' : ∀ b, M' b = M ++ [.row (.slice (some ⟨b, 0, none⟩) n n) cs t 1] := fun b => (snocN_sound (hs b)).1.symm ▸ rfl
  refine Exec.memS (σ := Nat) (fun b => .v (.pointer (some ⟨b, 0, none⟩))) M' hh (fun FR env t' w h2 h3 h4 => ?_) (fun b => .inl ⟨_, hM' b⟩) h
  have e1 := ev_sound (opd_sound h3 h4) (G := []) trivial hx
  simp only [den] at e1
  have hle : n ≤ maxLen := Nat.le_trans (Nat.le_of_ble_eq_true hm) (by simp [maxLen])
  obtain ⟨_, n0, _⟩ := arrTy_sound hT ht
  refine ⟨w.heap.size, env ++ [0], w.alloc (.cells ⟨cs⟩ t), ⟨_, rfl⟩, ?_, fun L hL => ?_, fun lr hl => ?_, trivial, ?_⟩
  · rw [hM']
    refine h2.add 0 rfl rfl rfl (fun kk hk => Go.RowKit.Below.heap_alloc w _ kk hk) ?_ (fun p hp => by
      simp only [OB.own, Value.ownBlock, Option.map_some, Option.some.injEq] at hp; omega)
    exact ⟨n, by omega, .inr ⟨w.heap.size, n, ⟨cs⟩, rfl, Nat.zero_le _, World.alloc_heap_new w _, Nat.le_refl _, hle, by simp [hn], by simp [← hn]⟩⟩
  · rw [hM']; exact hL.mono h2.len _ _
  · rw [hM']; exact hl.mono h2.len _ _
  · unfold execOp
    have hcells : (Value.agg ⟨cs⟩).cells = ⟨cs⟩ := rfl
    simp only [ho, e1, Instr.box, newVar, newRow, Sem.run_bind, Sem.run_pure, Result.andThen_ok, run_newObj, hcells]
    rfl
theorem Exec.cpA {kd : IntKind} (i : Nat) {sa sb : Operand} {t t' e e' n n0 c m k2 : Nat} {g : Nat} {a2 : Option Addr} {x y : List Int} {cs : List Value} {M' : List Value → List OB}
    (hh : headOf C.nt all lr L o = some ([], d)) (hc : cpTy C.T o.op = some (sa, sb, t, t', e, 1)) (ha : ev (opd L lr) [] sa = some (.v (.slice (some ⟨g, 0, none⟩) n c))) (hb : ev (opd L lr) [] sb = some (.v (.slice a2 m k2)))
    (hi : nth M i = some (.row (.slice (some ⟨g, 0, none⟩) n0 c) cs e' 1)) (hx : RowRep (cInt kd) V x cs) (hn : n = x.length) (hy : SlAt (cInt kd) V a2 k2 y) (hm : m = y.length)
    (hs : ∀ cs', setN M i (.row (.slice (some ⟨g, 0, none⟩) n0 c) cs' e' 1) = some (M' cs')) (hk : wrOk i k = true)
    (h : ∀ cs', RowRep (cInt kd) V (cpL y x) cs' → Exec C ⟨.ops rest all (⟨d, [], .v (.int .i64 ((min m n : Nat) : Int)), d⟩ :: lr) :: k, (d, .v (.int .i64 ((min m n : Nat) : Int))) :: L, M' cs'⟩ V) : Exec C ⟨.ops (o :: rest) all lr :: k, L, M⟩ V := by
  subst hn; subst hm
  obtain ⟨nw, hnw, hrd⟩ := hy.rowAll
  have hnwl : nw.length = y.length := by have := hnw.len; simpa [cInt] using this
  have hq : min y.length x.length ≤ y.length := Nat.min_le_left _ _
  have hq2 : min y.length x.length ≤ x.length := Nat.min_le_right _ _
  have hlen : (nw.take (min y.length x.length)).length = min y.length x.length := by
    rw [List.length_take, hnwl]; exact Nat.min_eq_left hq
  have hsrc : Src M V a2 (nw.take (min y.length x.length)) := by
    by_cases h0 : y = []
    · have : nw.take (min y.length x.length) = [] := by
        apply List.eq_nil_of_length_eq_zero
        rw [hlen, h0]; simp
      rw [this]; exact .nil _
    · refine .open_ ?_
      obtain ⟨b, o', e1, e2⟩ := hrd h0
      exact ⟨b, o', e1, fun j v hv => e2 j v (by
        rw [List.getElem?_take] at hv
        split at hv
        · exact hv
        · simp at hv)⟩
  have hxl : cs.length = x.length := by have := hx.len; simpa [cInt] using this
  have hrep : RowRep (cInt kd) V (cpL y x) (nw.take (min y.length x.length) ++ cs.drop (min y.length x.length)) := by
    have e1 : y.take x.length = y.take (min y.length x.length) := by
      rcases Nat.le_total y.length x.length with h | h
      · rw [Nat.min_eq_left h, List.take_of_length_le h, List.take_of_length_le (Nat.le_refl _)]
      · rw [Nat.min_eq_right h]
    have e2 : x.drop y.length = x.drop (min y.length x.length) := by
      rcases Nat.le_total y.length x.length with h | h
      · rw [Nat.min_eq_left h]
      · rw [Nat.min_eq_right h, List.drop_of_length_le h, List.drop_of_length_le (Nat.le_refl _)]
    rw [cpL, e1, e2]
    have := (hnw.take (min y.length x.length)).app (hx.drop (min y.length x.length))
    simpa [cInt] using this
  refine Exec.rowS (σ := Unit) i (fun _ => .int .i64 ((min y.length x.length : Nat) : Int)) (fun _ => .row (.slice (some ⟨g, 0, none⟩) n0 c) (nw.take (min y.length x.length) ++ cs.drop (min y.length x.length)) e' 1) (fun _ => M' _) hh (fun _ => by simp) (fun _ => hs _) hk (fun FR env t0 w h2 h3 h4 => ?_) (fun _ => h _ hrep)
  rw [nth_eq] at hi
  obtain ⟨hop, bys, zs, hts⟩ := cpTy_op hc
  obtain ⟨u1, u2, u3, _, ti, z, i1, i2, i3, i4, i5, _⟩ := sliceTy_sound hT hts
  have hsat : rowSat w e' 1 (.slice (some ⟨g, 0, none⟩) n0 c) cs := h2.sat i _ hi
  obtain ⟨cur, k1, k2', k3⟩ := rowSat_put (nv := nw.take (min y.length x.length)) (off := 0) hsat (by rw [hlen]; omega)
  rw [hlen, Nat.zero_add, List.take_zero, List.nil_append] at k3
  have hrun := run_copyK (P := C.P) w t t' o.type e 1 g 0 x.length c a2 y.length k2 cur e' (nw.take (min y.length x.length)) u1 ⟨ti, i1, i3⟩ k1 (by rw [hlen, Nat.mul_one]) (hsrc.cells h2) k2' (fun u hu => hnw.ones u (List.mem_of_mem_take hu))
  refine ⟨(), w.setRow g (cur.toList.take 0 ++ nw.take (min y.length x.length) ++ cur.toList.drop (0 + (nw.take (min y.length x.length)).length)).toArray, h2.upd hi (by simp) rfl rfl rfl (fun kk _ hn => setRow_other w g kk _ (fun he => hn (by simp [OB.own, Value.ownBlock, he]))) (by rw [hlen, Nat.zero_add] at *; exact k3) (fun p hp => .inl hp), ?_⟩
  have e1 := ev_sound (opd_sound h3 h4) (G := []) trivial ha
  have e2 := ev_sound (opd_sound h3 h4) (G := []) trivial hb
  simp only [den] at e1 e2
  unfold execOp
  simp only [hop, resolve, List.map_toArray, List.map_cons, List.map_nil, e1, e2, Sem.run_bind, Sem.run_pure, Result.andThen_ok, invoke, builtin, hrun]
  rfl
end
section
variable {C : Ctx} {o : Oper} {rest all : List Oper} {lr : List REnt} {k : List Kt} {L : Fr} {M : List OB} {V : View} {d : Nat}
theorem Exec.binG {G : List (Nat × Bool)} {op : BinOp} {t rt : TypeId} {x y : Operand} {a b r : Value} (hh : headOf C.nt all lr L o = some (G, d)) (ho : o.op = .binOp op t x y rt) (hx : ev (opd L lr) G x = some (.v a)) (hy : ev (opd L lr) G y = some (.v b))
    (hr : ∀ (w : World), (do eqGuard op t x y a b; binOp op t a b : Sem Value).run C.P w = .ok r w)
    (h : Exec C ⟨.ops rest all (⟨d, G, .v r, d⟩ :: lr) :: k, nextL G d (.v r) L, M⟩ V) : Exec C ⟨.ops (o :: rest) all lr :: k, L, M⟩ V := by
  refine Exec.yieldsP (x := .v r) hh (fun env t0 w h3 h4 _ hG => ⟨trivial, ?_⟩) h
  have e1 := ev_sound (opd_sound h3 h4) hG hx
  have e2 := ev_sound (opd_sound h3 h4) hG hy
  simp only [den] at e1 e2
  have := hr w
  unfold execOp
  simp only [ho, e1, e2, Sem.run_bind] at this ⊢
  rw [this]
  rfl
end

/-! ### Arrays held against each other; arrays handed back -/
theorem eqItems_ints {P : Program} {T : List TyD} (hT : TOk P T) {e : Nat} {ed : TyD} {kd : IntKind} (hed : nth T e = some ed) (hes : ed.size = 1) (heu : ed.und = .int kd) (dp : Nat) (l m : List Int) (w : World) :
    ∀ (is : List Nat), (∀ i ∈ is, i < l.length ∧ i < m.length) → (Op.eqItems (dp + 1) e 1 ⟨l.map (Value.int kd)⟩ ⟨m.map (Value.int kd)⟩ is).run P w = .ok (is.all fun i => l[i]? == m[i]?) w
  | [], _ => by simp [Op.eqItems]
  | i :: is, h => by
    obtain ⟨h1, h2⟩ := h i (by simp)
    have hp : ∀ (l : List Int) (hl : i < l.length), (part e ⟨l.map (Value.int kd)⟩ (i * 1)).run P w = .ok (.int kd l[i]) w := fun l hl => by
      refine part_sound hT w hed (by omega) ?_
      unfold partL
      rw [heu]
      show nth (l.map (Value.int kd)) (i * 1) = _
      rw [nth_eq, Nat.mul_one, List.getElem?_map, List.getElem?_eq_getElem hl]
      rfl
    have ih := eqItems_ints hT hed hes heu dp l m w is (fun j hj => h j (by simp [hj]))
    simp only [Op.eqItems, Sem.run_bind, hp l h1, hp m h2, Result.andThen_ok, run_equalIn_int w _ _ _ _ _ _ (t_int hT hed (by omega) heu)]
    rw [List.all_cons, List.getElem?_eq_getElem h1, List.getElem?_eq_getElem h2]
    by_cases hq : l[i] = m[i]
    · simp [hq, ih]
    · have e1 : (l[i] == m[i]) = false := by simpa using hq
      have e2 : (some l[i] == some m[i]) = false := by simpa using hq
      rw [e1, e2]; rfl
theorem eq_range {l m : List Int} {n : Nat} (hl : l.length = n) (hm : m.length = n) : ((List.range n).all fun i => l[i]? == m[i]?) = (l == m) := by
  rw [Bool.eq_iff_iff, List.all_eq_true, beq_iff_eq]
  constructor
  · intro h
    apply List.ext_getElem?
    intro i
    rcases Nat.lt_or_ge i n with hi | hi
    · simpa using h i (by simpa using hi)
    · rw [List.getElem?_eq_none (by omega), List.getElem?_eq_none (by omega)]
  · rintro rfl i _
    simp
theorem eqArr_run {P : Program} {T : List TyD} (hT : TOk P T) {t n e : Nat} {ed : TyD} {kd : IntKind} {x y : Operand} {l m : List Int} (ht : arrTy T t = some (n, e)) (hed : nth T e = some ed) (hes : ed.size = 1) (heu : ed.und = .int kd) (hg : P.eqGuardType P.depth t = false)
    (hl : l.length = n) (hm : m.length = n) (w : World) : (do eqGuard .eql t x y (.agg ⟨l.map (Value.int kd)⟩) (.agg ⟨m.map (Value.int kd)⟩); binOp .eql t (.agg ⟨l.map (Value.int kd)⟩) (.agg ⟨m.map (Value.int kd)⟩) : Sem Value).run P w = .ok (.bool (l == m)) w := by
  obtain ⟨u1, _⟩ := arrTy_sound hT ht
  obtain ⟨i, dd, z, i1, i2, i3, i4⟩ := tyD_some (hT.1 _ ed hed (by omega))
  have hc : P.cellsOf e = 1 := by
    have hs : i.size = 1 := by rw [i4] at hes; exact hes
    simp [Program.cellsOf, i1, hs]
  have h1 := run_equalIn_array (P := P) (w := w) 9999 (t := t) (e := e) ⟨l.map (Value.int kd)⟩ ⟨m.map (Value.int kd)⟩ u1 i1
  rw [hc, eqItems_ints hT hed hes heu 9998 l m w (List.range n) (fun j hj => by rw [hl, hm]; exact ⟨by simpa using hj, by simpa using hj⟩), eq_range hl hm] at h1
  simp only [Sem.run_bind, run_eqGuard_agg w _ _ _ _ _ _ hg, Result.andThen_ok, run_eql_struct]
  rw [h1]
  rfl
theorem Exec.retA {C : Ctx} (hT : TOk C.P C.T) (i : Nat) {k : List Kt} {L : Fr} {M : List OB} {V : View} {s t q g n c e : Nat} {dd : TyD} {kd : IntKind} {l : List Int} {cs : List Value} {x : Value} (hres : C.fn.results = ⟨[.cell s t, .tmp q]⟩)
    (hs : lookL L s = some (.v (.pointer (some ⟨g, 0, none⟩)))) (hi : nth M i = some (.row (.slice (some ⟨g, 0, none⟩) n c) cs e 1)) (ht : nth C.T t = some dd) (hsz : dd.size = n) (h0 : Nat.blt 0 n = true) (hag : dd.und.agg = true) (hr : RowRep (cInt kd) V l cs)
    (hq : lookL L q = some (.v x)) (hR : C.R V (.tuple ⟨[.agg ⟨l.map (Value.int kd)⟩, x]⟩) M) : Exec C ⟨.code .ret :: k, L, M⟩ V := by
  refine Exec.of fun FR DF env t0 w h1 h2 h3 _ _ => wp_ret ?_
  refine ret_sound ⟨rfl, .tuple ⟨[.agg ⟨l.map (Value.int kd)⟩, x]⟩, ?_, _, env, V, M, rfl, h2, hR⟩ k _
  rw [nth_eq] at hi
  have hsat : rowSat w e 1 (.slice (some ⟨g, 0, none⟩) n c) cs := h2.sat i _ hi
  have h0 : 0 < n := by simpa [Nat.blt_eq] using h0
  obtain ⟨cur, k2, k3, k4, k5, r1, k6⟩ := rowSat_cur hsat
  obtain ⟨a1, _⟩ := h3 s _ hs
  obtain ⟨a2, _⟩ := h3 q _ hq
  simp only [den] at a1 a2
  have b1 : t0.getD s undef = .pointer (some ⟨g, 0, none⟩) := by simp [a1]
  have b2 : t0.getD q undef = x := by simp [a2]
  have hload := run_loadCells_list (P := C.P) w ⟨g, 0, none⟩ cs (fun j v hv => by
    have := rowSat_cell (off := 0) (l := cs) hsat rfl (fun j v hv => by simpa using hv) j v hv
    rw [Addr.add_lit]
    simpa using this)
  have hcl : cs.length = n := by omega
  rw [hcl] at hload
  have hld : (loadVar t ⟨g, 0, none⟩).run C.P w = .ok (.agg ⟨cs⟩) w := by
    simp only [loadVar, Sem.run_bind, t_agg hT w ht (by omega), Result.andThen_ok, hag, if_true, t_size hT w ht (by omega), hsz, hload, Sem.run_pure]
  have has : (asAddr (Value.pointer (some ⟨g, 0, none⟩))).run C.P w = .ok ⟨g, 0, none⟩ w := rfl
  have hr2 : results C.fn t0 = (⟨[.cell s t, .tmp q]⟩ : Array ResultVar).mapM (resM t0) >>= fun vs => (pure (if h : vs.size = 1 then vs[0] else .tuple vs) : Sem Value) := by
    unfold results
    rw [hres]
    rfl
  rw [hr2, List.mapM_toArray]
  simp only [List.mapM_cons, List.mapM_nil, resM, b1, b2, Sem.run_bind, Sem.run_map, has, hld, Sem.run_pure, Result.andThen_ok, hr.ints]
  rfl
theorem Exec.forkJ {C : Ctx} (q : List (Nat × Bool)) (I : List REnt → Fr → View → List OB → Prop) (m : Nat) {all : List Oper} (L2 : List Bool) {ends : List Nat} {n0 : Nat} {mask : List Nat} {V1 : View} {listed : List Bool} {n' : Nat} {p0 : List (Nat × Bool)} {lr : List REnt} {k : List Kt} {L : Fr} {M : List OB} {V : View} (hq : planOk all ends m L2 q = true)
    (hA : (∀ (p : List Nat) {lr0 lr' : List REnt} {L0 L' : Fr} {M0 M' : List OB} {V' : View}, pickMem M0 p = some M' → nodupN p = true → idN 0 n0 p = true → rowsOnly M' = true → SubS p L' L0 → SubE2 p lr' lr0 → I lr' L' V' M' → Exec C ⟨.draw ⟨all, L2, m, ends, n0, mask, V1, [], lr0⟩ :: k, L0, M0⟩ V') → Exec C ⟨.draw ⟨all, listed, n', ends, n0, mask, V1, p0, lr⟩ :: k, L, M⟩ V)
    (h : ∀ lr' L' V' M', I lr' L' V' M' → Exec C ⟨.draw ⟨all, L2, m, ends, n0, mask, V1, q, lr'⟩ :: k, L', M'⟩ V') : Exec C ⟨.draw ⟨all, listed, n', ends, n0, mask, V1, p0, lr⟩ :: k, L, M⟩ V :=
  hA fun p _ _ _ _ _ _ _ g1 g2 g3 g4 g5 g6 g7 => Exec.selD2 p hq g1 g2 g3 g4 g5 g6 (h _ _ _ _ g7)
end Go.Proofs.YtonijgmopcmldaaGreat
