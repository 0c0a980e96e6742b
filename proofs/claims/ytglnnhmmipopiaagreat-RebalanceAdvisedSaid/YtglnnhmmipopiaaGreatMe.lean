/-
  A FRAMEWORK FOR PROOFS ABOUT CALLS (part e): bytes that lie open become a string; append to a full slice that lies open.
  Conditions: the table of types is the program's (TOk).
-/
import Derived.Test.YtglnnhmmipopiaaGreatMd
set_option linter.all false
namespace Go.Proofs.YtglnnhmmipopiaaGreat
def bytesS (l : List Int) : Str := l.map fun n => UInt8.ofNat n.toNat
theorem foldl_push (l : List Int) : ∀ (r : ByteArray), l.foldl (fun (r : ByteArray) n => r.push (UInt8.ofNat n.toNat)) r = ⟨⟨r.data.toList ++ bytesS l⟩⟩ := by
  induction l with
  | nil => intro r; simp [bytesS]
  | cons n l ih =>
    intro r
    rw [List.foldl_cons, ih]
    simp [bytesS, ByteArray.push]
section
variable {C : Ctx} (hT : TOk C.P C.T) {o : Oper} {rest all : List Oper} {lr : List REnt} {k : List Kt} {L : Fr} {M : List OB} {V : View} {d : Nat}
include hT
theorem Exec.b2sV {src dst : Nat} {x : Operand} {dd : TyD} {e cap n : Nat} {a : Option Addr} {l : List Int} (hh : headOf C.nt all lr L o = some ([], d)) (ho : o.op = .convert src dst x) (ht : bytesTy C.T src = some e)
    (hd : nth C.T dst = some dd) (hds : Nat.blt 0 dd.size = true) (hdu : dd.und = .str) (ha : ev (opd L lr) [] x = some (.v (.slice a n cap))) (hs : SlAt (cInt .u8) V a cap l) (hn : n = l.length)
    (h : Exec C ⟨.ops rest all (⟨d, [], .v (.string ⟨⟨bytesS l⟩⟩), d⟩ :: lr) :: k, (d, .v (.string ⟨⟨bytesS l⟩⟩)) :: L, M⟩ V) : Exec C ⟨.ops (o :: rest) all lr :: k, L, M⟩ V := by
  subst hn
  refine Exec.yields (x := .v (.string ⟨⟨bytesS l⟩⟩)) (G := []) hh (fun FR env t' w h2 h3 h4 hG => ⟨trivial, fun _ _ hK => ?_⟩) h
  obtain ⟨u1, u2, _⟩ := bytesTy_sound hT ht
  have hds' : dd.size ≠ 0 := by have : 0 < dd.size := by simpa [Nat.blt_eq] using hds
                                omega
  have u3 := t_str hT hd hds' hdu
  have hb : (convert src dst (.slice a l.length cap)).run C.P w = .ok (.string ⟨⟨bytesS l⟩⟩) w := by
    rw [run_convert_bytes_string w src dst e a l.length cap u1 u2 u3]
    cases a with
    | none =>
      have hl : l = [] := by
        cases l with
        | nil => rfl
        | cons y l =>
          obtain ⟨cs, _, b, o', h1, _⟩ := hs.2 0 y rfl
          simp at h1
      subst hl
      simp only [Conv.bytesToString]
      rfl
    | some a =>
      have hl := run_loadCells_list (P := C.P) w a (l.map (Value.int .u8)) (fun j v hj => by
        rw [List.getElem?_map] at hj
        cases hx : l[j]? with
        | none => rw [hx] at hj; simp at hj
        | some y =>
          rw [hx] at hj
          simp only [Option.map_some, Option.some.injEq] at hj
          subst hj
          obtain ⟨cs, h1, b, o', h5, h6⟩ := hs.2 j y hx
          have h1 : cs = [.int .u8 y] := h1
          subst h1
          simp only [Option.some.injEq] at h5
          subst h5
          have := h2.holds _ _ (h6 0 _ rfl)
          rw [Addr.add_lit]
          simpa [cInt] using this)
      simp only [List.length_map] at hl
      have := run_bytesToString (P := C.P) w a l.length cap l hl
      rw [this, foldl_push]
      rfl
  refine wp_value ?_ (hK w h2)
  unfold execOp
  simp only [ho, ev_sound (opd_sound h3 h4) hG ha, den, Sem.run_bind, hb, Result.andThen_ok, Sem.run_pure]
end
end Go.Proofs.YtglnnhmmipopiaaGreat
