/- A table's 'put': what each of its fields writes. -/
import Derived.Test.YtiaheamhmhnodaaGu
import Derived.Test.YtiaheamhmhnodaaWp
import Derived.Deep.RegionLaw
namespace Go.Proofs.Ytiaheamhmhnodaa
open Go.RowKit M

/-- a field of a table: its kind; the functions there, read, write, each with what it has captured -/
structure FRec where
  kind : Int
  t : FuncId × Array Value
  r : FuncId × Array Value
  w : FuncId × Array Value
def FRec.enc (f : FRec) : List Value := [.int .i64 f.kind, .func (.func f.t.1) #[] f.t.2, .func (.func f.r.1) #[] f.r.2, .func (.func f.w.1) #[] f.w.2]
def kf : Kin FRec where
  sz := 4
  rep := fun _ _ x cs => cs = x.enc
  len := fun h => by rw [h]; rfl
  one := fun h u hu => by
    rw [h] at hu
    simp only [FRec.enc, List.mem_cons, List.not_mem_nil, or_false] at hu
    rcases hu with rfl | rfl | rfl | rfl <;> rfl
  mono := fun _ h => h
  move := fun _ _ h => h

/-- what a field says of what is to be written: its number, is it there, and what it writes -/
structure FPut where
  kind : Int
  some : Bool
  m : WM
def putM : List FPut → Option (List (Int × List UInt8))
  | [] => Option.some []
  | f :: r => match f.some with
    | false => putM r
    | true => match f.m with
      | none => none
      | Option.some (t, l) => if l = false ∧ t.length ≤ 65535 then (putM r).map ((f.kind, t) :: ·) else none

/-- the functions of a field, given what is at p -/
structure FieldOk (B p : Nat) (O : World → Prop) (f : FRec) (g : FPut) : Prop where
  kind : f.kind = g.kind
  ent : Enters f.t.1
  enw : Enters f.w.1
  there : ∀ w, O w → Calls Try.prog f.t.1 (#[.pointer (some ⟨p, 0, none⟩)] ++ f.t.2) w (fun e w' => e = .returned (.bool g.some) ∧ Kp nobody w w')
  write : WriteOk B O f.w.1 (#[.pointer (some ⟨p, 0, none⟩)] ++ f.w.2) g.m

def kfield : Kin (Int × List UInt8) := Kin.pair (Kin.int .i64) (Kin.slice Kin.u8)
theorem info_field : (Try.prog.info? 60).map (fun i => (i.zero, i.size, i.bytes)) = some (some (.agg #[.int .i64 0, .slice none 0 0]), 2, 32) := by kernel_rfl

/-- what 'put$1' leaves: r: it has ended well -/
def PutEnd (B co : Nat) (gs : List FPut) (r : Bool) (w : World) : Prop :=
  match r with
  | false => putM gs = none ∧ ∃ v t, w.heap[co]? = some (.cells #[v] t (0, 0))
  | true => ∃ l v t, putM gs = some l ∧ w.heap[co]? = some (.cells #[v] t (0, 0)) ∧ Sl kfield (fun k => B ≤ k) w v l


/-- what 'put' answers -/
def PutPost (w : World) (m : Option (List (Int × List UInt8))) (e : Ending) (w' : World) : Prop :=
  match m with
  | none => e = .returned (.tuple #[.slice none 0 0, .int .i64 3]) ∧ Kp nobody w w'
  | some l => ∃ v, e = .returned (.tuple #[v, .int .i64 0]) ∧ Sl kfield (fun k => w.heap.size ≤ k) w' v l ∧ Kp nobody w w'

end Go.Proofs.Ytiaheamhmhnodaa
