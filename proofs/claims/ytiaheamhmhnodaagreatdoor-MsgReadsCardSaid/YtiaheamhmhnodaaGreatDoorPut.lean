/- A table's 'put': what each of its fields writes. -/
import Derived.Test.YtiaheamhmhnodaaGreatDoorGu
import Derived.Test.YtiaheamhmhnodaaGreatDoorWp
import Derived.Deep.RegionLaw
import Derived.Maps.OwnOps
import Derived.Maps.OwnSet
import Derived.StillTailTactics
namespace Go.Proofs.YtiaheamhmhnodaaGreatDoor
open Go.RowKit M

/-- a field of a table: its kind; the functions there, read, write, each with what it has captured -/
structure FRec where
  kind : Int
  t : FuncId × Array Value
  r : FuncId × Array Value
  w : FuncId × Array Value
def FRec.enc (f : FRec) : List Value := [.int .i64 f.kind, .func (.func f.t.1) #[] f.t.2, .func (.func f.r.1) #[] f.r.2, .func (.func f.w.1) #[] f.w.2]
def kf : Kin FRec where
  sz := 4
  rep := fun _ _ x cs => cs = x.enc
  len := fun h => by rw [h]; rfl
  one := fun h u hu => by
    rw [h] at hu
    simp only [FRec.enc, List.mem_cons, List.not_mem_nil, or_false] at hu
    rcases hu with rfl | rfl | rfl | rfl <;> rfl
  mono := fun _ h => h
  move := fun _ _ h => h

/-- what a field says of what is to be written: its number, is it there, and what it writes -/
structure FPut where
  kind : Int
  some : Bool
  m : WM
def putM : List FPut → Option (List (Int × List UInt8))
  | [] => Option.some []
  | f :: r => match f.some with
    | false => putM r
    | true => match f.m with
      | none => none
      | Option.some (t, l) => if l = false ∧ t.length ≤ 65535 then (putM r).map ((f.kind, t) :: ·) else none

/-- the functions of a field, given what is at p -/
structure FieldOk (B p : Nat) (O : World → Prop) (f : FRec) (g : FPut) : Prop where
  kind : f.kind = g.kind
  ent : Enters f.t.1
  enw : Enters f.w.1
  there : ∀ w, O w → Calls Tryz.prog f.t.1 (#[.pointer (some ⟨p, 0, none⟩)] ++ f.t.2) w (fun e w' => e = .returned (.bool g.some) ∧ Kp nobody w w')
  write : WriteOk B O f.w.1 (#[.pointer (some ⟨p, 0, none⟩)] ++ f.w.2) g.m

def kfield : Kin (Int × List UInt8) := Kin.pair (Kin.int .i64) (Kin.slice Kin.u8)
theorem info_field : (Tryz.prog.info? 55).map (fun i => (i.zero, i.size, i.bytes)) = some (some (.agg #[.int .i64 0, .slice none 0 0]), 2, 32) := by kernel_rfl

/-- what 'put$1' leaves: r: it has ended well -/
def PutEnd (B co : Nat) (gs : List FPut) (r : Bool) (w : World) : Prop :=
  match r with
  | false => putM gs = none ∧ ∃ v t, w.heap[co]? = some (.cells #[v] t (0, 0))
  | true => ∃ l v t, putM gs = some l ∧ w.heap[co]? = some (.cells #[v] t (0, 0)) ∧ Sl kfield (fun k => B ≤ k) w v l


/-- what 'put' answers -/
def PutPost (w : World) (m : Option (List (Int × List UInt8))) (e : Ending) (w' : World) : Prop :=
  match m with
  | none => e = .returned (.tuple #[.slice none 0 0, .int .i64 3]) ∧ Kp nobody w w'
  | some l => ∃ v, e = .returned (.tuple #[v, .int .i64 0]) ∧ Sl kfield (fun k => w.heap.size ≤ k) w' v l ∧ Kp nobody w w'

end Go.Proofs.YtiaheamhmhnodaaGreatDoor

/- unique: no type is there twice. -/
namespace Go.Proofs.YtiaheamhmhnodaaGreatDoor
open Go.RowKit M Go.Maps

theorem intLaw : Keyed Tryz.prog 3 := int_keyed Tryz.underlying3
theorem zeroInt (w : World) : (zeroValue 3).run Tryz.prog w = .ok (.int .i64 0) w := by kernel_rfl
def kl (x : Int) : Lit := .int .i64 x
theorem kl_key (x : Int) : WideAt.IsKeyLit (kl x) := trivial
theorem kl_ne {x y : Int} (h : x ≠ y) : kl x ≠ kl y := fun e => h (by injection e)

/-- a map that holds the numbers of a list -/
def Seen (D : DataW Nat) (l : List Int) : Prop := Tidy D ∧ (∀ x, has D (kl x) = l.contains x) ∧ size D ≤ l.length ∧ (size D = l.length ↔ l.Nodup)
theorem Seen.nil : Seen (.map []) [] := ⟨tidy_empty, fun _ => rfl, Nat.le_refl _, by simp [size]⟩
theorem Seen.snoc {D : DataW Nat} {l : List Int} (h : Seen D l) (x : Int) (d : DataW Nat) : Seen (D.put (kl x) d) (l ++ [x]) := by
  obtain ⟨h1, h2, h3, h4⟩ := h
  refine ⟨h1.put (kl_key x) d, fun y => ?_, ?_, ?_⟩
  · by_cases hy : y = x
    · subst hy; rw [has_put_same h1.isMap (kl_key y)]; simp
    · rw [has_put_other (kl_ne hy), h2]; simp [hy]
  · rw [size_put h1, List.length_append, List.length_singleton]; split <;> omega
  · rw [size_put h1, List.length_append, List.length_singleton, h2, List.nodup_append]
    by_cases hx : x ∈ l
    · rw [if_pos (by simpa using hx)]
      constructor
      · intro h; omega
      · intro h; exact absurd rfl (h.2.2 x hx x (by simp))
    · rw [if_neg (by simpa using hx)]
      constructor
      · intro h
        refine ⟨h4.1 (by omega), by simp, fun a ha b hb e => ?_⟩
        simp at hb
        subst hb; subst e
        exact hx ha
      · intro h
        have := h4.2 h.1
        omega

set_option maxRecDepth 10000 in
set_option maxHeartbeats 800000 in
theorem unique_any {N : Nat → Prop} (w : World) (v : Value) (l : List (Int × List UInt8)) (hv : Sl kfield N w v l) (hwf : ∀ f ∈ l, (Lit.int .i64 f.1).wf = true) (hl : l.length ≤ 100000) :
    Calls Tryz.prog 59 #[v] w fun e w' => e = .returned (.bool (decide (l.map Prod.fst).Nodup)) ∧ Kp nobody w w' := by
  have hmm := @run_makeMap Tryz.prog
  obtain ⟨A, c, rfl, hlc, hA, har⟩ := hv
  have har' := Lib.hid har
  have hwf' := Lib.hid hwf
  clear har hA hwf
  go_enter Tryz.func59, Tryz.ntmps59
  go_wp2_with fail
  go_loopw [9] (fun i wr => ∃ (k : Nat) (D : DataW Nat), k ≤ l.length ∧ i = .int .i64 (k : Int) ∧ wr.ownsMap Tryz.prog 3 (plainElem Tryz.prog 3) w.heap.size k D ∧ Hid (Seen D ((l.map Prod.fst).take k)) ∧ Hid (Kp nobody w wr)) (fun i _ => l.length - (intOf i).toNat)
  case atStart => exact ⟨0, .map [], Nat.zero_le _, rfl, World.ownsMap_made _ _ _ _, Seen.nil, (Kp.refl _ _).alloc _⟩
  case round =>
    obtain ⟨k, D, hkl, rfl, hown, hseen, hk⟩ := hrel
    by_cases hlt : k < l.length
    · obtain ⟨ad, cs, rfl, hadB, hadl, hcs, hcell⟩ := (har'.out.kp hk.out (fun k _ _ h => h)).at_ (List.getElem?_eq_getElem hlt)
      have hw := Lib.hid (hwf'.out _ (List.getElem_mem hlt))
      have hsn := Lib.hid (show (l.map Prod.fst).take (k + 1) = (l.map Prod.fst).take k ++ [l[k].1] by
        rw [List.take_succ_eq_append_getElem (by simpa using hlt)]; simp)
      generalize l[k] = f at hcs hw hsn
      obtain ⟨ft, fd⟩ := f
      obtain ⟨c0, c1, rfl, h0, A1, cc1, h1, _⟩ := hcs
      have h0' : c0 = [.int .i64 ft] := h0
      subst h0'
      subst h1
      have hc0 : wr.cell? (ad.add (k * 2)) = some (.int .i64 ft) := hcell 0 _ rfl
      have hc1 : wr.cell? ⟨(ad.add (k * 2)).block, (ad.add (k * 2)).off + 1, none⟩ = some (.slice A1 fd.length cc1) := by
        rw [← Kin.add_field _ _ _ (by decide)]; exact hcell 1 _ rfl
      have hmb : w.heap.size < wr.heap.size := hown.lt
      have hown' := Lib.hid hown
      clear hcell h0 hown
      go_wp2_with (first
        | (at_lookup; refine wpList_lookup_own_int _ rfl _ _ 157 rfl 3 3 .i64 intLaw Tryz.underlying157 Tryz.underlying3 (zeroInt _) w.heap.size k D rfl (hown'.out.alloc _) _ (kl ft) rfl (keyOf_int_mk Tryz.underlying3 hw.out) ?_; intro cv _ _)
        | (at_mapUpdate; refine wpList_mapUpdate_own _ rfl _ _ _ 157 rfl 3 3 intLaw Tryz.underlying157 (plainElem Tryz.prog 3) w.heap.size k D rfl (hown'.out.alloc _) (by unfold maxLen; omega) _ _ (kl ft) rfl rfl (keyOf_int_mk Tryz.underlying3 hw.out) _ [] (plainElem_int Tryz.underlying3 (wrap64_wf _)) ?_; intro w1 hown1 hgrow1))
      go_roundw
      case rel => exact ⟨k + 1, _, by omega, by go_num, hown1, by rw [hsn.out]; exact hseen.out.snoc _ _, (hk.out.alloc _).grown hgrow1 (fun j hj h => by injection h with h; omega)⟩
      case measure => simp [intOf]; omega
    · obtain rfl : k = l.length := by omega
      have hfin := hseen.out
      rw [List.take_of_length_le (by simp)] at hfin
      have hfin' := Lib.hid hfin
      clear hfin
      go_wp2_with (at_len; refine wpList_len_own _ rfl _ 157 rfl 3 3 Tryz.underlying157 _ w.heap.size l.length D rfl hown ?_)
      go_ret
      refine ⟨?_, hk.out⟩
      have h := hfin'.out.2.2.2
      rw [List.length_map] at h
      show Ending.returned (.bool (((size D : Nat) : Int) == ((l.length : Nat) : Int))) = _
      congr 2
      rw [Bool.eq_iff_iff, beq_iff_eq, decide_eq_true_iff, ← h]
      omega
end Go.Proofs.YtiaheamhmhnodaaGreatDoor

/- A table's 'get': words. -/
namespace Go.Proofs.YtiaheamhmhnodaaGreatDoor
open Go.RowKit M

/-- a field as it is read: its number, and what reading does to a state -/
structure FGet (σ : Type) where
  kind : Int
  rd : σ → RM σ

def getLoop {σ : Type} (fs : List (FGet σ)) (last : Int) (n : Nat) : Nat → List (Int × List UInt8) → σ → Option σ
  | _, [], a => some a
  | i, (ty, b) :: r, a => match fs.find? (fun f => f.kind == ty) with
    | none => getLoop fs last n (i + 1) r a
    | some f => if (ty ≠ last ∨ i + 1 = n) ∧ b.length ≤ 65535 then
        match f.rd a b with
        | some (a', []) => getLoop fs last n (i + 1) r a'
        | _ => none
      else none
def getM {σ : Type} (fs : List (FGet σ)) (last : Int) (l : List (Int × List UInt8)) (a : σ) : Option σ :=
  if (l.map Prod.fst).Nodup then getLoop fs last l.length 0 l a else none

/-- what the function 'read' of a field does, where the field has not been read yet (pre) -/
def ReadOk {σ : Type} (S : Client σ) (D : World → Prop) (p : Nat) (g : FuncId) (caps : Array Value) (pre : σ → Prop) (rd : σ → RM σ) : Prop :=
  ∀ (N C : Nat → Prop) (x : Nat) (s : List UInt8) (a : σ) (w : World), Rd N w x s → s.length ≤ 140737488355328 → S.st C a w → ¬ C x → (∀ k, N k → ¬ C k) → (∀ k, N k → k < w.heap.size) → D w → pre a →
    Calls Tryz.prog g (#[.pointer (some ⟨x, 0, none⟩), .pointer (some ⟨p, 0, none⟩)] ++ caps) w (StepPost S N C x w (rd a s))

structure GetOk {σ : Type} (S : Client σ) (D : World → Prop) (p : Nat) (pre : Int → σ → Prop) (f : FRec) (g : FGet σ) : Prop where
  kind : f.kind = g.kind
  enr : Enters f.r.1
  read : ReadOk S D p f.r.1 f.r.2 (pre g.kind) g.rd
  keep : ∀ ty a s a' s', ty ≠ g.kind → pre ty a → g.rd a s = some (a', s') → pre ty a'
  len : ∀ a s a' s', g.rd a s = some (a', s') → s'.length ≤ s.length

theorem take_kind {β : Type} {l : List (Int × β)} {k : Nat} {x : Int × β} {r : List (Int × β)} (h : l.drop k = x :: r) : (l.take (k + 1)).map Prod.fst = (l.take k).map Prod.fst ++ [x.1] := by
  rw [List.take_add, h]
  simp
theorem fresh_kind {β : Type} {l : List (Int × β)} {k : Nat} {x : Int × β} {r : List (Int × β)} (hu : (l.map Prod.fst).Nodup) (h : l.drop k = x :: r) : x.1 ∉ (l.take k).map Prod.fst := by
  have e : l = l.take k ++ x :: r := by rw [← h, List.take_append_drop]
  rw [e, List.map_append, List.map_cons, List.nodup_append] at hu
  exact fun hm => hu.2.2 _ hm _ (by simp) rfl

theorem find_map {σ : Type} (ty : Int) : ∀ (ts : List (FRec × FGet σ)), (∀ x ∈ ts, x.1.kind = x.2.kind) → ∀ i, ts.findIdx? (fun x => x.1.kind == ty) = i →
    (ts.map Prod.snd).find? (fun f => f.kind == ty) = i.bind (fun j => (ts[j]?).map Prod.snd)
  | [], _, i, h => by simp at h; subst h; rfl
  | x :: ts, hk, i, h => by
    have hx := hk x (by simp)
    have ih := find_map ty ts (fun y hy => hk y (by simp [hy])) _ rfl
    rw [List.findIdx?_cons] at h
    rw [List.map_cons, List.find?_cons]
    by_cases hc : x.1.kind == ty
    · rw [if_pos hc] at h
      rw [← hx, hc]
      subst h
      rfl
    · rw [if_neg hc] at h
      have hc' : (x.1.kind == ty) = false := by simpa using hc
      rw [← hx, hc']
      subst h
      simp only
      rw [ih]
      cases ts.findIdx? (fun x => x.1.kind == ty) <;> rfl
/-- an index or less than nothing -/
def ixV (i : Option Nat) : Value := .int .i64 (match i with | none => -1 | some j => (j : Int))

/-- what 'get$1' leaves -/
def GetEnd {σ : Type} (S : Client σ) (C : Nat → Prop) (w : World) (m : Option σ) (r : Bool) (w' : World) : Prop :=
  match m with
  | none => r = false ∧ ∃ a' C', S.st C' a' w' ∧ ∀ k, C' k → C k ∨ w.heap.size ≤ k
  | some a' => r = true ∧ ∃ C', S.st C' a' w' ∧ ∀ k, C' k → C k ∨ w.heap.size ≤ k

/-- what 'get' answers -/
def GetPost {σ : Type} (S : Client σ) (C : Nat → Prop) (w : World) (m : Option σ) (e : Ending) (w' : World) : Prop :=
  match m with
  | none => e = .returned (.int .i64 3) ∧ Kp C w w' ∧ ∃ a' C', S.st C' a' w' ∧ ∀ k, C' k → C k ∨ w.heap.size ≤ k
  | some a' => e = .returned (.int .i64 0) ∧ (∃ C', S.st C' a' w' ∧ ∀ k, C' k → C k ∨ w.heap.size ≤ k) ∧ Kp C w w'
end Go.Proofs.YtiaheamhmhnodaaGreatDoor

/- Words for tables of fields. -/
namespace Go.Proofs.YtiaheamhmhnodaaGreatDoor
open Go.RowKit M

theorem cells_at {w : World} {b : Nat} {cs : Array Value} {t : TypeId} {f : Nat × Nat} (h : w.heap[b]? = some (.cells cs t f)) (i : Nat) {v : Value} (hv : cs[i]? = some v) : w.cell? ⟨b, i, none⟩ = some v := by
  simp [World.cell?, h, hv]

def frec (kind : Int) (t r w : FuncId) : FRec := ⟨kind, (t, #[]), (r, #[]), (w, #[])⟩
def frecCap (kind : Int) (t r w : FuncId) (cap : Array Value) : FRec := ⟨kind, (t, cap), (r, cap), (w, cap)⟩
/-- a block that is a list of fields -/
theorem kf_arr {w : World} {b : Nat} (fs : List FRec) {rest : List Value} (h : ∀ j u, ((fs.flatMap FRec.enc) ++ rest)[j]? = some u → w.cell? ⟨b, j, none⟩ = some u) (hb : b < w.heap.size) : kf.Arr (fun k => k = b) w (some ⟨b, 0, none⟩) fs := by
  refine fun _ => ⟨_, rfl, rfl, hb, fun i x hx => ⟨x.enc, rfl, fun j u hu => ?_⟩⟩
  rw [Addr.add_lit, Nat.zero_add]
  apply h
  have hi : i < fs.length := (List.getElem?_eq_some_iff.1 hx).1
  have hj : j < 4 := (List.getElem?_eq_some_iff.1 hu).1
  have hsplit : fs = fs.take i ++ x :: fs.drop (i + 1) := by
    have hx' : fs[i] = x := (List.getElem?_eq_some_iff.1 hx).2
    rw [← hx', ← List.drop_eq_getElem_cons hi, List.take_append_drop]
  have hlen : ∀ l : List FRec, (l.flatMap FRec.enc).length = l.length * 4 := by
    intro l
    induction l with
    | nil => rfl
    | cons a l ih => rw [List.flatMap_cons, List.length_append, ih, List.length_cons]; simp [FRec.enc]; omega
  rw [hsplit, List.flatMap_append, List.flatMap_cons, List.append_assoc, List.append_assoc]
  have h1 : ((fs.take i).flatMap FRec.enc).length = i * 4 := by rw [hlen, List.length_take, Nat.min_eq_left (by omega)]
  show (_ ++ _)[i * 4 + j]? = some u
  rw [List.getElem?_append_right (by omega), h1, Nat.add_sub_cancel_left, List.getElem?_append_left (by simpa [FRec.enc] using hj)]
  exact hu

/-- from the worlds behind the box and the table to the world at the call -/
theorem PutPost.from_ {w w1 w2 : World} {m : Option (List (Int × List UInt8))} {e : Ending} (h : PutPost w1 m e w2) (hk : Kp nobody w w1) : PutPost w m e w2 := by
  cases m with
  | none => exact ⟨h.1, hk.trans h.2⟩
  | some l =>
    obtain ⟨v, h1, h2, h3⟩ := h
    exact ⟨v, h1, h2.mono (fun k _ h => Nat.le_trans hk.size h), hk.trans h3⟩
theorem PutPost.form {w w2 : World} {m : Option (List (Int × List UInt8))} {e : Ending} (h : PutPost w m e w2) : ∃ x y, e = .returned (.tuple #[x, y]) := by
  cases m with
  | none => exact ⟨_, _, h.1⟩
  | some l => exact ⟨_, _, h.choose_spec.1⟩
theorem set_cells {w : World} {b : Nat} {cs : Array Value} {t : TypeId} {f : Nat × Nat} (h : w.heap[b]? = some (.cells cs t f)) (i : Nat) (v : Value) : (w.setCell ⟨b, i, none⟩ v).heap[b]? = some (.cells (cs.setIfInBounds i v) t f) := by
  have hlt := lt_of_block h
  have h' : w.heap[b] = .cells cs t f := by simpa [Array.getElem?_eq_getElem hlt] using h
  show (w.heap.modify b _)[b]? = _
  rw [Array.getElem?_eq_getElem (by simpa using hlt), Array.getElem_modify_self, h']
  rfl
theorem kp_set (w : World) (p i : Nat) (v : Value) : Kp (· = p) w (w.setCell ⟨p, i, none⟩ v) := Kp.setCell (F := (· = p)) (p := ⟨p, i, none⟩) (Kp.refl _ _) (fun _ => rfl) _

theorem num_len {n : Nat} {s : List UInt8} {y : Nat × List UInt8} (h : M.num n s = some y) : y.2.length ≤ s.length := by
  unfold M.num at h
  split at h
  · injection h with h; subst h; rw [List.length_drop]; omega
  · cases h
theorem vec_len {k lo hi : Nat} {s : List UInt8} {y : List UInt8 × List UInt8} (h : M.vec k lo hi s = some y) : y.2.length ≤ s.length := by
  unfold M.vec at h
  split at h
  · simp only at h
    split at h
    · split at h
      · injection h with h; subst h; rw [List.length_drop, List.length_drop]; omega
      · cases h
    · cases h
  · cases h

/-- what the functions of a list's field have captured: in four blocks from kb on -/
def Lf (kb : Nat) (k n most : Int) (g : FuncId) (w : World) : Prop :=
  w.cell? ⟨kb, 0, none⟩ = some (.int .i64 k) ∧ w.cell? ⟨kb + 1, 0, none⟩ = some (.int .i64 n) ∧ w.cell? ⟨kb + 2, 0, none⟩ = some (.int .i64 most) ∧ w.cell? ⟨kb + 3, 0, none⟩ = some (.func (.func g) #[] #[])
theorem Lf.kp {kb : Nat} {k n most : Int} {g : FuncId} {H : Nat → Prop} {w w' : World} (h : Lf kb k n most g w) (hk : Kp H w w') (hH : ∀ j, kb ≤ j → j ≤ kb + 3 → ¬ H j) : Lf kb k n most g w' :=
  ⟨hk.cell (hH kb (by omega) (by omega)) h.1, hk.cell (hH (kb + 1) (by omega) (by omega)) h.2.1, hk.cell (hH (kb + 2) (by omega) (by omega)) h.2.2.1, hk.cell (hH (kb + 3) (by omega) (by omega)) h.2.2.2⟩

end Go.Proofs.YtiaheamhmhnodaaGreatDoor
