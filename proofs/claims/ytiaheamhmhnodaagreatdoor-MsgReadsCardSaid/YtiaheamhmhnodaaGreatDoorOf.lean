/- An Offer: what is at a pointer to one that is to be written (OfAt), and to one that is being filled (OfS). -/
import Derived.Test.YtiaheamhmhnodaaGreatDoorPut
import Derived.Test.YtiaheamhmhnodaaGreatDoorNm
import Derived.Test.YtiaheamhmhnodaaGreatDoorWp
namespace Go.Proofs.YtiaheamhmhnodaaGreatDoor
open Go.RowKit M

structure Of where
  host : ByteArray
  groups : List Int
  schemes : List Int
  protos : List ByteArray
  cookie : List UInt8
  versions : List Int
  modes : List Int
  hasShares : Bool
  shares : List (Int × List UInt8)
  idents : List (List UInt8 × Int)
  binders : List (List UInt8)
def of0 : Of := ⟨⟨#[]⟩, [], [], [], [], [], [], false, [], [], []⟩

def kident : Kin (List UInt8 × Int) := Kin.pair (Kin.slice Kin.u8) (Kin.int .u32)
def kbind : Kin (List UInt8) := Kin.slice Kin.u8

/-- a field's value: what it reads as, its blocks lying in N -/
def oRep (N : Nat → Prop) (w : World) (o : Of) : Nat → Value → Prop
  | 0, v => v = .string o.host
  | 1, v => Is N w v o.groups
  | 2, v => Is N w v o.schemes
  | 3, v => Ss N w v o.protos
  | 4, v => Bs N w v o.cookie
  | 5, v => Is N w v o.versions
  | 6, v => Is N w v o.modes
  | 7, v => v = .bool o.hasShares
  | 8, v => Sl kfield N w v o.shares
  | 9, v => Sl kident N w v o.idents
  | 10, v => Sl kbind N w v o.binders
  | _, _ => False
theorem oRep.mono {N N' : Nat → Prop} {w : World} {o : Of} {i : Nat} {v : Value} (h : oRep N w o i v) (hN : ∀ k, k < w.heap.size → N k → N' k) : oRep N' w o i v := by
  rcases i with _ | _ | _ | _ | _ | _ | _ | _ | _ | _ | _ | i
  case zero => exact h
  case succ.succ.succ.succ.succ.succ.succ.zero => exact h
  case succ.succ.succ.succ.succ.succ.succ.succ.succ.succ.succ => exact h
  all_goals exact Sl.mono h hN
theorem oRep.kp {N H : Nat → Prop} {w w' : World} {o : Of} {i : Nat} {v : Value} (h : oRep N w o i v) (hk : Kp H w w') (hN : ∀ k, k < w.heap.size → N k → ¬ H k) : oRep N w' o i v := by
  rcases i with _ | _ | _ | _ | _ | _ | _ | _ | _ | _ | _ | i
  case zero => exact h
  case succ.succ.succ.succ.succ.succ.succ.zero => exact h
  case succ.succ.succ.succ.succ.succ.succ.succ.succ.succ.succ => exact h
  all_goals exact Sl.kp h hk hN

/-- at block p lies the Offer o; all that it leads to lies in blocks of N -/
def OfAt (N : Nat → Prop) (w : World) (p : Nat) (o : Of) : Prop :=
  ¬ N p ∧ ∃ vs t, w.heap[p]? = some (.cells vs t (0, 0)) ∧ vs.size = 11 ∧ ∀ i v, vs[i]? = some v → oRep N w o i v
theorem OfAt.kp {N H : Nat → Prop} {w w' : World} {p : Nat} {o : Of} (h : OfAt N w p o) (hk : Kp H w w') (hp : ¬ H p) (hN : ∀ k, k < w.heap.size → N k → ¬ H k) : OfAt N w' p o := by
  obtain ⟨hn, vs, t, hb, hs, hr⟩ := h
  exact ⟨hn, vs, t, hk.blk hp hb, hs, fun i v hv => (hr i v hv).kp hk hN⟩
theorem OfAt.cell {N : Nat → Prop} {w : World} {p : Nat} {o : Of} (h : OfAt N w p o) (i : Nat) (hi : i < 11) : ∃ v, w.cell? ⟨p, i, none⟩ = some v ∧ oRep N w o i v := by
  obtain ⟨hn, vs, t, hb, hs, hr⟩ := h
  have hv : vs[i]? = some vs[i] := Array.getElem?_eq_getElem (by omega)
  exact ⟨_, cells_at hb i hv, hr i _ hv⟩

/-- an Offer at block p that is being filled: what is appended to lies in rows of its own -/
structure OfSt (p : Nat) (C : Nat → Prop) (o : Of) (w : World) (vs : Array Value) (t : TypeId) (v8 v9 v10 : Value) : Prop where
  cp : C p
  bd : ∀ k, C k → k < w.heap.size
  hb : w.heap[p]? = some (.cells vs t (0, 0))
  sz : vs.size = 11
  e8 : vs[8]? = some v8
  e9 : vs[9]? = some v9
  e10 : vs[10]? = some v10
  rep : ∀ i v, i < 8 → vs[i]? = some v → oRep (fun k => (C k ∧ k ≠ p) ∧ v8.ownBlock ≠ some k ∧ v9.ownBlock ≠ some k ∧ v10.ownBlock ≠ some k) w o i v
  o8 : Own kfield (fun k => (C k ∧ k ≠ p) ∧ v9.ownBlock ≠ some k ∧ v10.ownBlock ≠ some k) (fun k => (C k ∧ k ≠ p) ∧ v9.ownBlock ≠ some k ∧ v10.ownBlock ≠ some k) 39 w v8 o.shares
  o9 : Own kident (fun k => (C k ∧ k ≠ p) ∧ v8.ownBlock ≠ some k ∧ v10.ownBlock ≠ some k) (fun k => (C k ∧ k ≠ p) ∧ v8.ownBlock ≠ some k ∧ v10.ownBlock ≠ some k) 74 w v9 o.idents
  o10 : Own kbind (fun k => (C k ∧ k ≠ p) ∧ v8.ownBlock ≠ some k ∧ v9.ownBlock ≠ some k) (fun k => (C k ∧ k ≠ p) ∧ v8.ownBlock ≠ some k ∧ v9.ownBlock ≠ some k) 26 w v10 o.binders
  len : o.shares.length ≤ 100000 ∧ o.idents.length ≤ 100000 ∧ o.binders.length ≤ 100000
def OfS (p : Nat) : Client Of where
  st := fun C o w => ∃ vs t v8 v9 v10, OfSt p C o w vs t v8 v9 v10
  bound := fun ⟨_, _, _, _, _, h⟩ => h.bd
  kp := by
    rintro C a w w' H ⟨vs, t, v8, v9, v10, h⟩ hk hd
    exact ⟨vs, t, v8, v9, v10, h.cp, fun k hc => Nat.lt_of_lt_of_le (h.bd k hc) hk.size, hk.blk (hd p h.cp) h.hb, h.sz, h.e8, h.e9, h.e10, fun i v hi hv => (h.rep i v hi hv).kp hk (fun k _ hh => hd k hh.1.1),
      h.o8.kp hk (fun k _ hh => hd k hh.1.1) (fun k _ hh => hd k hh.1.1), h.o9.kp hk (fun k _ hh => hd k hh.1.1) (fun k _ hh => hd k hh.1.1), h.o10.kp hk (fun k _ hh => hd k hh.1.1) (fun k _ hh => hd k hh.1.1), h.len⟩
theorem OfS.more {p : Nat} {C C' : Nat → Prop} {o : Of} {w : World} (h : (OfS p).st C o w) (hC : ∀ k, C k → C' k) (hb : ∀ k, C' k → k < w.heap.size) : (OfS p).st C' o w := by
  obtain ⟨vs, t, v8, v9, v10, h⟩ := h
  exact ⟨vs, t, v8, v9, v10, hC p h.cp, hb, h.hb, h.sz, h.e8, h.e9, h.e10, fun i v hi hv => (h.rep i v hi hv).mono (fun k _ hh => ⟨⟨hC k hh.1.1, hh.1.2⟩, hh.2⟩),
    h.o8.mono (fun k _ hh => ⟨⟨hC k hh.1.1, hh.1.2⟩, hh.2⟩) (fun k _ hh => ⟨⟨hC k hh.1.1, hh.1.2⟩, hh.2⟩), h.o9.mono (fun k _ hh => ⟨⟨hC k hh.1.1, hh.1.2⟩, hh.2⟩) (fun k _ hh => ⟨⟨hC k hh.1.1, hh.1.2⟩, hh.2⟩), h.o10.mono (fun k _ hh => ⟨⟨hC k hh.1.1, hh.1.2⟩, hh.2⟩) (fun k _ hh => ⟨⟨hC k hh.1.1, hh.1.2⟩, hh.2⟩), h.len⟩
/-- a field that is set (not one that is appended to); only blocks of C outside the rows may be led to -/
theorem OfS.set {p : Nat} {C C' : Nat → Prop} {o o' : Of} {w : World} (h : (OfS p).st C o w) (hC : ∀ k, C k → C' k) (hb : ∀ k, C' k → k < w.heap.size) (i : Nat) (hi : i < 8) (v : Value)
    (hoth : ∀ N j u, j < 8 → j ≠ i → oRep N w o j u → oRep N w o' j u) (hl : o'.shares = o.shares ∧ o'.idents = o.idents ∧ o'.binders = o.binders) (hnew : oRep (fun k => C' k ∧ ¬ C k) w o' i v) :
    (OfS p).st C' o' (w.setCell ⟨p, i, none⟩ v) := by
  have hcp : C p := by obtain ⟨_, _, _, _, _, h⟩ := h; exact h.cp
  have hfresh : ∀ (u : Value) (F : Nat → Prop), (∀ k, u.ownBlock = some k → C k) → ∀ k, ¬ C k → u.ownBlock ≠ some k := fun u _ hu k hk e => hk (hu k e)
  have hC0 := h
  obtain ⟨vs, t, v8, v9, v10, h0⟩ := h
  have f8 : ∀ k, v8.ownBlock = some k → C k := fun k hk => by obtain ⟨_, _, _, hf⟩ := h0.o8; exact (hf k hk).1.1
  have f9 : ∀ k, v9.ownBlock = some k → C k := fun k hk => by obtain ⟨_, _, _, hf⟩ := h0.o9; exact (hf k hk).1.1
  have f10 : ∀ k, v10.ownBlock = some k → C k := fun k hk => by obtain ⟨_, _, _, hf⟩ := h0.o10; exact (hf k hk).1.1
  have hk := kp_set w p i v
  have hne : ∀ j : Nat, 8 ≤ j → (vs.setIfInBounds i v)[j]? = vs[j]? := fun j hj => by rw [Array.getElem?_setIfInBounds_ne (by omega)]
  refine ⟨vs.setIfInBounds i v, t, v8, v9, v10, hC p hcp, fun k hk => by simpa [World.setCell] using hb k hk, set_cells h0.hb i v, by simp [h0.sz], (hne 8 (by omega)).trans h0.e8, (hne 9 (by omega)).trans h0.e9, (hne 10 (by omega)).trans h0.e10, fun j u hj hu => ?_, ?_, ?_, ?_, ?_⟩
  · by_cases hji : j = i
    · subst hji
      rw [Array.getElem?_setIfInBounds_self_of_lt (by rw [h0.sz]; omega)] at hu
      injection hu with hu
      subst hu
      exact (hnew.kp hk (fun k _ hh e => hh.2 (by rw [show k = p from e]; exact hcp))).mono (fun k _ hh => ⟨⟨hh.1, fun e => hh.2 (by rw [e]; exact hcp)⟩, fun e => hh.2 (f8 k e), fun e => hh.2 (f9 k e), fun e => hh.2 (f10 k e)⟩)
    · rw [Array.getElem?_setIfInBounds_ne (fun e => hji e.symm)] at hu
      exact ((hoth _ j u hj hji (h0.rep j u hj hu)).kp hk (fun k _ hh e => hh.1.2 e)).mono (fun k _ hh => ⟨⟨hC k hh.1.1, hh.1.2⟩, hh.2⟩)
  · rw [hl.1]
    exact (h0.o8.kp hk (fun k _ hh e => hh.1.2 e) (fun k _ hh e => hh.1.2 e)).mono (fun k _ hh => ⟨⟨hC k hh.1.1, hh.1.2⟩, hh.2⟩) (fun k _ hh => ⟨⟨hC k hh.1.1, hh.1.2⟩, hh.2⟩)
  · rw [hl.2.1]
    exact (h0.o9.kp hk (fun k _ hh e => hh.1.2 e) (fun k _ hh e => hh.1.2 e)).mono (fun k _ hh => ⟨⟨hC k hh.1.1, hh.1.2⟩, hh.2⟩) (fun k _ hh => ⟨⟨hC k hh.1.1, hh.1.2⟩, hh.2⟩)
  · rw [hl.2.2]
    exact (h0.o10.kp hk (fun k _ hh e => hh.1.2 e) (fun k _ hh e => hh.1.2 e)).mono (fun k _ hh => ⟨⟨hC k hh.1.1, hh.1.2⟩, hh.2⟩) (fun k _ hh => ⟨⟨hC k hh.1.1, hh.1.2⟩, hh.2⟩)
  · rw [hl.1, hl.2.1, hl.2.2]
    exact h0.len
/-- the cells of the block may be written -/
theorem OfS.open_ {p : Nat} {C : Nat → Prop} {o : Of} {w : World} (h : (OfS p).st C o w) : p < w.heap.size ∧ ∀ i, i < 11 → (∃ v, w.cell? ⟨p, i, none⟩ = some v) ∧ w.frozen? ⟨p, i, none⟩ = false := by
  obtain ⟨vs, t, v8, v9, v10, h⟩ := h
  refine ⟨h.bd p h.cp, fun i hi => ⟨?_, ?_⟩⟩
  · have : i < vs.size := by rw [h.sz]; exact hi
    exact ⟨_, cells_at h.hb i (Array.getElem?_eq_getElem this)⟩
  · simp [World.frozen?, h.hb]
theorem OfS.cp {p : Nat} {C : Nat → Prop} {o : Of} {w : World} (h : (OfS p).st C o w) : C p := by
  obtain ⟨_, _, _, _, _, h⟩ := h
  exact h.cp

/-- what is left to say when a reader's call has gone well and fields of the block have been set -/
theorem ostep_done {p x : Nat} {N C C1 : Nat → Prop} {w w1 w2 : World} {s' : List UInt8} {c' : Of} (hx : ¬ C x) (hNC : ∀ k, N k → ¬ C k) (hCp : C p) (hk : Kp (· = x) w w1) (hrd : Rd N w1 x s') (hk2 : Kp (· = p) w1 w2)
    (hst : (OfS p).st C1 c' w2) (hC1 : ∀ k, C1 k → C k ∨ w.heap.size ≤ k) : StepPost (OfS p) N C x w (some (c', s')) (.returned unit) w2 :=
  ⟨rfl, rd_kp hrd hk2 (fun e => hx (by rw [e]; exact hCp)) (fun k _ hN e => hNC k hN (by rw [e]; exact hCp)), (hk.mono (fun k _ h => .inl h)).trans' hk2 (fun k _ h => .inr (by rw [h]; exact hCp)), C1, hst, hC1⟩
theorem ostep_no {p x : Nat} {N C : Nat → Prop} {c : Of} {w w1 : World} (hst : (OfS p).st C c w) (hx : ¬ C x) (hk : Kp (· = x) w w1) : StepPost (OfS p) N C x w (none : Option (Of × List UInt8)) (.panicked wrongC) w1 :=
  ⟨rfl, hk.mono (fun _ _ h => .inl h), c, C, (OfS p).kp hst hk (fun _ h e => hx (e ▸ h)), fun _ h => .inl h⟩

/-- a function that answers the address of a field -/
def Acc (g : FuncId) (i : Nat) : Prop := Enters g ∧ ∀ (w : World) (p : Nat), Calls Tryz.prog g #[.pointer (some ⟨p, 0, none⟩)] w fun e w' => e = .returned (.pointer (some ⟨p, i, none⟩)) ∧ w' = w
theorem acc_groups : Acc 35 1 := ⟨enters_of Tryz.func35 (by kernel_rfl) (by kernel_rfl), fun w p => by
  go_enter Tryz.func35, Tryz.ntmps35
  go_wp2
  go_ret
  exact ⟨rfl, rfl⟩⟩
theorem acc_schemes : Acc 36 2 := ⟨enters_of Tryz.func36 (by kernel_rfl) (by kernel_rfl), fun w p => by
  go_enter Tryz.func36, Tryz.ntmps36
  go_wp2
  go_ret
  exact ⟨rfl, rfl⟩⟩
theorem acc_versions : Acc 44 5 := ⟨enters_of Tryz.func44 (by kernel_rfl) (by kernel_rfl), fun w p => by
  go_enter Tryz.func44, Tryz.ntmps44
  go_wp2
  go_ret
  exact ⟨rfl, rfl⟩⟩
theorem acc_modes : Acc 45 6 := ⟨enters_of Tryz.func45 (by kernel_rfl) (by kernel_rfl), fun w p => by
  go_enter Tryz.func45, Tryz.ntmps45
  go_wp2
  go_ret
  exact ⟨rfl, rfl⟩⟩
theorem acc_cookie : Acc 43 4 := ⟨enters_of Tryz.func43 (by kernel_rfl) (by kernel_rfl), fun w p => by
  go_enter Tryz.func43, Tryz.ntmps43
  go_wp2
  go_ret
  exact ⟨rfl, rfl⟩⟩

/-- the list of numbers that a field is -/
def Of.nums (o : Of) (i : Nat) : List Int := if i = 1 then o.groups else if i = 2 then o.schemes else if i = 5 then o.versions else o.modes
def Of.setNums (o : Of) (i : Nat) (l : List Int) : Of := if i = 1 then { o with groups := l } else if i = 2 then { o with schemes := l } else if i = 5 then { o with versions := l } else { o with modes := l }
def IsNums (i : Nat) : Prop := i = 1 ∨ i = 2 ∨ i = 5 ∨ i = 6
theorem rep_nums {i : Nat} (hi : IsNums i) {N : Nat → Prop} {w : World} {o : Of} {v : Value} : oRep N w o i v ↔ Is N w v (o.nums i) := by
  rcases hi with rfl | rfl | rfl | rfl <;> exact Iff.rfl
theorem setNums_nums {i : Nat} (hi : IsNums i) (o : Of) (l : List Int) : (o.setNums i l).nums i = l := by
  rcases hi with rfl | rfl | rfl | rfl <;> rfl
theorem setNums_oth {i : Nat} (hi : IsNums i) {o : Of} {l : List Int} {N : Nat → Prop} {w : World} {j : Nat} {u : Value} (hj : j < 8) (hji : j ≠ i) (h : oRep N w o j u) : oRep N w (o.setNums i l) j u := by
  rcases hi with rfl | rfl | rfl | rfl
  all_goals
    rcases j with _ | _ | _ | _ | _ | _ | _ | _ | j
    all_goals first | exact h | exact absurd rfl hji | (exact absurd hj (by omega))
theorem setNums_len {i : Nat} (hi : IsNums i) (o : Of) (l : List Int) : (o.setNums i l).shares = o.shares ∧ (o.setNums i l).idents = o.idents ∧ (o.setNums i l).binders = o.binders := by
  rcases hi with rfl | rfl | rfl | rfl <;> exact ⟨rfl, rfl, rfl⟩

/-- the numbers are such as the language has; nothing is very long -/
structure Of.ok (o : Of) : Prop where
  host : o.host.size ≤ 1000000
  num : ∀ i, (o.nums i).length ≤ 1000 ∧ ∀ y ∈ o.nums i, y ≤ 9223372036854775807
  protos : o.protos.length ≤ 1000 ∧ ∀ q ∈ o.protos, q.size ≤ 1000000
  cookie : o.cookie.length ≤ 1000000
  shares : o.shares.length ≤ 1000 ∧ ∀ q ∈ o.shares, q.1 ≤ 9223372036854775807 ∧ q.2.length ≤ 1000000
  swf : ∀ q ∈ o.shares, (Lit.int .i64 q.1).wf = true
  idents : o.idents.length ≤ 1000 ∧ ∀ q ∈ o.idents, q.1.length ≤ 1000000 ∧ 0 ≤ q.2 ∧ q.2 ≤ 4294967295
  binders : o.binders.length ≤ 1000 ∧ ∀ q ∈ o.binders, q.length ≤ 1000000
/-- the same, of lists as long as a field's data can make them -/
structure Of.okR (o : Of) : Prop where
  host : o.host.size ≤ 1000000
  num : ∀ i, (o.nums i).length ≤ 70000 ∧ ∀ y ∈ o.nums i, y ≤ 9223372036854775807
  protos : o.protos.length ≤ 70000 ∧ ∀ q ∈ o.protos, q.size ≤ 1000000
  cookie : o.cookie.length ≤ 1000000
  shares : o.shares.length ≤ 70000 ∧ ∀ q ∈ o.shares, q.1 ≤ 9223372036854775807 ∧ q.2.length ≤ 1000000
  swf : ∀ q ∈ o.shares, (Lit.int .i64 q.1).wf = true
  idents : o.idents.length ≤ 70000 ∧ ∀ q ∈ o.idents, q.1.length ≤ 1000000 ∧ 0 ≤ q.2 ∧ q.2 ≤ 4294967295
  binders : o.binders.length ≤ 70000 ∧ ∀ q ∈ o.binders, q.length ≤ 1000000
theorem Of.ok.r {o : Of} (h : o.ok) : o.okR :=
  ⟨h.host, fun i => ⟨Nat.le_trans (h.num i).1 (by decide), (h.num i).2⟩, ⟨Nat.le_trans h.protos.1 (by decide), h.protos.2⟩, h.cookie, ⟨Nat.le_trans h.shares.1 (by decide), h.shares.2⟩, h.swf, ⟨Nat.le_trans h.idents.1 (by decide), h.idents.2⟩, ⟨Nat.le_trans h.binders.1 (by decide), h.binders.2⟩⟩
end Go.Proofs.YtiaheamhmhnodaaGreatDoor
