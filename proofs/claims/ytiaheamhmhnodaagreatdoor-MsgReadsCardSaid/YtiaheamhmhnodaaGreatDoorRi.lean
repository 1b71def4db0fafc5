/- The document's own PutInner. -/
import Derived.Test.YtiaheamhmhnodaaGreatDoorRa
import Derived.Test.YtiaheamhmhnodaaGreatDoorRn
import Derived.Test.YtiaheamhmhnodaaGreatDoorIt
namespace Go.Proofs.YtiaheamhmhnodaaGreatDoor
open Go.RowKit M

theorem putInner_inv {i : In} {l : List (Int × List UInt8)} {d : Bool} (h : Inv [⟨16, !i.proto.toList.isEmpty, wprotos [i.proto] 1⟩, ⟨13, decide (0 < i.schemes.length), wnumbers 2 2 i.schemes 1 32⟩] false l d) : match putInnerM i with
    | none => (!d) = false
    | some l' => (!d) = true ∧ l = l' := by
  obtain ⟨h1, h2⟩ := h
  have e : putInnerM i = putM [⟨16, !i.proto.toList.isEmpty, wprotos [i.proto] 1⟩, ⟨13, decide (0 < i.schemes.length), wnumbers 2 2 i.schemes 1 32⟩] := rfl
  rw [e]
  cases hp : putM [⟨16, !i.proto.toList.isEmpty, wprotos [i.proto] 1⟩, ⟨13, decide (0 < i.schemes.length), wnumbers 2 2 i.schemes 1 32⟩] with
  | none =>
    have hd := h1.2 (.inr hp)
    simp [hd]
  | some l' =>
    refine ⟨?_, h2 l' hp⟩
    cases d with
    | false => rfl
    | true =>
      rcases h1.1 rfl with h | h
      · cases h
      · rw [hp] at h; cases h

set_option maxRecDepth 10000 in
set_option maxHeartbeats 4000000 in
theorem rputInner_any (w : World) (i : In) (vs : Value) (hs : Is (fun k => k < w.heap.size) w vs i.schemes) (hl : i.schemes.length ≤ 70000) :
    Calls Tryz.prog 33 #[.agg #[.string i.proto, vs]] w (RP w (putInnerM i)) := by
  have hs' := Lib.hid hs
  obtain ⟨As, cs, rfl, _, _, _⟩ := hs
  go_enter Tryz.func33, Tryz.ntmps33
  have hps : Hid (PSt w #[.string i.proto, .slice As i.schemes.length cs] ((w.alloc (.cells #[.string i.proto, .slice As i.schemes.length cs] 48)).alloc (.cells #[.slice none 0 0, .bool false] 120)) [] false) :=
    ⟨⟨_, ((Kp.refl nobody _).alloc _).blk id (heap_alloc_new _ _)⟩, ⟨_, _, by simpa using heap_alloc_new (w.alloc (.cells #[.string i.proto, .slice As i.schemes.length cs] 48)) (.cells #[.slice none 0 0, .bool false] 120), Own.nil _ _ _ _ _⟩, ((Kp.refl _ _).alloc _).alloc _, by simp⟩
  go_wp2_with fail
  have hka : Kp nobody ((w.alloc (.cells #[.string i.proto, .slice As i.schemes.length cs] 48)).alloc (.cells #[.slice none 0 0, .bool false] 120)) (((w.alloc (.cells #[.string i.proto, .slice As i.schemes.length cs] 48)).alloc (.cells #[.slice none 0 0, .bool false] 120)).alloc (.cells #[.string i.proto] 9)) := (Kp.refl _ _).alloc _
  have hss : ∀ w0 : World, Ss (fun k => k = w0.heap.size) (w0.alloc (.cells #[.string i.proto] 9)) (.slice (some ⟨w0.heap.size, 0, none⟩) 1 1) [i.proto] := fun w0 =>
    ⟨_, 1, rfl, Nat.le_refl _, (fun h => by cases h), Kin.Arr.of_reps (by decide) (reps_scalar Value.string (fun _ => rfl) _ _ [i.proto]) (row_new w0 [.string i.proto] 9)⟩
  have hs1 := hss ((w.alloc (.cells #[.string i.proto, .slice As i.schemes.length cs] 48)).alloc (.cells #[.slice none 0 0, .bool false] 120))
  have hz : ((w.alloc (.cells #[.string i.proto, .slice As i.schemes.length cs] 48)).alloc (.cells #[.slice none 0 0, .bool false] 120)).heap.size = w.heap.size + 1 + 1 := by simp
  rw [hz] at hs1
  clear hz
  refine (rprotos_any _ [i.proto] _ 1 hs1 (by simp)).mono ?_
  rintro e wt1 ⟨t1, b1, rfl, htl1, hk2, hm⟩
  have hm1 := Lib.hid hm
  have hpt1 := Lib.hid (hps.out.kp (hka.trans hk2))
  clear hka hss hs1 hm hk2
  obtain ⟨⟨_, hb⟩, _⟩ := hpt1.out
  have c0 := cells_at hb 0 rfl
  have c1 := cells_at hb 1 rfl
  have hbl := lt_of_block hb
  clear hb
  go_wp2_with fail
  refine (add_st hpt1.out (by simp) 16 (!i.proto.toList.isEmpty) b1 (Bt t1) (by rw [Bt_size]; omega)).mono ?_
  rintro e wa1 ⟨l1, d1, rfl, hps1, ha1, hn1⟩
  have hps1' := Lib.hid hps1
  clear hps1 c0 c1 hbl
  obtain ⟨⟨_, hb⟩, _⟩ := hps1'.out
  have c0 := cells_at hb 0 rfl
  have c1 := cells_at hb 1 rfl
  have hbl := lt_of_block hb
  clear hb
  go_wp2_with fail
  refine (rlist2_any _ i.schemes _ 2 32 (hs'.out.kp hps1'.out.2.2.1 (fun _ _ _ h => h)) hl (.inl rfl)).mono ?_
  rintro e wt2 ⟨t2, b2, rfl, htl2, hk2, hm⟩
  have hm2 := Lib.hid hm
  have hpt2 := Lib.hid (hps1'.out.kp hk2)
  clear c0 c1 hbl hm hk2
  obtain ⟨⟨_, hb⟩, _⟩ := hpt2.out
  have c0 := cells_at hb 0 rfl
  have c1 := cells_at hb 1 rfl
  have hbl := lt_of_block hb
  clear hb
  go_wp2_with fail
  refine (add_st hpt2.out (by simp at hn1; omega) 13 (decide (0 < i.schemes.length)) b2 (Bt t2) (by rw [Bt_size]; omega)).mono ?_
  rintro e wa2 ⟨l2, d2, rfl, hps2, ha2, hn2⟩
  have hps2' := Lib.hid hps2
  clear hps2 c0 c1 hbl
  obtain ⟨vq, tq, hbq, hown⟩ := hps2'.out.2.1
  obtain ⟨Aq, cq, rfl, _, _⟩ := hown.form
  obtain ⟨q0, q1, _, _⟩ := two_cells hbq
  have hql := lt_of_block hbq
  have hread := Lib.hid (hown.read (by decide))
  clear hbq hown
  have hfin : ∀ (ok : Bool) (nq : Nat), ok = (!d2) → RP w (putInnerM i) (.returned (.tuple #[.slice Aq l2.length cq, .bool ok])) (wa2.drewN nq) := by
    intro ok nq hok
    have i1 := (Inv.nil false).add 16 (!i.proto.toList.isEmpty) (wprotos [i.proto] 1) b1 t1 (fun _ => rel_rs hm1.out)
    rw [← byt_Bt t1, ← ha1.out.1, ← ha1.out.2] at i1
    have i2 := i1.add 13 (decide (0 < i.schemes.length)) (wnumbers 2 2 i.schemes 1 32) b2 t2 (fun _ => rel_rs hm2.out)
    rw [← byt_Bt t2, ← ha2.out.1, ← ha2.out.2] at i2
    have h5 := putInner_inv i2
    have hkp := hps2'.out.2.2.1.drewN nq
    refine ⟨_, l2, ok, rfl, ?_, hkp, by have h0 : ([] : List (Int × List UInt8)).length = 0 := rfl; omega, by rw [hok]; exact h5⟩
    have hkd : Kp nobody wa2 (wa2.drewN nq) := (Kp.refl _ _).drewN nq
    exact (hread.out.kp hkd (fun _ _ _ h => h)).mono (fun k _ h => h.elim (fun h => by have h' : w.heap.size + 2 ≤ k := h; omega) (fun h => by have h' : w.heap.size + 2 ≤ k := h; omega))
  have hfin' := Lib.hid hfin
  clear hfin
  go_wp2_with fail
  cases d2
  · go_quiet (fail)
    go_wp2_with fail
    go_ret2
    exact hfin'.out true nq rfl
  · go_quiet (fail)
    go_wp2_with fail
    go_ret2
    exact hfin'.out false nq rfl
end Go.Proofs.YtiaheamhmhnodaaGreatDoor
