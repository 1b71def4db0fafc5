/- MsgChoices answers true. -/
import Derived.Test.YtiaheamhmhnodaaPl
import Derived.Test.YtiaheamhmhnodaaLw
import Derived.Test.YtiaheamhmhnodaaRi
namespace Go.Proofs.Ytiaheamhmhnodaa
open Go.RowKit M

theorem msgChoices_big (w : World) (c : Ch) (i : In) (vk vc vs : Value) {N : Nat → Prop} (hk : Bs N w vk c.key) (hv : Bs N w vc c.cookie) (hs : Is N w vs i.schemes)
    (hb : ¬ (c.key.length ≤ 524288 ∧ c.cookie.length ≤ 524288 ∧ i.proto.size ≤ 524288 ∧ i.schemes.length ≤ 256)) :
    Calls Try.prog 3 #[.agg (c.cells vk vc), .agg #[.string i.proto, vs]] w fun e w' => e = .returned (.bool true) ∧ Kp nobody w w' := by
  obtain ⟨Ak, ck, rfl, _, _, _⟩ := hk
  obtain ⟨Ac, cc, rfl, _, _, _⟩ := hv
  obtain ⟨As, cs, rfl, _, _, _⟩ := hs
  unfold Ch.cells
  by_cases h1 : 524288 < c.key.length
  · go_enter Try.func3, Try.ntmps3
    go_wp2_with fail
    go_ret
    exact ⟨rfl, ((Kp.refl _ _).alloc _).alloc _⟩
  · by_cases h2 : 524288 < c.cookie.length
    · go_enter Try.func3, Try.ntmps3
      go_wp2_with fail
      go_ret
      exact ⟨rfl, ((Kp.refl _ _).alloc _).alloc _⟩
    · by_cases h3 : 524288 < i.proto.size
      · go_enter Try.func3, Try.ntmps3
        go_wp2_with fail
        go_ret
        exact ⟨rfl, ((Kp.refl _ _).alloc _).alloc _⟩
      · have h4 : 256 < i.schemes.length := by omega
        go_enter Try.func3, Try.ntmps3
        go_wp2_with fail
        go_ret
        exact ⟨rfl, ((Kp.refl _ _).alloc _).alloc _⟩

theorem PutPost.kp {w w' : World} {m : Option (List (Int × List UInt8))} {e : Ending} (h : PutPost w m e w') : Kp nobody w w' := by
  cases m with
  | none => exact h.2
  | some l => exact h.choose_spec.2.2
/-- what reads, reads within the heap -/
theorem Sl.below {α : Type} {d : Kin α} {N : Nat → Prop} {w : World} {v : Value} {xs : List α} (h : Sl d N w v xs) : Sl d (fun k => k < w.heap.size) w v xs := h.mono (fun _ hk _ => hk)

/-- the two arguments, boxed: what the walk holds of a later world -/
structure Two (w : World) (c : Ch) (i : In) (vk vc vs : Value) (t1 t2 : TypeId) (w1 : World) : Prop where
  b1 : w1.heap[w.heap.size]? = some (.cells (c.cells vk vc) t1 (0, 0))
  b2 : w1.heap[w.heap.size + 1]? = some (.cells #[.string i.proto, vs] t2 (0, 0))
  k : Bs (fun k => k < w.heap.size) w1 vk c.key
  v : Bs (fun k => k < w.heap.size) w1 vc c.cookie
  s : Is (fun k => k < w.heap.size) w1 vs i.schemes
  kp : Kp nobody w w1
theorem Two.to {w w1 w2 : World} {c : Ch} {i : In} {vk vc vs : Value} {t1 t2 : TypeId} (h : Two w c i vk vc vs t1 t2 w1) (hk : Kp nobody w1 w2) : Two w c i vk vc vs t1 t2 w2 :=
  ⟨hk.blk id h.b1, hk.blk id h.b2, h.k.kp hk (fun _ _ _ h => h), h.v.kp hk (fun _ _ _ h => h), h.s.kp hk (fun _ _ _ h => h), h.kp.trans hk⟩
theorem Two.lt {w w1 : World} {c : Ch} {i : In} {vk vc vs : Value} {t1 t2 : TypeId} (h : Two w c i vk vc vs t1 t2 w1) : w.heap.size + 1 < w1.heap.size := lt_of_block h.b2
theorem Two.start (w : World) (c : Ch) (i : In) (vk vc vs : Value) (t1 t2 : TypeId) (hk : Bs (fun k => k < w.heap.size) w vk c.key) (hv : Bs (fun k => k < w.heap.size) w vc c.cookie) (hs : Is (fun k => k < w.heap.size) w vs i.schemes) :
    Two w c i vk vc vs t1 t2 ((w.alloc (.cells (c.cells vk vc) t1)).alloc (.cells #[.string i.proto, vs] t2)) := by
  have hka : Kp nobody w ((w.alloc (.cells (c.cells vk vc) t1)).alloc (.cells #[.string i.proto, vs] t2)) := ((Kp.refl _ _).alloc _).alloc _
  refine ⟨((Kp.refl nobody _).alloc _).blk id (heap_alloc_new _ _), by simpa using heap_alloc_new (w.alloc (.cells (c.cells vk vc) t1)) (.cells #[.string i.proto, vs] t2), hk.kp hka (fun _ _ _ h => h), hv.kp hka (fun _ _ _ h => h), hs.kp hka (fun _ _ _ h => h), hka⟩

set_option maxRecDepth 10000 in
set_option maxHeartbeats 4000000 in
theorem msgChoices_small (w : World) (c : Ch) (i : In) (vk vc vs : Value) (hk : Bs (fun k => k < w.heap.size) w vk c.key) (hv : Bs (fun k => k < w.heap.size) w vc c.cookie) (hs : Is (fun k => k < w.heap.size) w vs i.schemes)
    (h1 : c.key.length ≤ 524288) (h2 : c.cookie.length ≤ 524288) (h3 : i.proto.size ≤ 524288) (h4 : i.schemes.length ≤ 256) (hc : c.ok) (hi : i.ok) :
    Calls Try.prog 3 #[.agg (c.cells vk vc), .agg #[.string i.proto, vs]] w fun e w' => e = .returned (.bool true) ∧ Kp nobody w w' := by
  have hT := Lib.hid (Two.start w c i vk vc vs 26 29 hk hv hs)
  have hc' := Lib.hid hc
  have hi' := Lib.hid hi
  obtain ⟨Ak, ck, rfl, _, _, _⟩ := hk
  obtain ⟨Ac, cc, rfl, _, _, _⟩ := hv
  obtain ⟨As, cs, rfl, _, _, _⟩ := hs
  clear hc hi
  unfold Ch.cells at hT ⊢
  go_enter Try.func3, Try.ntmps3
  go_wp2_with fail
  refine (putChoice_any _ c _ _ hc'.out (hT.out.k.mono (fun k _ h => by omega)) (hT.out.v.mono (fun k _ h => by omega))).mono ?_
  intro e w3 hp
  obtain ⟨lv, lc, rfl⟩ := hp.form
  have hT3 := Lib.hid (hT.out.to hp.kp)
  have hp' := Lib.hid hp
  clear hp
  obtain ⟨hb, _, _, _, _, _⟩ := hT3.out
  unfold Ch.cells at hb
  have c0 := cells_at hb 0 rfl
  have c1 := cells_at hb 1 rfl
  have c2 := cells_at hb 2 rfl
  have c3 := cells_at hb 3 rfl
  have c4 := cells_at hb 4 rfl
  have c5 := cells_at hb 5 rfl
  have c6 := cells_at hb 6 rfl
  have hbl := hT3.out.lt
  clear hb
  go_wp2_with fail
  refine (rputChoice_any _ c _ _ hc'.out (hT3.out.k.mono (fun k _ h => by omega)) (hT3.out.v.mono (fun k _ h => by omega))).mono ?_
  rintro e w4 ⟨v4, l4, ok, rfl, hv4, hk4, hm⟩
  have hT4 := Lib.hid (hT3.out.to hk4)
  have hv4' := Lib.hid hv4
  have hk4' := Lib.hid hk4
  clear hv4 hk4 c0 c1 c2 c3 c4 c5 c6 hbl
  go_upto_if 52 with fail
  go_cut [] (fun wx => Hid (Two w c i (.slice Ak c.key.length ck) (.slice Ac c.cookie.length cc) (.slice As i.schemes.length cs) 26 29 wx))
  case first =>
    cases hpc : putChoiceM c with
    | none =>
      rw [hpc] at hm
      subst hm
      have hp := hp'.out
      rw [hpc] at hp
      obtain ⟨he, _⟩ := hp
      injection he with he
      injection he with he
      simp only [Array.mk.injEq, List.cons.injEq, and_true] at he
      obtain ⟨rfl, rfl⟩ := he
      clear hpc
      go_wp2_with fail
      go_meet
      exact hT4
    | some l =>
      rw [hpc] at hm
      obtain ⟨rfl, rfl⟩ := hm
      have hp := hp'.out
      rw [hpc] at hp
      obtain ⟨lv', he, hlv, _⟩ := hp
      injection he with he
      injection he with he
      simp only [Array.mk.injEq, List.cons.injEq, and_true] at he
      obtain ⟨rfl, rfl⟩ := he
      have hpc' := Lib.hid hpc
      have hlv4 := Lib.hid (hlv.kp hk4'.out (fun _ _ _ h => h))
      have hll := (choice_kinds hpc).1
      clear hpc hlv
      go_wp2_with fail
      refine (fields_eq _ l4 _ _ hlv4.out hv4'.out (by omega)).mono ?_
      rintro e w5 ⟨rfl, hk5⟩
      have hT5 := Lib.hid (hT4.out.to hk5)
      have hlv5 := Lib.hid (hlv4.out.kp hk5 (fun _ _ _ h => h))
      clear hk5
      obtain ⟨hb, _, _, _, _, _⟩ := hT5.out
      unfold Ch.cells at hb
      have c0 := cells_at hb 0 rfl
      have c1 := cells_at hb 1 rfl
      have c2 := cells_at hb 2 rfl
      have c3 := cells_at hb 3 rfl
      have c4 := cells_at hb 4 rfl
      have c5 := cells_at hb 5 rfl
      have c6 := cells_at hb 6 rfl
      have hbl := hT5.out.lt
      clear hb
      go_wp2_with fail
      refine (choice_any _ _ l4 (c.group != 0) (hlv5.out.below) (by omega) (choice_kinds hpc'.out).2.1 (fun f hf => Nat.le_trans ((choice_kinds hpc'.out).2.2 f hf) (by decide))).mono ?_
      intro e w6 h6
      rw [choice_back hpc'.out] at h6
      obtain ⟨vk6, vc6, rfl, hvk6, hvc6, hk6⟩ := h6
      have hT6 := Lib.hid (hT5.out.to hk6)
      have hvk6' := Lib.hid hvk6
      have hvc6' := Lib.hid hvc6
      obtain ⟨Ak6, ck6, rfl, _, _, _⟩ := hvk6
      obtain ⟨Ac6, cc6, rfl, _, _, _⟩ := hvc6
      clear hk6 c0 c1 c2 c3 c4 c5 c6 hbl
      have hka : Kp nobody w6 (w6.alloc (.cells (c.cells (.slice Ak6 c.key.length ck6) (.slice Ac6 c.cookie.length cc6)) 26)) := (Kp.refl _ _).alloc _
      have hka' := Lib.hid hka
      have hT7 := Lib.hid (hT6.out.to hka)
      obtain ⟨hb, _, _, _, _, _⟩ := hT7.out
      unfold Ch.cells at hb hka' hT7 ⊢
      have c0 := cells_at hb 0 rfl
      have c1 := cells_at hb 1 rfl
      have c2 := cells_at hb 2 rfl
      have c3 := cells_at hb 3 rfl
      have c4 := cells_at hb 4 rfl
      have c5 := cells_at hb 5 rfl
      have c6 := cells_at hb 6 rfl
      have hbl := hT6.out.lt
      have hbl' : w.heap.size < w6.heap.size := by omega
      clear hb hka
      go_wp2_with fail
      have heq := choices_eq (w6.alloc (.cells (c.cells (.slice Ak6 c.key.length ck6) (.slice Ac6 c.cookie.length cc6)) 26)) c (.slice Ak6 c.key.length ck6) (.slice Ac6 c.cookie.length cc6) (.slice Ak c.key.length ck) (.slice Ac c.cookie.length cc) (hvk6'.out.kp hka'.out (fun _ _ _ h => h)) (hvc6'.out.kp hka'.out (fun _ _ _ h => h)) hT7.out.k hT7.out.v
      unfold Ch.cells at heq
      refine heq.mono ?_
      clear heq
      rintro e w8 ⟨rfl, hk8⟩
      have hT8 := Lib.hid (hT7.out.to hk8)
      clear hk8
      go_wp2_with fail
      go_meet
      exact hT8
  case rest =>
  clear hT hp' hT3 hT4 hv4' hk4' hm
  have hT := hcut
  clear hcut
  obtain ⟨_, hb, _, _, _, _⟩ := hT.out
  have c0 := cells_at hb 0 rfl
  have c1 := cells_at hb 1 rfl
  have hbl := hT.out.lt
  clear hb
  go_wp2_with fail
  refine (putInner_any _ i _ hi'.out (hT.out.s.mono (fun k _ h => by omega))).mono ?_
  intro e w3 hp
  obtain ⟨lv, lc, rfl⟩ := hp.form
  have hT3 := Lib.hid (hT.out.to hp.kp)
  have hp' := Lib.hid hp
  clear hp c0 c1 hbl
  obtain ⟨_, hb, _, _, _, _⟩ := hT3.out
  have c0 := cells_at hb 0 rfl
  have c1 := cells_at hb 1 rfl
  have hbl := hT3.out.lt
  clear hb
  go_wp2_with fail
  refine (rputInner_any _ i _ (hT3.out.s.mono (fun k _ h => by omega)) (by omega)).mono ?_
  rintro e w4 ⟨v4, l4, ok, rfl, hv4, hk4, hm⟩
  have hT4 := Lib.hid (hT3.out.to hk4)
  have hv4' := Lib.hid hv4
  have hk4' := Lib.hid hk4
  clear hv4 hk4 c0 c1 hbl
  cases hpc : putInnerM i with
  | none =>
    rw [hpc] at hm
    subst hm
    have hp := hp'.out
    rw [hpc] at hp
    obtain ⟨he, _⟩ := hp
    injection he with he
    injection he with he
    simp only [Array.mk.injEq, List.cons.injEq, and_true] at he
    obtain ⟨rfl, rfl⟩ := he
    clear hpc
    go_wp2_with fail
    go_ret
    exact ⟨rfl, hT4.out.kp⟩
  | some l =>
    rw [hpc] at hm
    obtain ⟨rfl, rfl⟩ := hm
    have hp := hp'.out
    rw [hpc] at hp
    obtain ⟨lv', he, hlv, _⟩ := hp
    injection he with he
    injection he with he
    simp only [Array.mk.injEq, List.cons.injEq, and_true] at he
    obtain ⟨rfl, rfl⟩ := he
    have hpc' := Lib.hid hpc
    have hlv4 := Lib.hid (hlv.kp hk4'.out (fun _ _ _ h => h))
    have hll := (inner_kinds hpc).1
    clear hpc hlv
    go_wp2_with fail
    refine (fields_eq _ l4 _ _ hlv4.out hv4'.out (by omega)).mono ?_
    rintro e w5 ⟨rfl, hk5⟩
    have hT5 := Lib.hid (hT4.out.to hk5)
    have hlv5 := Lib.hid (hlv4.out.kp hk5 (fun _ _ _ h => h))
    clear hk5
    go_wp2_with fail
    refine (inner_any _ _ l4 (hlv5.out.below) (by omega) (inner_kinds hpc'.out).2.1 (fun f hf => Nat.le_trans ((inner_kinds hpc'.out).2.2 f hf) (by decide))).mono ?_
    intro e w6 h6
    rw [inner_back hpc'.out] at h6
    obtain ⟨vs6, rfl, hvs6, hk6⟩ := h6
    have hT6 := Lib.hid (hT5.out.to hk6)
    have hvs6' := Lib.hid hvs6
    obtain ⟨As6, cs6, rfl, _, _, _⟩ := hvs6
    clear hk6
    have hka : Kp nobody w6 (w6.alloc (.cells #[.string i.proto, .slice As6 i.schemes.length cs6] 29)) := (Kp.refl _ _).alloc _
    have hka' := Lib.hid hka
    have hT7 := Lib.hid (hT6.out.to hka)
    obtain ⟨_, hb, _, _, _, _⟩ := hT6.out
    have c0 := cells_at hb 0 rfl
    have c1 := cells_at hb 1 rfl
    have hbl := hT6.out.lt
    clear hb hka
    go_wp2_with fail
    refine (numbers_eq _ i.schemes _ _ (hvs6'.out.kp hka'.out (fun _ _ _ h => h)) hT7.out.s (by omega)).mono ?_
    rintro e w8 ⟨rfl, hk8⟩
    have hT8 := Lib.hid (hT7.out.to hk8)
    have hb6 := hk8.blk id (heap_alloc_new w6 (.cells #[.string i.proto, .slice As6 i.schemes.length cs6] 29))
    have d0 := cells_at hb6 0 rfl
    clear hk8 hb6 c0 c1 hbl
    obtain ⟨_, hb, _, _, _, _⟩ := hT8.out
    have c0 := cells_at hb 0 rfl
    have hbl := hT8.out.lt
    clear hb
    go_wp2_with fail
    go_ret
    exact ⟨rfl, hT8.out.kp⟩
end Go.Proofs.Ytiaheamhmhnodaa
