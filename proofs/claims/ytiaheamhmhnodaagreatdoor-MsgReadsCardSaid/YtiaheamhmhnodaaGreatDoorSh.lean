/- A share that is read. -/
import Derived.Test.YtiaheamhmhnodaaGreatDoorPut
import Derived.Test.YtiaheamhmhnodaaGreatDoorNm
namespace Go.Proofs.YtiaheamhmhnodaaGreatDoor
open Go.RowKit M

def mshare : RM (Int × List UInt8) := fun s => match M.num 2 s with
  | none => none
  | some (n, r) => match M.vec 2 1 65535 r with
    | none => none
    | some (t, r') => some (((n : Int), t), r')

section
variable {x : Nat} {N : Nat → Prop} {w : World} {s : List UInt8}
set_option maxHeartbeats 400000 in
/-- a share that is read: a struct of two cells -/
theorem rshare_any (hrd : Rd N w x s) (hs : s.length ≤ 140737488355328) (hNb : ∀ k, N k → k < w.heap.size) :
    Calls Tryz.prog 50 #[.pointer (some ⟨x, 0, none⟩)] w (RdPost N x w (mshare s) (fun y v w' => ∃ u, v = .agg #[.int .i64 y.1, u] ∧ Bs (fun k => w.heap.size ≤ k) w' u y.2)) := by
  have hka : Kp nobody w (w.alloc (.cells #[.int .i64 0, .slice none 0 0] 39)) := (Kp.refl _ _).alloc _
  have hrd0 := rd_kp hrd hka (fun h => h) (fun _ _ _ h => h)
  have hka' := Lib.hid hka
  have hxl := rd_lt hrd
  clear hka
  go_enter Tryz.func50, Tryz.ntmps50
  go_wp2_with fail
  refine (num_any' _ x s 2 hrd0 (by decide) hs (by decide)).mono ?_
  rintro e w1 h1
  simp only [Int.reduceToNat] at h1
  cases hm : M.num 2 s with
  | none =>
    rw [hm] at h1
    obtain ⟨rfl, hk⟩ := h1
    exact ⟨rfl, .no (by unfold mshare; rw [hm]) ((hka'.out.mono (fun _ _ h => h.elim)).trans hk)⟩
  | some y =>
    obtain ⟨n, s1⟩ := y
    rw [hm] at h1
    obtain ⟨v, rfl, rfl, hrd1, hk⟩ := h1
    have hs1 : s1.length ≤ 140737488355328 := by
      unfold M.num at hm
      split at hm
      · simp only [Option.some.injEq, Prod.mk.injEq] at hm
        rw [← hm.2, List.length_drop]; omega
      · cases hm
    have hm' := Lib.hid hm
    have hblk := hk.blk (by have h1 : ¬ (fun y => y = x) w.heap.size := fun h => by omega
                            exact h1) (heap_alloc_new w (.cells #[.int .i64 0, .slice none 0 0] 39))
    have hk' := Lib.hid hk
    clear hm hrd0
    go_wp2_with fail
    refine (vec_any _ x s1 2 1 65535 hrd1 hs1 (by decide) (by decide) (by decide) (by decide)).mono ?_
    rintro e w2 h2
    simp only [Int.reduceToNat] at h2
    cases hm2 : M.vec 2 1 65535 s1 with
    | none =>
      rw [hm2] at h2
      obtain ⟨rfl, hk2⟩ := h2
      exact ⟨rfl, .no (by unfold mshare; rw [hm'.out]; simp only [hm2]) (((hka'.out.mono (fun _ _ h => h.elim)).trans hk'.out).trans hk2)⟩
    | some y =>
      obtain ⟨t, s2⟩ := y
      rw [hm2] at h2
      obtain ⟨v, rfl, hv, hrd2, hk2⟩ := h2
      have hblk2 := hk2.blk (by have h1 : ¬ (fun y => y = x) w.heap.size := fun h => by omega
                                exact h1) hblk
      obtain ⟨hc0, hc1, hf0, hf1⟩ := two_cells hblk2
      have hwl := lt_of_block hblk2
      have hm2' := Lib.hid hm2
      have hv' := Lib.hid hv
      have hrd2' := Lib.hid hrd2
      have hk2' := Lib.hid hk2
      have hs0 : w.heap.size < w1.heap.size := lt_of_block hblk
      obtain ⟨Av, cv, rfl, _, _, _⟩ := hv
      clear hm2 hrd2 hk2 hblk hblk2 hk hrd1
      go_wp2_with fail
      have hkk : Kp (· = w.heap.size) w2 ((w2.setCell ⟨w.heap.size, 0, none⟩ (.int .i64 (n : Int))).setCell ⟨w.heap.size, 1, none⟩ (.slice Av t.length cv)) := (kp_set _ _ _ _).trans (kp_set _ _ _ _)
      refine bodyPost_ret (v := .agg #[.int .i64 (n : Int), .slice Av t.length cv]) (by simp [results, Tryz.results50, go_sem, hc0, hc1]) rfl ?_
      refine .yes (x := ((n : Int), t)) (s' := s2) (by unfold mshare; rw [hm'.out]; simp only [hm2'.out]) ⟨_, rfl, ?_⟩ (rd_kp hrd2'.out hkk (fun e => by omega) (fun k hk hN e => ?_)) ?_
      · exact (hv'.out.kp hkk (fun k hk h e => by have h' : w1.heap.size ≤ k := h; omega)).mono (fun k _ h => by have h' : w1.heap.size ≤ k := h; omega)
      · have h' : k = w.heap.size := e
        have := hNb k hN
        omega
      · exact (((hka'.out.mono (fun _ _ h => h.elim)).trans hk'.out).trans hk2'.out).trans' hkk (fun k hk h => by omega)
end
end Go.Proofs.YtiaheamhmhnodaaGreatDoor
