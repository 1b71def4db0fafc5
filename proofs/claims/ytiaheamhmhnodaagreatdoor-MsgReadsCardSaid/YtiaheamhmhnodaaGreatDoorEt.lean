/- The document's own readTickets. -/
import Derived.Test.YtiaheamhmhnodaaGreatDoorEf
import Derived.Test.YtiaheamhmhnodaaGreatDoorOv
import Derived.Test.YtiaheamhmhnodaaGreatDoorOw
namespace Go.Proofs.YtiaheamhmhnodaaGreatDoor
open Go.RowKit M

theorem lnum_lt (n : Nat) (s : List UInt8) : (lnum n s).1 < 256 ^ n :=
  Nat.lt_of_lt_of_le (be_lt _) (Nat.pow_le_pow_right (by decide) (ltake_len n s).2.2)
theorem lident_dec (s : List UInt8) (h : s ≠ []) : (lident s).2.length < s.length := by
  have h1 := lvec_dec 2 s (by decide) h
  have h2 := (ltake_len 4 (lvec 2 s).2).2.1
  show (ltake 4 (lvec 2 s).2).2.length < _
  omega
/-- an Offer's cells with nothing but tickets -/
def tkCells (v9 v10 : Value) : Array Value := #[.string ⟨#[]⟩, .slice none 0 0, .slice none 0 0, .slice none 0 0, .slice none 0 0, .slice none 0 0, .slice none 0 0, .bool false, .slice none 0 0, v9, v10]

set_option maxRecDepth 10000 in
set_option maxHeartbeats 1600000 in
theorem rreadTickets_any (w : World) (s : List UInt8) (hs : s.length ≤ 1000000) :
    Calls Tryz.prog 21 #[.string (Bt s)] w fun e w' =>
      ∃ v9 v10, e = .returned (.agg (tkCells v9 v10)) ∧ Sl kident (fun k => w.heap.size ≤ k) w' v9 (lidents s) ∧ Sl kbind (fun k => w.heap.size ≤ k) w' v10 (lbinders s) ∧ Kp nobody w w' := by
  obtain ⟨ta, s1, hq1⟩ : ∃ ta s1, lvec 2 s = (ta, s1) := ⟨_, _, rfl⟩
  obtain ⟨tb, s2, hq2⟩ : ∃ tb s2, lvec 2 s1 = (tb, s2) := ⟨_, _, rfl⟩
  have hla : ta.length ≤ 1000000 := by have := (lvec_len 2 s).1; rw [hq1] at this; simp only at this; omega
  have hlb : tb.length ≤ 1000000 := by have := (lvec_len 2 s).2; have h2 := (lvec_len 2 s1).1; rw [hq1] at this; rw [hq2] at h2; simp only at this h2; omega
  have hI : Hid (lidents s = lall lident ta.length ta) := by show lidents s = _; unfold lidents; rw [hq1]
  have hB : Hid (lbinders s = lall (lvec 1) tb.length tb) := by show lbinders s = _; unfold lbinders; rw [hq1]; simp only; rw [hq2]
  have hC1 : Hid (∀ W b, Lr W b s → Calls Tryz.prog 29 #[.pointer (some ⟨b, 0, none⟩), .int .i64 2] W fun e w' => e = .returned (.string (Bt ta)) ∧ Lr w' b s1 ∧ Kp (· = b) W w') := fun W b h => by
    have h1 := rdvec_any W b s 2 h (by decide)
    rw [hq1] at h1
    exact h1
  have hC2 : Hid (∀ W b, Lr W b s1 → Calls Tryz.prog 29 #[.pointer (some ⟨b, 0, none⟩), .int .i64 2] W fun e w' => e = .returned (.string (Bt tb)) ∧ Lr w' b s2 ∧ Kp (· = b) W w') := fun W b h => by
    have h1 := rdvec_any W b s1 2 h (by decide)
    rw [hq2] at h1
    exact h1
  clear hq1 hq2
  have hcv := cv_bytes
  have hka : Kp nobody w (((w.alloc (.cells (tkCells (.slice none 0 0) (.slice none 0 0)) 31)).alloc (.cells (tkCells (.slice none 0 0) (.slice none 0 0)) 31)).alloc (.cells #[.string (Bt s), .bool false] 66)) := (((Kp.refl _ _).alloc _).alloc _).alloc _
  have hl0 : Lr (((w.alloc (.cells (tkCells (.slice none 0 0) (.slice none 0 0)) 31)).alloc (.cells (tkCells (.slice none 0 0) (.slice none 0 0)) 31)).alloc (.cells #[.string (Bt s), .bool false] 66)) (w.heap.size + 2) s := by
    have h := Lr.new ((w.alloc (.cells (tkCells (.slice none 0 0) (.slice none 0 0)) 31)).alloc (.cells (tkCells (.slice none 0 0) (.slice none 0 0)) 31)) s 66
    simpa using h
  have hbo : ∃ t, (((w.alloc (.cells (tkCells (.slice none 0 0) (.slice none 0 0)) 31)).alloc (.cells (tkCells (.slice none 0 0) (.slice none 0 0)) 31)).alloc (.cells #[.string (Bt s), .bool false] 66)).heap[w.heap.size + 1]? = some (.cells (tkCells (.slice none 0 0) (.slice none 0 0)) t (0, 0)) := by
    refine ⟨31, ((Kp.refl nobody _).alloc _).blk id ?_⟩
    have h := heap_alloc_new (w.alloc (.cells (tkCells (.slice none 0 0) (.slice none 0 0)) 31)) (.cells (tkCells (.slice none 0 0) (.slice none 0 0)) 31)
    simpa using h
  have hbr : ∃ t, (((w.alloc (.cells (tkCells (.slice none 0 0) (.slice none 0 0)) 31)).alloc (.cells (tkCells (.slice none 0 0) (.slice none 0 0)) 31)).alloc (.cells #[.string (Bt s), .bool false] 66)).heap[w.heap.size]? = some (.cells (tkCells (.slice none 0 0) (.slice none 0 0)) t (0, 0)) :=
    ⟨31, ((Kp.refl nobody _).alloc _).blk id (((Kp.refl nobody _).alloc _).blk id (heap_alloc_new w _))⟩
  have hsz0 : (((w.alloc (.cells (tkCells (.slice none 0 0) (.slice none 0 0)) 31)).alloc (.cells (tkCells (.slice none 0 0) (.slice none 0 0)) 31)).alloc (.cells #[.string (Bt s), .bool false] 66)).heap.size = w.heap.size + 3 := by simp
  unfold tkCells at hka hl0 hbo hbr hsz0
  have hka' := Lib.hid hka
  have hbo' := Lib.hid hbo
  have hbr' := Lib.hid hbr
  have hsz0' := Lib.hid hsz0
  replace hl0 := Lib.hid hl0
  clear hka hbo hbr hsz0
  go_enter Tryz.func21, Tryz.ntmps21
  go_wp2_with fail
  refine (hC1.out _ (w.heap.size + 2) hl0.out).mono ?_
  rintro e w1 ⟨rfl, h1, hk1⟩
  have hs1 : w.heap.size + 3 ≤ w1.heap.size := by have := hk1.size; rw [hsz0'.out] at this; exact this
  have hkw1 : Kp nobody w (w1.alloc (.cells #[.string (Bt ta), .bool false] 66)) := (hka'.out.trans' hk1 (fun k hk h => by have h' : k = w.heap.size + 2 := h; omega)).alloc _
  have h1' := Lib.hid (h1.kp (H := nobody) ((Kp.refl _ _).alloc (.cells #[.string (Bt ta), .bool false] 66)) id)
  have hla1 := Lr.new w1 ta 66
  have hbo1 : ∃ t, (w1.alloc (.cells #[.string (Bt ta), .bool false] 66)).heap[w.heap.size + 1]? = some (.cells #[.string ⟨#[]⟩, .slice none 0 0, .slice none 0 0, .slice none 0 0, .slice none 0 0, .slice none 0 0, .slice none 0 0, .bool false, .slice none 0 0, .slice none 0 0, .slice none 0 0] t (0, 0)) := by
    obtain ⟨t, h⟩ := hbo'.out
    exact ⟨t, ((Kp.refl nobody _).alloc _).blk id (hk1.blk (fun h => by omega) h)⟩
  have hbr1 : ∃ t, (w1.alloc (.cells #[.string (Bt ta), .bool false] 66)).heap[w.heap.size]? = some (.cells #[.string ⟨#[]⟩, .slice none 0 0, .slice none 0 0, .slice none 0 0, .slice none 0 0, .slice none 0 0, .slice none 0 0, .bool false, .slice none 0 0, .slice none 0 0, .slice none 0 0] t (0, 0)) := by
    obtain ⟨t, h⟩ := hbr'.out
    exact ⟨t, ((Kp.refl nobody _).alloc _).blk id (hk1.blk (fun h => by omega) h)⟩
  replace hbo1 := Lib.hid hbo1
  replace hbr1 := Lib.hid hbr1
  replace hla1 := Lib.hid hla1
  replace hkw1 := Lib.hid hkw1
  clear h1 hk1 hbo' hbr' hka' hl0 hsz0'
  go_wp2_with fail
  refine (hC2.out _ (w.heap.size + 2) h1'.out).mono ?_
  rintro e w2 ⟨rfl, h2, hk2⟩
  have hs2 : w1.heap.size + 1 ≤ w2.heap.size := by have := hk2.size; simpa using this
  have hkw2 : Kp nobody w (w2.alloc (.cells #[.string (Bt tb), .bool false] 66)) := (hkw1.out.trans' hk2 (fun k hk h => by have h' : k = w.heap.size + 2 := h; omega)).alloc _
  have hla2 := (hla1.out.kp hk2 (fun h => by have h' : w1.heap.size = w.heap.size + 2 := h; omega)).kp (H := nobody) ((Kp.refl _ _).alloc (.cells #[.string (Bt tb), .bool false] 66)) id
  have hlb2 := Lr.new w2 tb 66
  have hbo2 : ∃ t, (w2.alloc (.cells #[.string (Bt tb), .bool false] 66)).heap[w.heap.size + 1]? = some (.cells (tkCells (.slice none 0 0) (.slice none 0 0)) t (0, 0)) := by
    obtain ⟨t, h⟩ := hbo1.out
    exact ⟨t, ((Kp.refl nobody _).alloc _).blk id (hk2.blk (fun h => by omega) h)⟩
  have hbr2 : ∃ t, (w2.alloc (.cells #[.string (Bt tb), .bool false] 66)).heap[w.heap.size]? = some (.cells (tkCells (.slice none 0 0) (.slice none 0 0)) t (0, 0)) := by
    obtain ⟨t, h⟩ := hbr1.out
    exact ⟨t, ((Kp.refl nobody _).alloc _).blk id (hk2.blk (fun h => by omega) h)⟩
  have hl2a := Lib.hid hla2
  have hl2b := Lib.hid hlb2
  replace hbo2 := Lib.hid hbo2
  replace hbr2 := Lib.hid hbr2
  replace hkw2 := Lib.hid hkw2
  have hn0 : w.heap.size + 1 < w1.heap.size ∧ w1.heap.size < w2.heap.size := ⟨by omega, by omega⟩
  clear h2 hk2 hbo1 hbr1 hkw1 hla1 h1' hC1 hC2 hs1 hs2 hla2 hlb2
  go_wp2_with fail
  go_loopg [] ta.length (fun g wr => ∃ (r : List UInt8) (acc : List (List UInt8 × Int)) (v9 : Value), Hid (Lr wr w1.heap.size r) ∧ Hid (Lr wr w2.heap.size tb) ∧ Hid (∃ t, wr.heap[w.heap.size]? = some (.cells (tkCells (.slice none 0 0) (.slice none 0 0)) t (0, 0))) ∧ Hid (∃ t, wr.heap[w.heap.size + 1]? = some (.cells (tkCells v9 (.slice none 0 0)) t (0, 0))) ∧ Hid (Own kident (fun k => w2.heap.size < k) (fun k => w2.heap.size < k) 74 wr v9 acc) ∧ Hid (Kp nobody w wr) ∧ w2.heap.size < wr.heap.size ∧ r.length ≤ g ∧ acc.length + g = ta.length ∧ Hid (acc ++ lall lident g r = lidents s))
  case atStart => exact ⟨ta, [], .slice none 0 0, hl2a, hl2b, hbr2, hbo2, Own.nil _ _ _ _ _, hkw2, by simp, Nat.le_refl _, by simp, by rw [hI.out]; rfl⟩
  case round =>
    obtain ⟨r, acc, v9, hlr, hlrb, hbr, hbo, hown, hk, hlt, hrg, hag, heq⟩ := hrel
    obtain ⟨A, cv, rfl, _, _⟩ := hown.out.form
    obtain ⟨bad, ty, hb⟩ := hlr.out
    obtain ⟨hc0, hc1, hf0, hf1⟩ := two_cells hb
    have hbl := lt_of_block hb
    have hz := Bt_size r
    clear hb
    by_cases hr : r = []
    · subst hr
      go_wp2_with fail
      have hI2 : Hid (acc = lidents s) := by
        have h := heq.out
        rw [show lall lident gk [] = [] from by cases gk <;> rfl, List.append_nil] at h
        exact h
      have hsl0 := (Own.read (by decide) hown.out).mono (N' := fun k => w2.heap.size < k ∧ k < wr.heap.size) (fun k hk h => ⟨h.elim id id, hk⟩)
      have hsl := Lib.hid hsl0
      clear hc0 hc1 hf0 hf1 hbl hz hlr
      obtain ⟨wo, rfl⟩ : ∃ wo : World, wo = wr := ⟨_, rfl⟩
      go_loopg [] tb.length (fun g wr => ∃ (r : List UInt8) (acc2 : List (List UInt8)) (v10 : Value), Hid (Lr wr w2.heap.size r) ∧ Hid (∃ t, wr.heap[w.heap.size]? = some (.cells (tkCells (.slice none 0 0) (.slice none 0 0)) t (0, 0))) ∧ Hid (∃ t, wr.heap[w.heap.size + 1]? = some (.cells (tkCells (.slice A acc.length cv) v10) t (0, 0))) ∧ Hid (Own kbind (fun k => wo.heap.size ≤ k) (fun k => wo.heap.size ≤ k) 26 wr v10 acc2) ∧ Hid (Sl kident (fun k => w2.heap.size < k ∧ k < wo.heap.size) wr (.slice A acc.length cv) acc) ∧ Hid (Kp nobody w wr) ∧ wo.heap.size ≤ wr.heap.size ∧ r.length ≤ g ∧ acc2.length + g = tb.length ∧ Hid (acc2 ++ lall (lvec 1) g r = lbinders s))
      case atStart => exact ⟨tb, [], .slice none 0 0, hlrb, hbr, hbo, Own.nil _ _ _ _ _, hsl, hk, Nat.le_refl _, Nat.le_refl _, by simp, by rw [hB.out]; rfl⟩
      case round =>
        have hI3 := hI2
        clear hlrb hbr hbo hk hown heq hsl0 hsl
        obtain ⟨r, acc2, v10, hlr, hbr, hbo, hown, hsl, hk, hlt2, hrg, hag2, heq⟩ := hrel
        obtain ⟨A2, cv2, rfl, _, _⟩ := hown.out.form
        obtain ⟨bad, ty, hb⟩ := hlr.out
        obtain ⟨hc0, hc1, hf0, hf1⟩ := two_cells hb
        have hbl := lt_of_block hb
        have hz := Bt_size r
        clear hb
        by_cases hr : r = []
        · subst hr
          have hB2 : Hid (acc2 = lbinders s) := by
            have h := heq.out
            rw [show lall (lvec 1) gk [] = [] from by cases gk <;> rfl, List.append_nil] at h
            exact h
          obtain ⟨to, hbo1⟩ := hbo.out
          obtain ⟨tr, hbr1⟩ := hbr.out
          unfold tkCells at hbo1 hbr1
          have z0 := cells_at hbo1 0 rfl
          have z1 := cells_at hbo1 1 rfl
          have z2 := cells_at hbo1 2 rfl
          have z3 := cells_at hbo1 3 rfl
          have z4 := cells_at hbo1 4 rfl
          have z5 := cells_at hbo1 5 rfl
          have z6 := cells_at hbo1 6 rfl
          have z7 := cells_at hbo1 7 rfl
          have z8 := cells_at hbo1 8 rfl
          have z9 := cells_at hbo1 9 rfl
          have z10 := cells_at hbo1 10 rfl
          have y0 := cells_at hbr1 0 rfl
          have y1 := cells_at hbr1 1 rfl
          have y2 := cells_at hbr1 2 rfl
          have y3 := cells_at hbr1 3 rfl
          have y4 := cells_at hbr1 4 rfl
          have y5 := cells_at hbr1 5 rfl
          have y6 := cells_at hbr1 6 rfl
          have y7 := cells_at hbr1 7 rfl
          have y8 := cells_at hbr1 8 rfl
          have y9 := cells_at hbr1 9 rfl
          have y10 := cells_at hbr1 10 rfl
          have hfz : ∀ i, wr.frozen? ⟨w.heap.size, i, none⟩ = false := fun i => by simp [World.frozen?, hbr1]
          have f0 := hfz 0
          have f1 := hfz 1
          have f2 := hfz 2
          have f3 := hfz 3
          have f4 := hfz 4
          have f5 := hfz 5
          have f6 := hfz 6
          have f7 := hfz 7
          have f8 := hfz 8
          have f9 := hfz 9
          have f10 := hfz 10
          have hl1 := lt_of_block hbo1
          have hl2 := lt_of_block hbr1
          clear hbo1 hbr1 hfz
          go_wp2_with fail
          refine bodyPost_ret (v := .agg (tkCells (.slice A acc.length cv) (.slice A2 acc2.length cv2))) (by simp [results, Tryz.results21, go_sem, y0, y1, y2, y3, y4, y5, y6, y7, y8, y9, y10, tkCells]) rfl ?_
          rw [← hI3.out, ← hB2.out]
          have hkz : ∀ wz, Kp (· = w.heap.size) wr wz → ∃ v9 v10, Ending.returned (Value.agg (tkCells (.slice A acc.length cv) (.slice A2 acc2.length cv2))) = .returned (.agg (tkCells v9 v10)) ∧ Sl kident (fun k => w.heap.size ≤ k) wz v9 acc ∧ Sl kbind (fun k => w.heap.size ≤ k) wz v10 acc2 ∧ Kp nobody w wz := fun wz hz =>
            ⟨_, _, rfl, (hsl.out.kp hz (fun k _ h e => by have h' : w2.heap.size < k ∧ k < wo.heap.size := h; have e' : k = w.heap.size := e; omega)).mono (fun k _ h => by have h' : w2.heap.size < k ∧ k < wo.heap.size := h; show w.heap.size ≤ k; omega),
              ((Own.read (by decide) hown.out).kp hz (fun k _ h e => by have h' : wo.heap.size ≤ k := h.elim id id; have e' : k = w.heap.size := e; omega)).mono (fun k _ h => by have h' : wo.heap.size ≤ k := h.elim id id; show w.heap.size ≤ k; omega), hk.out.trans' hz (fun k hk h => by have h' : k = w.heap.size := h; omega)⟩
          exact hkz _ (((((((((((kp_set _ _ _ _).trans (kp_set _ _ _ _)).trans (kp_set _ _ _ _)).trans (kp_set _ _ _ _)).trans (kp_set _ _ _ _)).trans (kp_set _ _ _ _)).trans (kp_set _ _ _ _)).trans (kp_set _ _ _ _)).trans (kp_set _ _ _ _)).trans (kp_set _ _ _ _)).trans (kp_set _ _ _ _))
        · have hpos : 0 < r.length := List.length_pos_iff.2 hr
          obtain ⟨x, rb, hx1⟩ : ∃ x ra, lvec 1 r = (x, ra) := ⟨_, _, rfl⟩
          have hst : Hid (lvec 1 r = (x, rb)) := hx1
          have hdec := lvec_dec 1 r (by decide) hr
          rw [hst.out] at hdec
          simp only at hdec
          have hV1 := rdvec_any wr w2.heap.size r 1 hlr.out (by decide)
          rw [hx1] at hV1
          replace hV1 := Lib.hid hV1
          clear hx1
          go_wp2_with fail
          refine hV1.out.mono ?_
          rintro e w4 ⟨rfl, h4, hk34⟩
          have hs34 := hk34.size
          obtain ⟨to, hbo4⟩ : ∃ t, w4.heap[w.heap.size + 1]? = some (.cells (tkCells (.slice A acc.length cv) (.slice A2 acc2.length cv2)) t (0, 0)) := by
            obtain ⟨t, h⟩ := hbo.out
            exact ⟨t, hk34.blk (fun h => by omega) h⟩
          have hc10 := cells_at hbo4 10 rfl
          have hol := lt_of_block hbo4
          have hkw := kp_bytesWorld w4 5 (Bt x)
          have hk46 : Kp nobody w4 ((Lib.bytesWorld w4 5 (Bt x)).alloc (.cells #[.slice (some ⟨w4.heap.size, 0, none⟩) (Bt x).size (grownCap w4 (Bt x).size 0 5)] 26)) := hkw.alloc _
          have hk6 := hk34.trans' hk46 (fun _ _ h => h.elim)
          have hown6 := Lib.hid (hown.out.kp hk6 (fun k _ h e => by have h' : wo.heap.size ≤ k := h; have e' : k = w2.heap.size := e; omega) (fun k _ h e => by have h' : wo.heap.size ≤ k := h; have e' : k = w2.heap.size := e; omega))
          have hownF : Hid (∀ k, (Value.slice A2 acc2.length cv2).ownBlock = some k → wo.heap.size ≤ k ∧ k < wr.heap.size) := fun k hk => by
            have h2 := hown.out.lt k hk
            obtain ⟨_, _, _, h⟩ := hown.out
            exact ⟨h k hk, h2⟩
          have hrow : Hid (Row (fun _ => True) ((Lib.bytesWorld w4 5 (Bt x)).alloc (.cells #[.slice (some ⟨w4.heap.size, 0, none⟩) (Bt x).size (grownCap w4 (Bt x).size 0 5)] 26)) (some ⟨(Lib.bytesWorld w4 5 (Bt x)).heap.size, 0, none⟩) [.slice (some ⟨w4.heap.size, 0, none⟩) (Bt x).size (grownCap w4 (Bt x).size 0 5)]) := (row_new (Lib.bytesWorld w4 5 (Bt x)) [.slice (some ⟨w4.heap.size, 0, none⟩) (Bt x).size (grownCap w4 (Bt x).size 0 5)] 26).mono (fun _ _ _ => trivial)
          have hrep : Hid (Reps kbind (fun j => wo.heap.size ≤ j ∧ (Value.slice A2 acc2.length cv2).ownBlock ≠ some j) ((Lib.bytesWorld w4 5 (Bt x)).alloc (.cells #[.slice (some ⟨w4.heap.size, 0, none⟩) (Bt x).size (grownCap w4 (Bt x).size 0 5)] 26)) [x] [.slice (some ⟨w4.heap.size, 0, none⟩) (Bt x).size (grownCap w4 (Bt x).size 0 5)]) := by
            have hbs := (bs_bytesWorld w4 5 (Bt x)).kp (F := nobody) ((Kp.refl _ _).alloc (.cells #[.slice (some ⟨w4.heap.size, 0, none⟩) (Bt x).size (grownCap w4 (Bt x).size 0 5)] 26)) (fun _ _ _ h => h)
            rw [byt_Bt] at hbs
            obtain ⟨Ax, cx, he, hlx, hAx, harx⟩ := hbs
            rw [he]
            refine Reps.one ⟨Ax, cx, rfl, hlx, hAx, ?_⟩
            rw [← he]
            exact harx.mono (fun j _ h => ⟨by have h' : j = w4.heap.size := h; show wo.heap.size ≤ j; omega, fun e => by have := (hownF.out j e).2; have h' : j = w4.heap.size := h; omega⟩)
          have hFs : Hid (wo.heap.size ≤ ((Lib.bytesWorld w4 5 (Bt x)).alloc (.cells #[.slice (some ⟨w4.heap.size, 0, none⟩) (Bt x).size (grownCap w4 (Bt x).size 0 5)] 26)).heap.size) := by
            have := hk6.size
            show wo.heap.size ≤ _
            omega
          have h6 := Lib.hid (h4.kp hk46 id)
          have hb6 := Lib.hid (hk46.blk id hbo4)
          have hk6' := Lib.hid hk6
          clear hkw hk46 hk6 h4 hbo4 hk34
          replace hdec := Lib.hid hdec
          go_wp2_with (at_builtin; refine wpl_append (d := kbind) (F := fun k => wo.heap.size ≤ k) (G := fun k => wo.heap.size ≤ k) (H := fun _ => True) (xs := acc2) (ys := [x]) rfl _ _ 29 rfl 26 (.slice none 0 0) 24 Tryz.underlying29 info_bind rfl (by decide) (.slice A2 acc2.length cv2) rfl hown6.out (A := some ⟨(Lib.bytesWorld w4 5 (Bt x)).heap.size, 0, none⟩) (m := 1) (c := 1) rfl (fun h => by cases h) (Nat.le_refl _) rfl (news := [.slice (some ⟨w4.heap.size, 0, none⟩) (Bt x).size (grownCap w4 (Bt x).size 0 5)]) hrow.out hrep.out hFs.out (by omega) (by unfold maxLen; omega) ?sK2)
          case sK2 =>
          intro v7 w7 hown7 hk7 _
          obtain ⟨A7, c7, rfl, _, _⟩ := hown7.form
          have hbo7 := hk7.blk (fun h => by have := (hownF.out _ h).1; omega) hb6.out
          have hol7 := lt_of_block hbo7
          have hc97 := cells_at hbo7 10 rfl
          have hf97 : w7.frozen? ⟨w.heap.size + 1, 10, none⟩ = false := by simp [World.frozen?, hbo7]
          have hk67 : Kp (fun k => k = w2.heap.size ∨ wo.heap.size ≤ k) wr w7 := (hk6'.out.mono (fun _ _ h => .inl h)).trans' hk7 (fun k hk h => .inr (hownF.out k h).1)
          have hfin : ∀ u, u = Value.slice A7 (acc2 ++ [x]).length c7 → ∃ (r : List UInt8) (acc' : List (List UInt8)) (v10 : Value), Hid (Lr (w7.setCell ⟨w.heap.size + 1, 10, none⟩ u) w2.heap.size r) ∧ Hid (∃ t, (w7.setCell ⟨w.heap.size + 1, 10, none⟩ u).heap[w.heap.size]? = some (.cells (tkCells (.slice none 0 0) (.slice none 0 0)) t (0, 0))) ∧ Hid (∃ t, (w7.setCell ⟨w.heap.size + 1, 10, none⟩ u).heap[w.heap.size + 1]? = some (.cells (tkCells (.slice A acc.length cv) v10) t (0, 0))) ∧ Hid (Own kbind (fun k => wo.heap.size ≤ k) (fun k => wo.heap.size ≤ k) 26 (w7.setCell ⟨w.heap.size + 1, 10, none⟩ u) v10 acc') ∧ Hid (Sl kident (fun k => w2.heap.size < k ∧ k < wo.heap.size) (w7.setCell ⟨w.heap.size + 1, 10, none⟩ u) (.slice A acc.length cv) acc) ∧ Hid (Kp nobody w (w7.setCell ⟨w.heap.size + 1, 10, none⟩ u)) ∧ wo.heap.size ≤ (w7.setCell ⟨w.heap.size + 1, 10, none⟩ u).heap.size ∧ r.length ≤ gk - 1 ∧ acc'.length + (gk - 1) = tb.length ∧ Hid (acc' ++ lall (lvec 1) (gk - 1) r = lbinders s) := by
            intro u hu
            subst hu
            have hks := kp_set w7 (w.heap.size + 1) 10 (.slice A7 (acc2 ++ [x]).length c7)
            have hkb : Kp (fun k => k = w2.heap.size ∨ wo.heap.size ≤ k ∨ k = w.heap.size + 1) wr (w7.setCell ⟨w.heap.size + 1, 10, none⟩ (.slice A7 (acc2 ++ [x]).length c7)) := (hk67.mono (fun _ _ h => h.elim .inl (fun h => .inr (.inl h)))).trans' hks (fun k _ h => .inr (.inr h))
            refine ⟨rb, acc2 ++ [x], _, (h6.out.kp hk7 (fun h => by have := (hownF.out _ h).1; omega)).kp hks (fun e => by omega), ?_, ⟨_, set_cells hbo7 10 _⟩, hown7.kp hks (fun k _ h e => by have h' : wo.heap.size ≤ k := h; have e' : k = w.heap.size + 1 := e; omega) (fun k _ h e => by have h' : wo.heap.size ≤ k := h; have e' : k = w.heap.size + 1 := e; omega), hsl.out.kp hkb (fun k _ h e => by have h' : w2.heap.size < k ∧ k < wo.heap.size := h; omega), hk.out.trans' hkb (fun k hk h => by omega), ?_, ?_, ?_, ?_⟩
            · obtain ⟨t, h⟩ := hbr.out
              exact ⟨t, hkb.blk (fun h => by omega) h⟩
            · have := hkb.size; omega
            · have := hdec.out; omega
            · rw [List.length_append, List.length_singleton]; omega
            · obtain ⟨m, rfl⟩ : ∃ m, gk = m + 1 := ⟨gk - 1, by omega⟩
              have h := heq.out
              rw [lall_step _ _ _ hr, hst.out] at h
              show _ ++ _ = _
              rw [← h]
              simp
          have hfin' := Lib.hid hfin
          clear hfin hk67 hbo7 hk7 hown7
          go_wp2_with fail
          go_roundg (gk - 1)
          case rel => exact hfin'.out _ (by simp)
          case measure => omega
    · have hpos : 0 < r.length := List.length_pos_iff.2 hr
      obtain ⟨x, ra, hx1⟩ : ∃ x ra, lvec 2 r = (x, ra) := ⟨_, _, rfl⟩
      obtain ⟨n, rb, hx2⟩ : ∃ n rb, lnum 4 ra = (n, rb) := ⟨_, _, rfl⟩
      have hst : Hid (lident r = ((x, (n : Int)), rb)) := by show lident r = _; unfold lident; rw [hx1]; simp only; rw [hx2]
      have hdec := lident_dec r hr
      rw [hst.out] at hdec
      simp only at hdec
      have hn4 : n < 4294967296 := by have := lnum_lt 4 ra; rw [hx2] at this; exact this
      have hV1 := rdvec_any wr w1.heap.size r 2 hlr.out (by decide)
      rw [hx1] at hV1
      replace hV1 := Lib.hid hV1
      have hV2 : Hid (∀ W, Lr W w1.heap.size ra → Calls Tryz.prog 28 #[.pointer (some ⟨w1.heap.size, 0, none⟩), .int .i64 4] W fun e w' => e = .returned (.int .i64 n) ∧ Lr w' w1.heap.size rb ∧ Kp (· = w1.heap.size) W w') := fun W h => by
        have h1 := rdnum_any W w1.heap.size ra 4 h (by decide)
        rw [hx2] at h1
        exact h1
      clear hx1 hx2
      go_wp2_with fail
      refine hV1.out.mono ?_
      rintro e w3 ⟨rfl, h3, hk3⟩
      have hbo3 : ∃ t, w3.heap[w.heap.size + 1]? = some (.cells (tkCells (.slice A acc.length cv) (.slice none 0 0)) t (0, 0)) := by
        obtain ⟨t, h⟩ := hbo.out
        exact ⟨t, hk3.blk (fun h => by omega) h⟩
      replace hbo3 := Lib.hid hbo3
      have hk3' := Lib.hid hk3
      replace h3 := Lib.hid h3
      clear hk3
      go_wp2_with fail
      refine (hV2.out _ h3.out).mono ?_
      rintro e w4 ⟨rfl, h4, hk4⟩
      have hw32 : IntKind.u32.wrap (n : Int) = n := by rw [IntKind.wrap_u32]; omega
      have hk34 : Kp (· = w1.heap.size) wr w4 := hk3'.out.trans hk4
      have hs34 := hk34.size
      obtain ⟨to, hbo4⟩ : ∃ t, w4.heap[w.heap.size + 1]? = some (.cells (tkCells (.slice A acc.length cv) (.slice none 0 0)) t (0, 0)) := by
        obtain ⟨t, h⟩ := hbo3.out
        exact ⟨t, hk4.blk (fun h => by omega) h⟩
      have hc9 := cells_at hbo4 9 rfl
      have hol := lt_of_block hbo4
      have hkw := kp_bytesWorld w4 5 (Bt x)
      have hk46 : Kp nobody w4 ((Lib.bytesWorld w4 5 (Bt x)).alloc (.cells #[.slice (some ⟨w4.heap.size, 0, none⟩) (Bt x).size (grownCap w4 (Bt x).size 0 5), .int .u32 (n : Int)] 74)) := hkw.alloc _
      have hk6 := hk34.trans' hk46 (fun _ _ h => h.elim)
      have hown6 := Lib.hid (hown.out.kp hk6 (fun k _ h e => by have h' : w2.heap.size < k := h; have e' : k = w1.heap.size := e; omega) (fun k _ h e => by have h' : w2.heap.size < k := h; have e' : k = w1.heap.size := e; omega))
      have hownF : Hid (∀ k, (Value.slice A acc.length cv).ownBlock = some k → w2.heap.size < k ∧ k < wr.heap.size) := fun k hk => by
        have h2 := hown.out.lt k hk
        obtain ⟨_, _, _, h⟩ := hown.out
        exact ⟨h k hk, h2⟩
      have hrow : Hid (Row (fun _ => True) ((Lib.bytesWorld w4 5 (Bt x)).alloc (.cells #[.slice (some ⟨w4.heap.size, 0, none⟩) (Bt x).size (grownCap w4 (Bt x).size 0 5), .int .u32 (n : Int)] 74)) (some ⟨(Lib.bytesWorld w4 5 (Bt x)).heap.size, 0, none⟩) [.slice (some ⟨w4.heap.size, 0, none⟩) (Bt x).size (grownCap w4 (Bt x).size 0 5), .int .u32 (n : Int)]) := (row_new (Lib.bytesWorld w4 5 (Bt x)) [.slice (some ⟨w4.heap.size, 0, none⟩) (Bt x).size (grownCap w4 (Bt x).size 0 5), .int .u32 (n : Int)] 74).mono (fun _ _ _ => trivial)
      have hrep : Hid (Reps kident (fun j => w2.heap.size < j ∧ (Value.slice A acc.length cv).ownBlock ≠ some j) ((Lib.bytesWorld w4 5 (Bt x)).alloc (.cells #[.slice (some ⟨w4.heap.size, 0, none⟩) (Bt x).size (grownCap w4 (Bt x).size 0 5), .int .u32 (n : Int)] 74)) [(x, (n : Int))] [.slice (some ⟨w4.heap.size, 0, none⟩) (Bt x).size (grownCap w4 (Bt x).size 0 5), .int .u32 (n : Int)]) := by
        have hbs := (bs_bytesWorld w4 5 (Bt x)).kp (F := nobody) ((Kp.refl _ _).alloc (.cells #[.slice (some ⟨w4.heap.size, 0, none⟩) (Bt x).size (grownCap w4 (Bt x).size 0 5), .int .u32 (n : Int)] 74)) (fun _ _ _ h => h)
        rw [byt_Bt] at hbs
        obtain ⟨Ax, cx, he, hlx, hAx, harx⟩ := hbs
        rw [he]
        refine Reps.one ⟨[.slice Ax x.length cx], [.int .u32 (n : Int)], rfl, ⟨Ax, cx, rfl, hlx, hAx, ?_⟩, rfl⟩
        rw [← he]
        exact harx.mono (fun j _ h => ⟨by have h' : j = w4.heap.size := h; omega, fun e => by have := (hownF.out j e).2; have h' : j = w4.heap.size := h; omega⟩)
      have hFs : Hid (w2.heap.size < ((Lib.bytesWorld w4 5 (Bt x)).alloc (.cells #[.slice (some ⟨w4.heap.size, 0, none⟩) (Bt x).size (grownCap w4 (Bt x).size 0 5), .int .u32 (n : Int)] 74)).heap.size) := by
        have := hk6.size
        show w2.heap.size < _
        omega
      have h6 := Lib.hid (h4.kp hk46 id)
      have hb6 := Lib.hid (hk46.blk id hbo4)
      have hk46' := Lib.hid hk46
      have hk6' := Lib.hid hk6
      clear hkw hk46 hk6 h4 hk4 hbo4 hk34
      replace hdec := Lib.hid hdec
      go_wp2_with (at_builtin; refine wpl_append (d := kident) (F := fun k => w2.heap.size < k) (G := fun k => w2.heap.size < k) (H := fun _ => True) (xs := acc) (ys := [(x, (n : Int))]) rfl _ _ 28 rfl 74 (.agg #[.slice none 0 0, .int .u32 0]) 32 Tryz.underlying28 info_ident rfl (by decide) (.slice A acc.length cv) rfl hown6.out (A := some ⟨(Lib.bytesWorld w4 5 (Bt x)).heap.size, 0, none⟩) (m := 1) (c := 1) rfl (fun h => by cases h) (Nat.le_refl _) rfl (news := [.slice (some ⟨w4.heap.size, 0, none⟩) (Bt x).size (grownCap w4 (Bt x).size 0 5), .int .u32 (n : Int)]) hrow.out hrep.out hFs.out (by omega) (by unfold maxLen; omega) ?sK)
      case sK =>
      intro v7 w7 hown7 hk7 _
      obtain ⟨A7, c7, rfl, _, _⟩ := hown7.form
      have hbo7 := hk7.blk (fun h => by have := (hownF.out _ h).1; omega) hb6.out
      have hol7 := lt_of_block hbo7
      have hc97 := cells_at hbo7 9 rfl
      have hf97 : w7.frozen? ⟨w.heap.size + 1, 9, none⟩ = false := by simp [World.frozen?, hbo7]
      have hk67 : Kp (fun k => k = w1.heap.size ∨ w2.heap.size < k) wr w7 := (hk6'.out.mono (fun _ _ h => .inl h)).trans' hk7 (fun k hk h => .inr (hownF.out k h).1)
      have hfin : ∀ u, u = Value.slice A7 (acc ++ [(x, (n : Int))]).length c7 → ∃ (r : List UInt8) (acc' : List (List UInt8 × Int)) (v9 : Value), Hid (Lr (w7.setCell ⟨w.heap.size + 1, 9, none⟩ u) w1.heap.size r) ∧ Hid (Lr (w7.setCell ⟨w.heap.size + 1, 9, none⟩ u) w2.heap.size tb) ∧ Hid (∃ t, (w7.setCell ⟨w.heap.size + 1, 9, none⟩ u).heap[w.heap.size]? = some (.cells (tkCells (.slice none 0 0) (.slice none 0 0)) t (0, 0))) ∧ Hid (∃ t, (w7.setCell ⟨w.heap.size + 1, 9, none⟩ u).heap[w.heap.size + 1]? = some (.cells (tkCells v9 (.slice none 0 0)) t (0, 0))) ∧ Hid (Own kident (fun k => w2.heap.size < k) (fun k => w2.heap.size < k) 74 (w7.setCell ⟨w.heap.size + 1, 9, none⟩ u) v9 acc') ∧ Hid (Kp nobody w (w7.setCell ⟨w.heap.size + 1, 9, none⟩ u)) ∧ w2.heap.size < (w7.setCell ⟨w.heap.size + 1, 9, none⟩ u).heap.size ∧ r.length ≤ gk - 1 ∧ acc'.length + (gk - 1) = ta.length ∧ Hid (acc' ++ lall lident (gk - 1) r = lidents s) := by
        intro u hu
        subst hu
        have hks := kp_set w7 (w.heap.size + 1) 9 (.slice A7 (acc ++ [(x, (n : Int))]).length c7)
        have hkb : Kp (fun k => k = w1.heap.size ∨ w2.heap.size < k ∨ k = w.heap.size + 1) wr (w7.setCell ⟨w.heap.size + 1, 9, none⟩ (.slice A7 (acc ++ [(x, (n : Int))]).length c7)) := (hk67.mono (fun _ _ h => h.elim .inl (fun h => .inr (.inl h)))).trans' hks (fun k _ h => .inr (.inr h))
        refine ⟨rb, acc ++ [(x, (n : Int))], _, (h6.out.kp hk7 (fun h => by have := (hownF.out _ h).1; omega)).kp hks (fun e => by omega), hlrb.out.kp hkb (fun h => by omega), ?_, ⟨_, set_cells hbo7 9 _⟩, hown7.kp hks (fun k _ h e => by have h' : w2.heap.size < k := h; have e' : k = w.heap.size + 1 := e; omega) (fun k _ h e => by have h' : w2.heap.size < k := h; have e' : k = w.heap.size + 1 := e; omega), hk.out.trans' hkb (fun k hk h => by omega), ?_, ?_, ?_, ?_⟩
        · obtain ⟨t, h⟩ := hbr.out
          exact ⟨t, hkb.blk (fun h => by omega) h⟩
        · have := hkb.size; omega
        · have := hdec.out; omega
        · rw [List.length_append, List.length_singleton]; omega
        · obtain ⟨m, rfl⟩ : ∃ m, gk = m + 1 := ⟨gk - 1, by omega⟩
          have h := heq.out
          rw [lall_step _ _ _ hr, hst.out] at h
          show _ ++ _ = _
          rw [← h]
          simp
      have hfin' := Lib.hid hfin
      clear hfin hk67 hbo7 hk7 hown7
      go_wp2_with fail
      go_roundg (gk - 1)
      case rel => exact hfin'.out _ (by simp)
      case measure => omega
end Go.Proofs.YtiaheamhmhnodaaGreatDoor
