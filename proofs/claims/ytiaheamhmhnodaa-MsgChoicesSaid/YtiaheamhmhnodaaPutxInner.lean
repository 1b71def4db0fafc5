/- A table of fields of Inner: 'put', whole. (Printed by wip/msg/gen_tab.py.) -/
import Derived.Test.YtiaheamhmhnodaaPutInner
namespace Go.Proofs.Ytiaheamhmhnodaa.TInner
open Go.RowKit M

theorem put1_en : Enters 60 := enters_of Try.func60 (by kernel_rfl) (by kernel_rfl)

set_option maxHeartbeats 800000 in
theorem put_any (w : World) (p : Nat) (fs : List (FRec × FPut)) (O : World → Prop) (tv : Value) (hlen2 : fs.length ≤ 100) (hok : ∀ x ∈ fs, FieldOk (w.heap.size + 2) p O x.1 x.2)
    (htv : Sl (Kin.iso kf Prod.fst) (fun k => k < w.heap.size) w tv fs) (hO : O w) (hF : Firm (w.heap.size + 2) O) :
    Calls Try.prog 21 #[tv, .pointer (some ⟨p, 0, none⟩)] w (PutPost w (putM (fs.map Prod.snd))) := by
  have hmf := hmf_
  have htv' := Lib.hid htv
  obtain ⟨A, c, rfl, hlc, hA, har⟩ := htv
  clear hA har
  go_enter Try.func21, Try.ntmps21
  go_wp2_with fail
  have hk3 : Kp nobody w (((w.alloc (.cells #[.slice A fs.length c] 63)).alloc (.cells #[.pointer (some ⟨p, 0, none⟩)] 66)).alloc (.cells #[.slice none 0 0] 30)) := (((Kp.refl _ _).alloc _).alloc _).alloc _
  have htv3 := Lib.hid (((htv'.out.kp hk3 (fun _ _ _ h => h))))
  have hO3 := Lib.hid (hF _ _ hO (hk3.mono (fun _ _ h => h.elim)))
  have hcA := Lib.hid (show (((w.alloc (.cells #[.slice A fs.length c] 63)).alloc (.cells #[.pointer (some ⟨p, 0, none⟩)] 66)).alloc (.cells #[.slice none 0 0] 30)).cell? ⟨w.heap.size, 0, none⟩ = some (.slice A fs.length c) from by simp [go_sem])
  have hcB := Lib.hid (show (((w.alloc (.cells #[.slice A fs.length c] 63)).alloc (.cells #[.pointer (some ⟨p, 0, none⟩)] 66)).alloc (.cells #[.slice none 0 0] 30)).cell? ⟨w.heap.size + 1, 0, none⟩ = some (.pointer (some ⟨p, 0, none⟩)) from by simp [go_sem])
  have hcC : Hid ((((w.alloc (.cells #[.slice A fs.length c] 63)).alloc (.cells #[.pointer (some ⟨p, 0, none⟩)] 66)).alloc (.cells #[.slice none 0 0] 30)).heap[w.heap.size + 2]? = some (.cells #[.slice none 0 0] 30 (0, 0))) := by
    have := heap_alloc_new ((w.alloc (.cells #[.slice A fs.length c] 63)).alloc (.cells #[.pointer (some ⟨p, 0, none⟩)] 66)) (.cells #[.slice none 0 0] 30)
    show _ = _
    simpa using this
  have hk3' := Lib.hid hk3
  clear hk3
  refine (guard_any (· = w.heap.size + 2) (PutEnd (w.heap.size + 4) (w.heap.size + 2) (fs.map Prod.snd)) _ _ _ put1_en (by simp) ?run).mono ?k
  case run =>
    intro w1 hk1 hlt
    have hsz : w.heap.size + 3 < w1.heap.size := by simp at hlt; omega
    have hkk := hk3'.out.trans hk1
    refine (put1_any w1 w.heap.size (w.heap.size + 1) (w.heap.size + 2) p (w.heap.size + 2) fs O _ hlen2 hok (hk1.cell (a := ⟨w.heap.size, 0, none⟩) id hcA.out) ((htv3.out.mono (fun k _ h => by omega)).kp hk1 (fun _ _ _ h => h)) (hk1.cell (a := ⟨w.heap.size + 1, 0, none⟩) id hcB.out) (by omega) (hF _ _ hO3.out (hk1.mono (fun _ _ h => h.elim))) hF 30 (hk1.blk id hcC.out) (Nat.le_refl _)).mono ?_
    rintro e w2 ⟨r, rfl, hp, hk⟩
    refine ⟨r, rfl, ?_, hk⟩
    cases r with
    | false => exact hp
    | true =>
      obtain ⟨l, v, t, h1, h2, h3⟩ := hp
      exact ⟨l, v, t, h1, h2, h3.mono (fun k _ h => by have h' : w1.heap.size ≤ k := h; omega)⟩
  case k =>
    rintro e w' ⟨r, w2, rfl, hp, hk2, hk4⟩
    have hsz2 : w.heap.size + 3 ≤ w2.heap.size := by have := hk2.size; simp at this; omega
    have hk5 : Kp nobody w w' := (hk3'.out.trans' hk2 (fun k hk h => by omega)).trans' hk4 (fun k hk h => by simp at h; omega)
    have hk2' := Lib.hid hk2
    have hk4' := Lib.hid hk4
    have hne : ∀ k, k < w.heap.size + 3 → ¬ (fun k => k = (((w.alloc (.cells #[.slice A fs.length c] 63)).alloc (.cells #[.pointer (some ⟨p, 0, none⟩)] 66)).alloc (.cells #[.slice none 0 0] 30)).heap.size) k := fun k hk h => by simp at h; omega
    have hne' := Lib.hid hne
    clear hk2 hk4 hne
    cases r with
    | false =>
      -- whatever the variable holds: it is written over
      obtain ⟨h1, v, t, h2⟩ := hp
      have hb2 := hk4'.out.blk (hne'.out _ (by omega)) h2
      have hcc := cell_of_one hb2
      have hcf := free_of_one hb2
      have hb2' := Lib.hid hb2
      have h1' := Lib.hid h1
      clear hb2 h2 h1
      go_wp2_with fail
      have hcs : (w'.setCell ⟨w.heap.size + 1 + 1, 0, none⟩ (.slice none 0 0)).cell? ⟨w.heap.size + 1 + 1, 0, none⟩ = some (.slice none 0 0) := World.cell?_setCell_same _ _ _ hcc
      refine bodyPost_ret (v := .tuple #[.slice none 0 0, .int .i64 3]) (by simp [results, Try.results21, go_sem, hcs]) rfl ?_
      rw [h1'.out]
      exact ⟨rfl, hk5.setCell (p := ⟨w.heap.size + 1 + 1, 0, none⟩) (fun h => by simp at h; omega) _⟩
    | true =>
      obtain ⟨l, v, t, h1, h2, h3⟩ := hp
      have hb2 := hk4'.out.blk (hne'.out _ (by omega)) h2
      have hcc := cell_of_one hb2
      have hcf := free_of_one hb2
      obtain ⟨A2, c2, rfl, hl2, hA2, ha2⟩ := h3
      have hb2' := Lib.hid hb2
      have hA2' := Lib.hid hA2
      have ha2' := Lib.hid ha2
      have h1' := Lib.hid h1
      clear hb2 h2 hA2 ha2 h1
      simp only [if_true]
      go_wp2_with fail
      have hcs : (w'.setCell ⟨w.heap.size + 1 + 1, 0, none⟩ (.slice A2 l.length c2)).cell? ⟨w.heap.size + 1 + 1, 0, none⟩ = some (.slice A2 l.length c2) := World.cell?_setCell_same _ _ _ hcc
      refine bodyPost_ret (v := .tuple #[.slice A2 l.length c2, .int .i64 0]) (by simp [results, Try.results21, go_sem, hcs]) rfl ?_
      rw [h1'.out]
      refine ⟨_, rfl, ⟨A2, c2, rfl, hl2, hA2'.out, ?_⟩, hk5.setCell (p := ⟨w.heap.size + 1 + 1, 0, none⟩) (fun h => by simp at h; omega) _⟩
      refine ((ha2'.out.kp hk4'.out (fun k _ h h' => by simp at h'; omega)).kp (F := (· = w.heap.size + 1 + 1)) (Kp.setCell (F := (· = w.heap.size + 1 + 1)) (p := ⟨w.heap.size + 1 + 1, 0, none⟩) (Kp.refl _ _) (fun _ => rfl) _) (fun k _ h h' => by omega)).mono (fun k _ h => by omega)
end Go.Proofs.Ytiaheamhmhnodaa.TInner
