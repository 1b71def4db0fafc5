/- The document's own Choice. -/
import Derived.Test.YtiaheamhmhnodaaGreatDoorEi
import Derived.Test.YtiaheamhmhnodaaGreatDoorRp
namespace Go.Proofs.YtiaheamhmhnodaaGreatDoor
open Go.RowKit M

/-- what the document's Choice answers -/
def RCh (w : World) (m : Option Ch) (e : Ending) (w' : World) : Prop := match m with
  | none => (∃ (c : Ch) (A1 : Option Addr) (n1 c1 : Nat) (A2 : Option Addr) (n2 c2 : Nat), e = .returned (.tuple #[.agg #[.int .i64 c.version, .bool c.hasShare, .int .i64 c.sgroup, .slice A1 n1 c1, .int .i64 c.group, .slice A2 n2 c2, .int .i64 c.selected], .bool false])) ∧ Kp nobody w w'
  | some c => ∃ vk vc, e = .returned (.tuple #[.agg (c.cells vk vc), .bool true]) ∧ Bs (fun k => w.heap.size ≤ k) w' vk c.key ∧ Bs (fun k => w.heap.size ≤ k) w' vc c.cookie ∧ Kp nobody w w'
def CVs (N : Nat → Prop) (w : World) (c : Ch) (vs : Array Value) : Prop := ∃ vk vc, vs = c.cells vk vc ∧ Bs N w vk c.key ∧ Bs N w vc c.cookie
theorem CVs.kp {N H : Nat → Prop} {w w' : World} {c : Ch} {vs : Array Value} (h : CVs N w c vs) (hk : Kp H w w') (hN : ∀ k, k < w.heap.size → N k → ¬ H k) : CVs N w' c vs := by
  obtain ⟨vk, vc, e, h1, h2⟩ := h
  exact ⟨vk, vc, e, h1.kp hk hN, h2.kp hk hN⟩
theorem CVs.mono {N N' : Nat → Prop} {w : World} {c : Ch} {vs : Array Value} (h : CVs N w c vs) (hN : ∀ k, k < w.heap.size → N k → N' k) : CVs N' w c vs := by
  obtain ⟨vk, vc, e, h1, h2⟩ := h
  exact ⟨vk, vc, e, h1.mono hN, h2.mono hN⟩
/-- while it goes: the result's block, then that of what has been read, which leads to blocks of N -/
def CDt (w : World) (N : Nat → Prop) (wr : World) (a : Ch) : Prop :=
  (∃ t, wr.heap[w.heap.size]? = some (.cells #[.int .i64 0, .bool false, .int .i64 0, .slice none 0 0, .int .i64 0, .slice none 0 0, .int .i64 0] t (0, 0))) ∧ (∃ t vs, wr.heap[w.heap.size + 1]? = some (.cells vs t (0, 0)) ∧ CVs (fun k => w.heap.size + 1 < k ∧ N k) wr a vs) ∧ Kp nobody w wr ∧ w.heap.size + 1 < wr.heap.size
theorem CDt.kp {w wr w' : World} {N H : Nat → Prop} {a : Ch} (h : CDt w N wr a) (hk : Kp H wr w') (hH : ∀ k, H k → w.heap.size + 1 < k) (hN : ∀ k, N k → ¬ H k) : CDt w N w' a := by
  obtain ⟨⟨t, h1⟩, ⟨t2, vs, h2, h3⟩, h4, h5⟩ := h
  exact ⟨⟨t, hk.blk (fun e => by have := hH _ e; omega) h1⟩, ⟨t2, vs, hk.blk (fun e => by have := hH _ e; omega) h2, h3.kp hk (fun _ _ h e => hN _ h.2 e)⟩, h4.trans' hk (fun k hk h => by have := hH _ h; omega), Nat.lt_of_lt_of_le h5 hk.size⟩
theorem CDt.kp0 {w wr w' : World} {N : Nat → Prop} {a : Ch} (h : CDt w N wr a) (hk : Kp nobody wr w') : CDt w N w' a := h.kp hk (fun _ h => h.elim) (fun _ _ h => h)
theorem CDt.fresh {w wr : World} {N : Nat → Prop} {a : Ch} (h : CDt w N wr a) : CDt w (fun k => k < wr.heap.size) wr a := by
  obtain ⟨h1, ⟨t2, vs, h2, h3⟩, h4, h5⟩ := h
  exact ⟨h1, ⟨t2, vs, h2, h3.mono (fun k hk h => ⟨h.1, hk⟩)⟩, h4, h5⟩
theorem CDt.mono {w wr : World} {N N' : Nat → Prop} {a : Ch} (h : CDt w N wr a) (hN : ∀ k, N k → N' k) : CDt w N' wr a := by
  obtain ⟨h1, ⟨t2, vs, h2, h3⟩, h4, h5⟩ := h
  exact ⟨h1, ⟨t2, vs, h2, h3.mono (fun k hk h => ⟨h.1, hN k h.2⟩)⟩, h4, h5⟩
theorem CDt.put {w wr : World} {N : Nat → Prop} {a a' : Ch} (h : CDt w N wr a) (i : Nat) (v : Value) (hp : ∀ vs, CVs (fun k => w.heap.size + 1 < k ∧ N k) wr a vs → CVs (fun k => w.heap.size + 1 < k ∧ N k) wr a' (vs.setIfInBounds i v)) : CDt w N (wr.setCell ⟨w.heap.size + 1, i, none⟩ v) a' := by
  obtain ⟨⟨t, h1⟩, ⟨t2, vs, h2, h3⟩, h4, h5⟩ := h
  have hk := kp_set wr (w.heap.size + 1) i v
  exact ⟨⟨t, hk.blk (fun e => by omega) h1⟩, ⟨t2, _, set_cells h2 i _, (hp vs h3).kp hk (fun k _ h e => by have := h.1; omega)⟩, h4.trans' hk (fun k hk h => by omega), Nat.lt_of_lt_of_le h5 hk.size⟩
theorem seven {w : World} {b : Nat} {v0 v1 v2 v3 v4 v5 v6 : Value} {t : TypeId} (h : w.heap[b]? = some (.cells #[v0, v1, v2, v3, v4, v5, v6] t (0, 0))) :
    (w.cell? ⟨b, 0, none⟩ = some v0 ∧ w.cell? ⟨b, 1, none⟩ = some v1 ∧ w.cell? ⟨b, 2, none⟩ = some v2 ∧ w.cell? ⟨b, 3, none⟩ = some v3 ∧ w.cell? ⟨b, 4, none⟩ = some v4 ∧ w.cell? ⟨b, 5, none⟩ = some v5 ∧ w.cell? ⟨b, 6, none⟩ = some v6) ∧
    (w.frozen? ⟨b, 0, none⟩ = false ∧ w.frozen? ⟨b, 1, none⟩ = false ∧ w.frozen? ⟨b, 2, none⟩ = false ∧ w.frozen? ⟨b, 3, none⟩ = false ∧ w.frozen? ⟨b, 4, none⟩ = false ∧ w.frozen? ⟨b, 5, none⟩ = false ∧ w.frozen? ⟨b, 6, none⟩ = false) := by
  simp [World.cell?, World.frozen?, h]
theorem CDt.open_ {w wr : World} {N : Nat → Prop} {a : Ch} (h : CDt w N wr a) : ∃ Ak ck Ac cc t t2, wr.heap[w.heap.size]? = some (.cells #[.int .i64 0, .bool false, .int .i64 0, .slice none 0 0, .int .i64 0, .slice none 0 0, .int .i64 0] t (0, 0)) ∧
    wr.heap[w.heap.size + 1]? = some (.cells #[.int .i64 a.version, .bool a.hasShare, .int .i64 a.sgroup, .slice Ak a.key.length ck, .int .i64 a.group, .slice Ac a.cookie.length cc, .int .i64 a.selected] t2 (0, 0)) ∧
    Bs (fun k => w.heap.size ≤ k ∧ k ≠ w.heap.size) wr (.slice Ak a.key.length ck) a.key ∧ Bs (fun k => w.heap.size ≤ k ∧ k ≠ w.heap.size) wr (.slice Ac a.cookie.length cc) a.cookie := by
  obtain ⟨⟨t, h1⟩, ⟨t2, vs, h2, vk, vc, rfl, h3, h4⟩, _, _⟩ := h
  have h3' := h3
  have h4' := h4
  obtain ⟨Ak, ck, rfl, _, _, _⟩ := h3'
  obtain ⟨Ac, cc, rfl, _, _, _⟩ := h4'
  exact ⟨Ak, ck, Ac, cc, t, t2, h1, h2, h3.mono (fun k _ h => ⟨by have := h.1; omega, by have := h.1; omega⟩), h4.mono (fun k _ h => ⟨by have := h.1; omega, by have := h.1; omega⟩)⟩
theorem seven_kp (w : World) (p : Nat) (v0 v1 v2 v3 v4 v5 v6 : Value) : Kp (· = p) w (((((((w.setCell ⟨p, 0, none⟩ v0).setCell ⟨p, 1, none⟩ v1).setCell ⟨p, 2, none⟩ v2).setCell ⟨p, 3, none⟩ v3).setCell ⟨p, 4, none⟩ v4).setCell ⟨p, 5, none⟩ v5).setCell ⟨p, 6, none⟩ v6) :=
  ((((((kp_set _ _ _ _).trans (kp_set _ _ _ _)).trans (kp_set _ _ _ _)).trans (kp_set _ _ _ _)).trans (kp_set _ _ _ _)).trans (kp_set _ _ _ _)).trans (kp_set _ _ _ _)

set_option maxRecDepth 10000 in
set_option maxHeartbeats 16000000 in
theorem rchoice_any (w : World) (lv : Value) (all : List (Int × List UInt8)) (again : Bool) (hlv : Sl kfield (fun k => k < w.heap.size) w lv all) (hall : all.length ≤ 256) (hbl : ∀ f ∈ all, f.2.length ≤ 1000000) :
    Calls Tryz.prog 9 #[lv, .bool again] w (RCh w (rchoiceM again all)) := by
  have hlv' := Lib.hid hlv
  obtain ⟨Al, cl, rfl, _, _, _⟩ := hlv
  have hbl' := Lib.hid hbl
  clear hbl
  have hid0 : CDt w (fun _ => True) ((w.alloc (.cells #[.int .i64 0, .bool false, .int .i64 0, .slice none 0 0, .int .i64 0, .slice none 0 0, .int .i64 0] 41)).alloc (.cells #[.int .i64 0, .bool false, .int .i64 0, .slice none 0 0, .int .i64 0, .slice none 0 0, .int .i64 (-1)] 41)) ch0 :=
    ⟨⟨_, ((Kp.refl nobody _).alloc _).blk id (heap_alloc_new w _)⟩, ⟨_, _, by simpa [ch0, Ch.cells] using heap_alloc_new (w.alloc (.cells #[.int .i64 0, .bool false, .int .i64 0, .slice none 0 0, .int .i64 0, .slice none 0 0, .int .i64 0] 41)) (.cells #[.int .i64 0, .bool false, .int .i64 0, .slice none 0 0, .int .i64 0, .slice none 0 0, .int .i64 (-1)] 41), .slice none 0 0, .slice none 0 0, rfl, Sl.nil _ _ _, Sl.nil _ _ _⟩, ((Kp.refl _ _).alloc _).alloc _, by simp⟩
  have hid0' := Lib.hid hid0
  clear hid0
  go_enter Tryz.func9, Tryz.ntmps9
  go_wp2_with fail
  refine (twice_any _ _ _ (hlv'.out.kp hid0'.out.2.2.1 (fun _ _ _ h => h)) (by omega)).mono ?_
  rintro e w1 ⟨rfl, hk1⟩
  have hid1 := Lib.hid (hid0'.out.kp0 hk1)
  clear hk1
  by_cases hnd : (all.map Prod.fst).Nodup
  · rw [decide_eq_true hnd, Bool.not_true]
    have hres : Hid (rchoiceM again all = rLoop (rgetsC again) (-1) all.length 0 all ch0) := by
      show rchoiceM again all = _
      unfold rchoiceM rgetM
      rw [if_pos hnd]
    go_wp2_with fail
    go_loopg [8] all.length (fun g i wr => ∃ (k : Nat) (a : Ch), k + g = all.length ∧ i = .int .i64 (k : Int) ∧ Hid (CDt w (fun _ => True) wr a) ∧ Hid (rchoiceM again all = rLoop (rgetsC again) (-1) all.length k (all.drop k) a))
    case atStart => exact ⟨0, ch0, by omega, rfl, hid1, hres⟩
    case round =>
      obtain ⟨k, a, hkg, rfl, hid, heq⟩ := hrel
      by_cases hlt : k < all.length
      · obtain ⟨ty, b, hx⟩ : ∃ t x, all[k]? = some (t, x) := ⟨_, _, List.getElem?_eq_getElem hlt⟩
        have hd : Hid (all.drop k = (ty, b) :: all.drop (k + 1)) := by
          show all.drop k = _
          rw [List.drop_eq_getElem_cons hlt]
          congr 1
          exact (List.getElem?_eq_some_iff.1 hx).2
        have hb := Lib.hid (hbl'.out (ty, b) (List.mem_of_getElem? hx))
        obtain ⟨wo, hwo⟩ : ∃ wo, wo = (wr.alloc (.cells #[.int .i64 0, .bool false, .int .i64 0, .slice none 0 0, .int .i64 0, .slice none 0 0, .int .i64 (-1)] 41)).alloc (.cells #[.string ⟨b.toArray⟩, .bool false] 66) := ⟨_, rfl⟩
        have hko : Kp nobody wr wo := by rw [hwo]; exact ((Kp.refl _ _).alloc _).alloc _
        have hidf := Lib.hid hid.out.fresh
        obtain ⟨ad, A1, c1, hA, hca0, hca1, hua⟩ := field_at (arr_of (hlv'.out.kp (hidf.out.2.2.1.trans hko) (fun _ _ _ h => h))) hx
        have hkx : Kp nobody wr (wr.alloc (.cells #[.int .i64 0, .bool false, .int .i64 0, .slice none 0 0, .int .i64 0, .slice none 0 0, .int .i64 (-1)] 41)) := (Kp.refl _ _).alloc _
        obtain ⟨adx, A1x, c1x, hAx, hcx0, hcx1, hux⟩ := field_at (arr_of (hlv'.out.kp (hidf.out.2.2.1.trans hkx) (fun _ _ _ h => h))) hx
        rw [hA] at hAx
        injection hAx with hAx
        subst hAx
        have hid2 := Lib.hid (hidf.out.kp0 hko)
        have hl5 := hidf.out.2.2.2
        have hlo : wo.heap.size = wr.heap.size + 2 := by rw [hwo]; simp
        have hbx : wo.heap[wr.heap.size]? = some (.cells #[.int .i64 0, .bool false, .int .i64 0, .slice none 0 0, .int .i64 0, .slice none 0 0, .int .i64 (-1)] 41 (0, 0)) := by rw [hwo]; exact ((Kp.refl nobody _).alloc _).blk id (heap_alloc_new _ _)
        have hlr : Lr wo (wr.heap.size + 1) b := by
          have h := Lr.new (wr.alloc (.cells #[.int .i64 0, .bool false, .int .i64 0, .slice none 0 0, .int .i64 0, .slice none 0 0, .int .i64 (-1)] 41)) b 66
          rw [show (wr.alloc (.cells #[.int .i64 0, .bool false, .int .i64 0, .slice none 0 0, .int .i64 0, .slice none 0 0, .int .i64 (-1)] 41)).heap.size = wr.heap.size + 1 by simp] at h
          rw [hwo]
          exact h
        have hcv1 := run_string_of (P := Tryz.prog) (wr.alloc (.cells #[.int .i64 0, .bool false, .int .i64 0, .slice none 0 0, .int .i64 0, .slice none 0 0, .int .i64 (-1)] 41)) 26 9 5 Tryz.underlying26 Tryz.underlying5 Tryz.underlying9 A1x c1x b hux
        have hlo' := Lib.hid hlo
        have hbx' := Lib.hid hbx
        have hlr' := Lib.hid hlr
        clear hlo hbx hlr hkx
        subst hwo
        subst hA
        replace hko := Lib.hid hko
        replace hx := Lib.hid hx
        replace hua := Lib.hid hua
        replace hux := Lib.hid hux
        go_upto_block 2 with fail
        clear hcx0 hcx1 hca1
        go_cut [] (fun wx => ∃ (x : Ch) (g : RGet Ch) (vs : Array Value), Hid ((rgetsC again).find? (fun f => f.kind == ty) = some g ∧ g.ld b = some x ∧ (g.chk x b = okPut (putChoiceM x) ty b)) ∧ Hid (wx.heap[wr.heap.size]? = some (.cells vs 41 (0, 0)) ∧ CVs (fun k => k < wx.heap.size) wx x vs ∧ x.ok) ∧ Hid (CDt w (fun _ => True) wx (g.up x a)))
        case first =>
          by_cases h43 : ty = 43
          · subst h43
            go_wp2_with fail
            refine (rdnum_any _ (wr.heap.size + 1) b 2 hlr'.out (by decide)).mono ?_
            rintro e w2 ⟨rfl, hlr2, hk2⟩
            have hn := lnum_lt 2 b
            have hld : Hid (rgVersion.ld b = some { ch0 with version := ((lnum 2 b).1 : Int) }) := rfl
            have hnz : Hid (b = [0, 0] → (lnum 2 b).1 = 0) := fun h => by subst h; rfl
            generalize (lnum 2 b).1 = n at hn hld hnz ⊢
            clear hlr2
            have hn' : n < 65536 := hn
            have hidw := Lib.hid (hid2.out.kp hk2 (fun k h => by have h' : k = wr.heap.size + 1 := h; omega) (fun k h e => by have h' : k < wr.heap.size := h; have e' : k = wr.heap.size + 1 := e; omega))
            have hbx2 := Lib.hid (hk2.blk (fun h => by omega) hbx'.out)
            obtain ⟨⟨x0, x1, x2, x3, x4, x5, x6⟩, ⟨g0, g1, g2, g3, g4, g5, g6⟩⟩ := seven hbx2.out
            have hxl := lt_of_block hbx2.out
            obtain ⟨Ak, ck, Ac, cc, tR, tO, hbR, hbO, _, _⟩ := hidw.out.open_
            obtain ⟨⟨z0, z1, z2, z3, z4, z5, z6⟩, ⟨f0, f1, f2, f3, f4, f5, f6⟩⟩ := seven hbO
            have hne2 : ¬ w.heap.size + 1 = wr.heap.size := by omega
            clear hbR hbO hk2
            by_cases hz : b = [0, 0]
            · have hn0 : n = 0 := hnz.out hz
              subst hn0
              have hchk : Hid (rgVersion.chk { ch0 with version := ((0 : Nat) : Int) } b = true) := by
                show rgVersion.chk _ b = true
                show (decide (b = [0, 0]) || _) = true
                rw [decide_eq_true hz]
                rfl
              have hzb : (b == [0, 0]) = true := by simpa using hz
              replace hz := Lib.hid hz
              go_wp2_with fail
              go_roundg (gk - 1)
              case rel =>
                have hcd : CDt w (fun _ => True) ((w2.setCell ⟨wr.heap.size, 0, none⟩ (.int .i64 ((0 : Nat) : Int))).setCell ⟨w.heap.size + 1, 0, none⟩ (.int .i64 ((0 : Nat) : Int))) { a with version := ((0 : Nat) : Int) } := by
                  refine CDt.mono (N := fun k => k < wr.heap.size) ((hidw.out.kp (kp_set w2 wr.heap.size 0 (.int .i64 ((0 : Nat) : Int))) (fun k h => by have h' : k = wr.heap.size := h; omega) (fun k h e => by have h' : k < wr.heap.size := h; have e' : k = wr.heap.size := e; omega)).put 0 _ ?_) (fun _ _ => trivial)
                  rintro vs ⟨vk, vc, rfl, h1, h2⟩
                  exact ⟨vk, vc, rfl, h1, h2⟩
                refine ⟨k + 1, { a with version := ((0 : Nat) : Int) }, by omega, by go_num, hcd, ?_⟩
                show rchoiceM again all = _
                rw [heq.out, hd.out, rLoop_hit (g := rgVersion) (by cases again <;> rfl) hld.out (.inl (by decide)), if_pos hchk.out]
                rfl
              case measure => omega
            · have hzb : (b == [0, 0]) = false := by simpa using hz
              have hchk : Hid (∀ x : Ch, rgVersion.chk x b = okPut (putChoiceM x) 43 b) := fun x => by
                show (decide (b = [0, 0]) || okPut (putChoiceM x) 43 b) = _
                rw [decide_eq_false hz, Bool.false_or]
              replace hz := Lib.hid hz
              go_wp2_with fail
              go_meet
              case rel =>
                have hcd : CDt w (fun _ => True) ((w2.setCell ⟨wr.heap.size, 0, none⟩ (.int .i64 (n : Int))).setCell ⟨w.heap.size + 1, 0, none⟩ (.int .i64 (n : Int))) { a with version := (n : Int) } := by
                  refine CDt.mono (N := fun k => k < wr.heap.size) ((hidw.out.kp (kp_set w2 wr.heap.size 0 (.int .i64 (n : Int))) (fun k h => by have h' : k = wr.heap.size := h; omega) (fun k h e => by have h' : k < wr.heap.size := h; have e' : k = wr.heap.size := e; omega)).put 0 _ ?_) (fun _ _ => trivial)
                  rintro vs ⟨vk, vc, rfl, h1, h2⟩
                  exact ⟨vk, vc, rfl, h1, h2⟩
                exact ⟨{ ch0 with version := (n : Int) }, rgVersion, _, ⟨by cases again <;> rfl, hld.out, hchk.out _⟩, ⟨(kp_set _ _ _ _).blk (fun e => by omega) (set_cells hbx2.out 0 _), ⟨.slice none 0 0, .slice none 0 0, rfl, Sl.nil _ _ _, Sl.nil _ _ _⟩, by unfold Ch.ok; simp [ch0]; try omega⟩, hcd⟩
          · have hb43 : (ty == 43) = false := by simpa using h43
            by_cases h44 : ty = 44
            · subst h44
              have hcv := cv_bytes
              go_wp2_with fail
              refine (rdvec_any _ (wr.heap.size + 1) b 2 hlr'.out (by decide)).mono ?_
              rintro e w2 ⟨rfl, hlr2, hk2⟩
              have hn := lvec2_len b
              have hld : Hid (rgCookie.ld b = some { ch0 with cookie := (lvec 2 b).1 }) := rfl
              generalize (lvec 2 b).1 = s at hn hld ⊢
              clear hlr2
              have hkw := kp_bytesWorld w2 5 (Bt s)
              have hbs := bs_bytesWorld w2 5 (Bt s)
              rw [byt_Bt] at hbs
              have hs2 := hk2.size
              rw [hlo'.out] at hs2
              have hz := Bt_size s
              rw [hz] at hbs
              have hidw := Lib.hid ((hid2.out.kp hk2 (fun k h => by have h' : k = wr.heap.size + 1 := h; omega) (fun k h e => by have h' : k < wr.heap.size := h; have e' : k = wr.heap.size + 1 := e; omega)).kp0 hkw)
              have hbx2 := Lib.hid (hkw.blk id (hk2.blk (fun h => by omega) hbx'.out))
              obtain ⟨⟨x0, x1, x2, x3, x4, x5, x6⟩, ⟨g0, g1, g2, g3, g4, g5, g6⟩⟩ := seven hbx2.out
              have hxl := lt_of_block hbx2.out
              obtain ⟨Ak, ck, Ac, cc, tR, tO, hbR, hbO, _, _⟩ := hidw.out.open_
              obtain ⟨⟨z0, z1, z2, z3, z4, z5, z6⟩, ⟨f0, f1, f2, f3, f4, f5, f6⟩⟩ := seven hbO
              have hne2 : ¬ w.heap.size + 1 = wr.heap.size := by omega
              replace hbs := Lib.hid hbs
              clear hbR hbO hk2 hkw
              go_wp2_with fail
              go_meet
              case rel =>
                have hkx := kp_set (Lib.bytesWorld w2 5 (Bt s)) wr.heap.size 5 (.slice (some ⟨w2.heap.size, 0, none⟩) s.length (grownCap w2 s.length 0 5))
                have hko5 := kp_set ((Lib.bytesWorld w2 5 (Bt s)).setCell ⟨wr.heap.size, 5, none⟩ (.slice (some ⟨w2.heap.size, 0, none⟩) s.length (grownCap w2 s.length 0 5))) (w.heap.size + 1) 5 (.slice (some ⟨w2.heap.size, 0, none⟩) s.length (grownCap w2 s.length 0 5))
                have hb3 := hbs.out.kp hkx (fun k _ h e => by have h' : k = w2.heap.size := h; have e' : k = wr.heap.size := e; omega)
                have hcd : CDt w (fun _ => True) (((Lib.bytesWorld w2 5 (Bt s)).setCell ⟨wr.heap.size, 5, none⟩ (.slice (some ⟨w2.heap.size, 0, none⟩) s.length (grownCap w2 s.length 0 5))).setCell ⟨w.heap.size + 1, 5, none⟩ (.slice (some ⟨w2.heap.size, 0, none⟩) s.length (grownCap w2 s.length 0 5))) { a with cookie := s } := by
                  refine ((hidw.out.kp hkx (fun k h => by have h' : k = wr.heap.size := h; omega) (fun k h e => by have h' : k < wr.heap.size := h; have e' : k = wr.heap.size := e; omega)).mono (N' := fun _ => True) (fun _ _ => trivial)).put 5 _ ?_
                  rintro vs ⟨vk, vc, rfl, h1, h2⟩
                  exact ⟨vk, _, rfl, h1, hb3.mono (fun k _ h => by have h' : k = w2.heap.size := h; exact ⟨by omega, trivial⟩)⟩
                exact ⟨{ ch0 with cookie := s }, rgCookie, _, ⟨by cases again <;> rfl, hld.out, rfl⟩, ⟨hko5.blk (fun e => by omega) (set_cells hbx2.out 5 _), ⟨.slice none 0 0, _, rfl, Sl.nil _ _ _, (hb3.kp hko5 (fun k _ h e => by have h' : k = w2.heap.size := h; have e' : k = w.heap.size + 1 := e; omega)).mono (fun k hk _ => hk)⟩, by unfold Ch.ok; simp [ch0]; try omega⟩, hcd⟩
            · have hb44 : (ty == 44) = false := by simpa using h44
              by_cases h51 : ty = 51
              · subst h51
                cases again
                · have hkS : Kp nobody wr ((wr.alloc (.cells #[.int .i64 0, .bool true, .int .i64 0, .slice none 0 0, .int .i64 0, .slice none 0 0, .int .i64 (-1)] 41)).alloc (.cells #[.string ⟨b.toArray⟩, .bool false] 66)) := ((Kp.refl _ _).alloc _).alloc _
                  have hidS := Lib.hid (hidf.out.kp0 hkS)
                  have hbS : ((wr.alloc (.cells #[.int .i64 0, .bool true, .int .i64 0, .slice none 0 0, .int .i64 0, .slice none 0 0, .int .i64 (-1)] 41)).alloc (.cells #[.string ⟨b.toArray⟩, .bool false] 66)).heap[wr.heap.size]? = some (.cells #[.int .i64 0, .bool true, .int .i64 0, .slice none 0 0, .int .i64 0, .slice none 0 0, .int .i64 (-1)] 41 (0, 0)) := ((Kp.refl nobody _).alloc _).blk id (heap_alloc_new _ _)
                  have hlS : Lr ((wr.alloc (.cells #[.int .i64 0, .bool true, .int .i64 0, .slice none 0 0, .int .i64 0, .slice none 0 0, .int .i64 (-1)] 41)).alloc (.cells #[.string ⟨b.toArray⟩, .bool false] 66)) (wr.heap.size + 1) b := by
                    have h := Lr.new (wr.alloc (.cells #[.int .i64 0, .bool true, .int .i64 0, .slice none 0 0, .int .i64 0, .slice none 0 0, .int .i64 (-1)] 41)) b 66
                    rw [show (wr.alloc (.cells #[.int .i64 0, .bool true, .int .i64 0, .slice none 0 0, .int .i64 0, .slice none 0 0, .int .i64 (-1)] 41)).heap.size = wr.heap.size + 1 by simp] at h
                    exact h
                  have hzS : ((wr.alloc (.cells #[.int .i64 0, .bool true, .int .i64 0, .slice none 0 0, .int .i64 0, .slice none 0 0, .int .i64 (-1)] 41)).alloc (.cells #[.string ⟨b.toArray⟩, .bool false] 66)).heap.size = wr.heap.size + 2 := by simp
                  have hbS' := Lib.hid hbS
                  have hlS' := Lib.hid hlS
                  have hzS' := Lib.hid hzS
                  clear hkS hbS hlS hzS
                  go_wp2_with fail
                  refine (rreadShare_any _ (wr.heap.size + 1) b hlS'.out).mono ?_
                  rintro e w2 ⟨v, rfl, hv, hlr2, hk2⟩
                  have hn1 : Hid ((lshare b).1.1 = (((lnum 2 b).1 : Nat) : Int) ∧ (lshare b).1.2.length ≤ 65535) := ⟨rfl, lvec2_len _⟩
                  have hn := lnum_lt 2 b
                  have hld : Hid (rgShare.ld b = some { ch0 with hasShare := true, sgroup := (lshare b).1.1, key := (lshare b).1.2 }) := rfl
                  generalize (lshare b).1.1 = n at hn1 hld hv ⊢
                  generalize (lshare b).1.2 = s at hn1 hld hv ⊢
                  generalize (lnum 2 b).1 = m at hn1 hn
                  clear hlr2
                  have hidw := Lib.hid (hidS.out.kp hk2 (fun k h => by have h' : k = wr.heap.size + 1 := h; omega) (fun k h e => by have h' : k < wr.heap.size := h; have e' : k = wr.heap.size + 1 := e; omega))
                  have hbx2 := Lib.hid (hk2.blk (fun h => by omega) hbS'.out)
                  have hv' := hv
                  obtain ⟨As, cs, rfl, _, _, _⟩ := hv'
                  rw [hzS'.out] at hv
                  obtain ⟨⟨x0, x1, x2, x3, x4, x5, x6⟩, ⟨g0, g1, g2, g3, g4, g5, g6⟩⟩ := seven hbx2.out
                  have hxl := lt_of_block hbx2.out
                  obtain ⟨Ak, ck, Ac, cc, tR, tO, hbR, hbO, _, _⟩ := hidw.out.open_
                  obtain ⟨⟨z0, z1, z2, z3, z4, z5, z6⟩, ⟨f0, f1, f2, f3, f4, f5, f6⟩⟩ := seven hbO
                  have hne2 : ¬ w.heap.size + 1 = wr.heap.size := by omega
                  replace hv := Lib.hid hv
                  clear hbR hbO hk2
                  go_wp2_with fail
                  go_meet
                  case rel =>
                    have hkx : Kp (· = wr.heap.size) w2 ((w2.setCell ⟨wr.heap.size, 2, none⟩ (.int .i64 n)).setCell ⟨wr.heap.size, 3, none⟩ (.slice As s.length cs)) := (kp_set _ _ _ _).trans (kp_set _ _ _ _)
                    have hb3 := hv.out.kp hkx (fun k _ h e => by have h' : wr.heap.size + 2 ≤ k := h; have e' : k = wr.heap.size := e; omega)
                    have hcd : CDt w (fun _ => True) (((((w2.setCell ⟨wr.heap.size, 2, none⟩ (.int .i64 n)).setCell ⟨wr.heap.size, 3, none⟩ (.slice As s.length cs)).setCell ⟨w.heap.size + 1, 1, none⟩ (.bool true)).setCell ⟨w.heap.size + 1, 2, none⟩ (.int .i64 n)).setCell ⟨w.heap.size + 1, 3, none⟩ (.slice As s.length cs)) { a with hasShare := true, sgroup := n, key := s } := by
                      have h0 := ((hidw.out.kp hkx (fun k h => by have h' : k = wr.heap.size := h; omega) (fun k h e => by have h' : k < wr.heap.size := h; have e' : k = wr.heap.size := e; omega)).mono (N' := fun _ => True) (fun _ _ => trivial)).put 1 (.bool true) (a' := { a with hasShare := true }) (by
                        rintro vs ⟨vk, vc, rfl, h1, h2⟩
                        exact ⟨vk, vc, rfl, h1, h2⟩)
                      have h1 := h0.put 2 (.int .i64 n) (a' := { a with hasShare := true, sgroup := n }) (by
                        rintro vs ⟨vk, vc, rfl, h1, h2⟩
                        exact ⟨vk, vc, rfl, h1, h2⟩)
                      refine h1.put 3 (.slice As s.length cs) ?_
                      rintro vs ⟨vk, vc, rfl, h1, h2⟩
                      refine ⟨_, vc, rfl, ?_, h2⟩
                      have hkk : Kp (· = w.heap.size + 1) ((w2.setCell ⟨wr.heap.size, 2, none⟩ (.int .i64 n)).setCell ⟨wr.heap.size, 3, none⟩ (.slice As s.length cs)) ((((w2.setCell ⟨wr.heap.size, 2, none⟩ (.int .i64 n)).setCell ⟨wr.heap.size, 3, none⟩ (.slice As s.length cs)).setCell ⟨w.heap.size + 1, 1, none⟩ (.bool true)).setCell ⟨w.heap.size + 1, 2, none⟩ (.int .i64 n)) := (kp_set _ _ _ _).trans (kp_set _ _ _ _)
                      exact (hb3.kp hkk (fun k _ h e => by have h' : wr.heap.size + 2 ≤ k := h; have e' : k = w.heap.size + 1 := e; omega)).mono (fun k _ h => by have h' : wr.heap.size + 2 ≤ k := h; exact ⟨by omega, trivial⟩)
                    have hko5 : Kp (· = w.heap.size + 1) ((w2.setCell ⟨wr.heap.size, 2, none⟩ (.int .i64 n)).setCell ⟨wr.heap.size, 3, none⟩ (.slice As s.length cs)) (((((w2.setCell ⟨wr.heap.size, 2, none⟩ (.int .i64 n)).setCell ⟨wr.heap.size, 3, none⟩ (.slice As s.length cs)).setCell ⟨w.heap.size + 1, 1, none⟩ (.bool true)).setCell ⟨w.heap.size + 1, 2, none⟩ (.int .i64 n)).setCell ⟨w.heap.size + 1, 3, none⟩ (.slice As s.length cs)) := ((kp_set _ _ _ _).trans (kp_set _ _ _ _)).trans (kp_set _ _ _ _)
                    exact ⟨{ ch0 with hasShare := true, sgroup := n, key := s }, rgShare, _, ⟨rfl, hld.out, chk_share _ _⟩, ⟨hko5.blk (fun e => by omega) (set_cells (set_cells hbx2.out 2 _) 3 _), ⟨_, .slice none 0 0, rfl, (hb3.kp hko5 (fun k _ h e => by have h' : wr.heap.size + 2 ≤ k := h; have e' : k = w.heap.size + 1 := e; omega)).mono (fun k hk _ => hk), Sl.nil _ _ _⟩, by have h1 := hn1.out; have hn' : m < 65536 := hn; unfold Ch.ok; simp [ch0]; omega⟩, hcd⟩
                · go_wp2_with fail
                  refine (rdnum_any _ (wr.heap.size + 1) b 2 hlr'.out (by decide)).mono ?_
                  rintro e w2 ⟨rfl, hlr2, hk2⟩
                  have hn := lnum_lt 2 b
                  have hld : Hid (rgGroup.ld b = some { ch0 with group := ((lnum 2 b).1 : Int) }) := rfl
                  have hnz : Hid (b = [0, 0] → (lnum 2 b).1 = 0) := fun h => by subst h; rfl
                  generalize (lnum 2 b).1 = n at hn hld hnz ⊢
                  clear hlr2
                  have hn' : n < 65536 := hn
                  have hidw := Lib.hid (hid2.out.kp hk2 (fun k h => by have h' : k = wr.heap.size + 1 := h; omega) (fun k h e => by have h' : k < wr.heap.size := h; have e' : k = wr.heap.size + 1 := e; omega))
                  have hbx2 := Lib.hid (hk2.blk (fun h => by omega) hbx'.out)
                  obtain ⟨⟨x0, x1, x2, x3, x4, x5, x6⟩, ⟨g0, g1, g2, g3, g4, g5, g6⟩⟩ := seven hbx2.out
                  have hxl := lt_of_block hbx2.out
                  obtain ⟨Ak, ck, Ac, cc, tR, tO, hbR, hbO, _, _⟩ := hidw.out.open_
                  obtain ⟨⟨z0, z1, z2, z3, z4, z5, z6⟩, ⟨f0, f1, f2, f3, f4, f5, f6⟩⟩ := seven hbO
                  have hne2 : ¬ w.heap.size + 1 = wr.heap.size := by omega
                  clear hbR hbO hk2
                  go_wp2_with fail
                  go_meet
                  case rel =>
                    have hcd : CDt w (fun _ => True) ((w2.setCell ⟨wr.heap.size, 4, none⟩ (.int .i64 (n : Int))).setCell ⟨w.heap.size + 1, 4, none⟩ (.int .i64 (n : Int))) { a with group := (n : Int) } := by
                      refine CDt.mono (N := fun k => k < wr.heap.size) ((hidw.out.kp (kp_set w2 wr.heap.size 4 (.int .i64 (n : Int))) (fun k h => by have h' : k = wr.heap.size := h; omega) (fun k h e => by have h' : k < wr.heap.size := h; have e' : k = wr.heap.size := e; omega)).put 4 _ ?_) (fun _ _ => trivial)
                      rintro vs ⟨vk, vc, rfl, h1, h2⟩
                      exact ⟨vk, vc, rfl, h1, h2⟩
                    exact ⟨{ ch0 with group := (n : Int) }, rgGroup, _, ⟨rfl, hld.out, rfl⟩, ⟨(kp_set _ _ _ _).blk (fun e => by omega) (set_cells hbx2.out 4 _), ⟨.slice none 0 0, .slice none 0 0, rfl, Sl.nil _ _ _, Sl.nil _ _ _⟩, by unfold Ch.ok; simp [ch0]; try omega⟩, hcd⟩
              · have hb51 : (ty == 51) = false := by simpa using h51
                have hfn : again = true ∨ ¬ ty = 41 → Hid ((rgetsC again).find? (fun f => f.kind == ty) = none) := fun h => by
                  show List.find? _ _ = none
                  cases again
                  · have h41 : ¬ ty = 41 := h.elim (fun h => by cases h) id
                    simp [rgetsC, rgVersion, rgShare, rgCookie, rgSelected]
                    exact ⟨fun h => h43 h.symm, fun h => h51 h.symm, fun h => h44 h.symm, fun h => h41 h.symm⟩
                  · simp [rgetsC, rgVersion, rgGroup, rgCookie]
                    exact ⟨fun h => h43 h.symm, fun h => h51 h.symm, fun h => h44 h.symm⟩
                have hdef : Hid (again = true ∨ ¬ ty = 41 → rchoiceM again all = rLoop (rgetsC again) (-1) all.length (k + 1) (all.drop (k + 1)) a) := fun h => by
                  rw [heq.out, hd.out, rLoop_miss (hfn h).out]
                clear hfn
                have hid4 := Lib.hid (hid2.out.mono (N' := fun _ => True) (fun _ _ => trivial))
                cases again
                · by_cases h41 : ty = 41
                  · subst h41
                    go_wp2_with fail
                    refine (rdnum_any _ (wr.heap.size + 1) b 2 hlr'.out (by decide)).mono ?_
                    rintro e w2 ⟨rfl, hlr2, hk2⟩
                    have hn := lnum_lt 2 b
                    have hld : Hid (rgSelected.ld b = some { ch0 with selected := ((lnum 2 b).1 : Int) }) := rfl
                    have hnz : Hid (b = [0, 0] → (lnum 2 b).1 = 0) := fun h => by subst h; rfl
                    generalize (lnum 2 b).1 = n at hn hld hnz ⊢
                    clear hlr2
                    have hn' : n < 65536 := hn
                    have hidw := Lib.hid (hid2.out.kp hk2 (fun k h => by have h' : k = wr.heap.size + 1 := h; omega) (fun k h e => by have h' : k < wr.heap.size := h; have e' : k = wr.heap.size + 1 := e; omega))
                    have hbx2 := Lib.hid (hk2.blk (fun h => by omega) hbx'.out)
                    obtain ⟨⟨x0, x1, x2, x3, x4, x5, x6⟩, ⟨g0, g1, g2, g3, g4, g5, g6⟩⟩ := seven hbx2.out
                    have hxl := lt_of_block hbx2.out
                    obtain ⟨Ak, ck, Ac, cc, tR, tO, hbR, hbO, _, _⟩ := hidw.out.open_
                    obtain ⟨⟨z0, z1, z2, z3, z4, z5, z6⟩, ⟨f0, f1, f2, f3, f4, f5, f6⟩⟩ := seven hbO
                    have hne2 : ¬ w.heap.size + 1 = wr.heap.size := by omega
                    clear hbR hbO hk2
                    go_wp2_with fail
                    go_meet
                    case rel =>
                      have hcd : CDt w (fun _ => True) ((w2.setCell ⟨wr.heap.size, 6, none⟩ (.int .i64 (n : Int))).setCell ⟨w.heap.size + 1, 6, none⟩ (.int .i64 (n : Int))) { a with selected := (n : Int) } := by
                        refine CDt.mono (N := fun k => k < wr.heap.size) ((hidw.out.kp (kp_set w2 wr.heap.size 6 (.int .i64 (n : Int))) (fun k h => by have h' : k = wr.heap.size := h; omega) (fun k h e => by have h' : k < wr.heap.size := h; have e' : k = wr.heap.size := e; omega)).put 6 _ ?_) (fun _ _ => trivial)
                        rintro vs ⟨vk, vc, rfl, h1, h2⟩
                        exact ⟨vk, vc, rfl, h1, h2⟩
                      exact ⟨{ ch0 with selected := (n : Int) }, rgSelected, _, ⟨rfl, hld.out, chk_selected _ _⟩, ⟨(kp_set _ _ _ _).blk (fun e => by omega) (set_cells hbx2.out 6 _), ⟨.slice none 0 0, .slice none 0 0, rfl, Sl.nil _ _ _, Sl.nil _ _ _⟩, by unfold Ch.ok; simp [ch0]; try omega⟩, hcd⟩
                  · have hb41 : (ty == 41) = false := by simpa using h41
                    have hd2 := Lib.hid (hdef.out (.inr h41))
                    go_wp2_with fail
                    go_roundg (gk - 1)
                    case rel => exact ⟨k + 1, a, by omega, by go_num, hid4, hd2.out⟩
                    case measure => omega
                · have hd2 := Lib.hid (hdef.out (.inl rfl))
                  by_cases h41 : ty = 41
                  · subst h41
                    go_wp2_with fail
                    go_roundg (gk - 1)
                    case rel => exact ⟨k + 1, a, by omega, by go_num, hid4, hd2.out⟩
                    case measure => omega
                  · have hb41 : (ty == 41) = false := by simpa using h41
                    go_wp2_with fail
                    go_roundg (gk - 1)
                    case rel => exact ⟨k + 1, a, by omega, by go_num, hid4, hd2.out⟩
                    case measure => omega
        case rest =>
          obtain ⟨x, g, vs, hg, hxb, hidx⟩ := hcut
          obtain ⟨hb1, ⟨vk, vc, rfl, hxk, hxc⟩, hxo⟩ := hxb.out
          have hxk' := Lib.hid hxk
          have hxc' := Lib.hid hxc
          have hxo' := Lib.hid hxo
          obtain ⟨Akx, ckx, rfl, _, _, _⟩ := hxk
          obtain ⟨Acx, ccx, rfl, _, _, _⟩ := hxc
          unfold Ch.cells at hb1
          obtain ⟨⟨x0, x1, x2, x3, x4, x5, x6⟩, _⟩ := seven hb1
          have hbl1 := lt_of_block hb1
          clear hb1 hxo
          go_wp2_with fail
          refine (rputChoice_any wc x _ _ hxo'.out hxk'.out hxc'.out).mono ?_
          rintro e w3 ⟨v3, l3, ok3, rfl, hsl3, hk3, hl3, hm3⟩
          have hid3 := Lib.hid (hidx.out.kp0 hk3)
          obtain ⟨ad', A1', c1', hA', hca0, _, _⟩ := field_at (arr_of (hlv'.out.kp (hidx.out.2.2.1.trans hk3) (fun _ _ _ h => h))) hx.out
          injection hA' with hA'
          subst hA'
          have hchk : Hid (g.chk x b = (ok3 && known l3 ty b)) := by
            show g.chk x b = _
            rw [hg.out.2.2]
            cases hp : putChoiceM x with
            | none => rw [hp] at hm3; rw [show ok3 = false from hm3]; rfl
            | some l' => rw [hp] at hm3; rw [hm3.1, hm3.2]; rfl
          have hstep : Hid (rchoiceM again all = if g.chk x b = true then rLoop (rgetsC again) (-1) all.length (k + 1) (all.drop (k + 1)) (g.up x a) else none) := by
            show rchoiceM again all = _
            rw [heq.out, hd.out, rLoop_hit hg.out.1 hg.out.2.1 (by
              by_cases ht : ty = -1
              · have h1 := hg.out.1; subst ht; cases again <;> cases h1
              · exact .inl ht)]
          have hsl3' := Lib.hid hsl3
          obtain ⟨A3, c3, rfl, _, _, _⟩ := hsl3
          clear hm3 hk3 x0 x1 x2 x3 x4 x5 x6 hbl1
          go_wp2_with fail
          refine (known_any _ l3 _ ty b hsl3'.out (by omega)).mono ?_
          rintro e w4 ⟨rfl, rfl⟩
          generalize known l3 ty b = kn at hchk ⊢
          rw [hchk.out] at hstep
          have hlo5 := hid3.out.2.2.2
          cases ok3
          · obtain ⟨Ak, ck, Ac, cc, tR, tO, hbR, hbO, hrk, hrc⟩ := hid3.out.open_
            obtain ⟨⟨y0, y1, y2, y3, y4, y5, y6⟩, ⟨f0, f1, f2, f3, f4, f5, f6⟩⟩ := seven hbR
            obtain ⟨⟨z0, z1, z2, z3, z4, z5, z6⟩, _⟩ := seven hbO
            have hlO := lt_of_block hbO
            have hlR := lt_of_block hbR
            have hrk' := Lib.hid hrk
            have hrc' := Lib.hid hrc
            clear hbR hbO hrk hrc
            go_wp2_with fail
            refine bodyPost_ret (v := .tuple #[.agg #[.int .i64 (g.up x a).version, .bool (g.up x a).hasShare, .int .i64 (g.up x a).sgroup, .slice Ak (g.up x a).key.length ck, .int .i64 (g.up x a).group, .slice Ac (g.up x a).cookie.length cc, .int .i64 (g.up x a).selected], .bool false]) (by simp [results, Tryz.results9, go_sem, y0, y1, y2, y3, y4, y5, y6]) rfl ?_
            rw [hstep.out]
            exact ⟨⟨_, _, _, _, _, _, _, rfl⟩, hid3.out.2.2.1.trans' (seven_kp _ _ _ _ _ _ _ _ _) (fun k hk h => by have h' : k = w.heap.size := h; omega)⟩
          · cases kn
            · obtain ⟨Ak, ck, Ac, cc, tR, tO, hbR, hbO, hrk, hrc⟩ := hid3.out.open_
              obtain ⟨⟨y0, y1, y2, y3, y4, y5, y6⟩, ⟨f0, f1, f2, f3, f4, f5, f6⟩⟩ := seven hbR
              obtain ⟨⟨z0, z1, z2, z3, z4, z5, z6⟩, _⟩ := seven hbO
              have hlO := lt_of_block hbO
              have hlR := lt_of_block hbR
              have hrk' := Lib.hid hrk
              have hrc' := Lib.hid hrc
              clear hbR hbO hrk hrc
              go_wp2_with fail
              refine bodyPost_ret (v := .tuple #[.agg #[.int .i64 (g.up x a).version, .bool (g.up x a).hasShare, .int .i64 (g.up x a).sgroup, .slice Ak (g.up x a).key.length ck, .int .i64 (g.up x a).group, .slice Ac (g.up x a).cookie.length cc, .int .i64 (g.up x a).selected], .bool false]) (by simp [results, Tryz.results9, go_sem, y0, y1, y2, y3, y4, y5, y6]) rfl ?_
              rw [hstep.out]
              exact ⟨⟨_, _, _, _, _, _, _, rfl⟩, hid3.out.2.2.1.trans' (seven_kp _ _ _ _ _ _ _ _ _) (fun k hk h => by have h' : k = w.heap.size := h; omega)⟩
            · go_wp2_with fail
              go_roundg (gk - 1)
              case rel => exact ⟨k + 1, g.up x a, by omega, by go_num, hid3, by show rchoiceM again all = _; rw [hstep.out]; rfl⟩
              case measure => omega
      · obtain rfl : k = all.length := by omega
        have hres2 : Hid (rchoiceM again all = some a) := by
          show rchoiceM again all = _
          rw [heq.out, List.drop_length]
          rfl
        have hidq' := Lib.hid hid.out
        have hlo5 := hidq'.out.2.2.2
        obtain ⟨Ak, ck, Ac, cc, tR, tO, hbR, hbO, hrk, hrc⟩ := hidq'.out.open_
        obtain ⟨⟨y0, y1, y2, y3, y4, y5, y6⟩, ⟨f0, f1, f2, f3, f4, f5, f6⟩⟩ := seven hbR
        obtain ⟨⟨z0, z1, z2, z3, z4, z5, z6⟩, _⟩ := seven hbO
        have hlO := lt_of_block hbO
        have hlR := lt_of_block hbR
        have hrk' := Lib.hid hrk
        have hrc' := Lib.hid hrc
        clear hbR hbO hrk hrc
        go_wp2_with fail
        refine bodyPost_ret (v := .tuple #[.agg #[.int .i64 (a).version, .bool (a).hasShare, .int .i64 (a).sgroup, .slice Ak (a).key.length ck, .int .i64 (a).group, .slice Ac (a).cookie.length cc, .int .i64 (a).selected], .bool true]) (by simp [results, Tryz.results9, go_sem, y0, y1, y2, y3, y4, y5, y6]) rfl ?_
        rw [hres2.out]
        have hks := seven_kp wr w.heap.size (.int .i64 (a).version) (.bool (a).hasShare) (.int .i64 (a).sgroup) (.slice Ak (a).key.length ck) (.int .i64 (a).group) (.slice Ac (a).cookie.length cc) (.int .i64 (a).selected)
        exact ⟨_, _, rfl, (hrk'.out.kp hks (fun k _ h e => h.2 e)).mono (fun k _ h => h.1), (hrc'.out.kp hks (fun k _ h e => h.2 e)).mono (fun k _ h => h.1), hidq'.out.2.2.1.trans' hks (fun k hk h => by have h' : k = w.heap.size := h; omega)⟩
  · rw [decide_eq_false hnd, Bool.not_false]
    have hres : Hid (rchoiceM again all = none) := by
      show rchoiceM again all = _
      unfold rchoiceM rgetM
      rw [if_neg hnd]
    have hlo5 := hid1.out.2.2.2
    obtain ⟨Ak, ck, Ac, cc, tR, tO, hbR, hbO, hrk, hrc⟩ := hid1.out.open_
    obtain ⟨⟨y0, y1, y2, y3, y4, y5, y6⟩, ⟨f0, f1, f2, f3, f4, f5, f6⟩⟩ := seven hbR
    obtain ⟨⟨z0, z1, z2, z3, z4, z5, z6⟩, _⟩ := seven hbO
    have hlO := lt_of_block hbO
    have hlR := lt_of_block hbR
    have hrk' := Lib.hid hrk
    have hrc' := Lib.hid hrc
    clear hbR hbO hrk hrc
    go_wp2_with fail
    refine bodyPost_ret (v := .tuple #[.agg #[.int .i64 (ch0).version, .bool (ch0).hasShare, .int .i64 (ch0).sgroup, .slice Ak (ch0).key.length ck, .int .i64 (ch0).group, .slice Ac (ch0).cookie.length cc, .int .i64 (ch0).selected], .bool false]) (by simp [results, Tryz.results9, go_sem, y0, y1, y2, y3, y4, y5, y6]) rfl ?_
    rw [hres.out]
    exact ⟨⟨_, _, _, _, _, _, _, rfl⟩, hid1.out.2.2.1.trans' (seven_kp _ _ _ _ _ _ _ _ _) (fun k hk h => by have h' : k = w.heap.size := h; omega)⟩
end Go.Proofs.YtiaheamhmhnodaaGreatDoor
