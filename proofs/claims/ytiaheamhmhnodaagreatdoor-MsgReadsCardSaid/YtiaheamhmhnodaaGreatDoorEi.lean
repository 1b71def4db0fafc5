/- The document's own Inner. -/
import Derived.Test.YtiaheamhmhnodaaGreatDoorEt
import Derived.Test.YtiaheamhmhnodaaGreatDoorEc
import Derived.Test.YtiaheamhmhnodaaGreatDoorRi
import Derived.Deep.DeepCutAuto
import Derived.Deep.CutBlock
namespace Go.Proofs.YtiaheamhmhnodaaGreatDoor
open Go.RowKit M

theorem lall_len {α : Type} (ls : List UInt8 → α × List UInt8) : ∀ (n : Nat) (s : List UInt8), (lall ls n s).length ≤ n
  | n, [] => by cases n <;> simp [lall]
  | 0, _ :: _ => by simp [lall]
  | n + 1, c :: s => by
    have := lall_len ls n (ls (c :: s)).2
    simp [lall]; omega
theorem lvec2_len (s : List UInt8) : (lvec 2 s).1.length ≤ 65535 := by
  have h1 := (ltake_len (lnum 2 s).1 (lnum 2 s).2).2.2
  have h2 := lnum_lt 2 s
  have h3 : (lvec 2 s).1.length = (ltake (lnum 2 s).1 (lnum 2 s).2).1.length := rfl
  omega
theorem rLoop_hit {σ : Type} {rs : List (RGet σ)} {last : Int} {n i : Nat} {ty : Int} {b : List UInt8} {r : List (Int × List UInt8)} {a : σ} {g : RGet σ} (hf : rs.find? (fun f => f.kind == ty) = some g) {x : σ} (hx : g.ld b = some x) (hl : ty ≠ last ∨ i + 1 = n) :
    rLoop rs last n i ((ty, b) :: r) a = if g.chk x b = true then rLoop rs last n (i + 1) r (g.up x a) else none := by
  show (match rs.find? (fun f => f.kind == ty) with
    | none => rLoop rs last n (i + 1) r a
    | some f => match f.ld b with
      | none => none
      | some x => if (ty ≠ last ∨ i + 1 = n) ∧ f.chk x b = true then rLoop rs last n (i + 1) r (f.up x a) else none) = _
  rw [hf]
  simp only
  rw [hx]
  simp only
  by_cases hc : g.chk x b = true
  · rw [if_pos ⟨hl, hc⟩, if_pos hc]
  · rw [if_neg (fun h => hc h.2), if_neg hc]
theorem rLoop_none {σ : Type} {rs : List (RGet σ)} {last : Int} {n i : Nat} {ty : Int} {b : List UInt8} {r : List (Int × List UInt8)} {a : σ} {g : RGet σ} (hf : rs.find? (fun f => f.kind == ty) = some g) (hx : g.ld b = none) :
    rLoop rs last n i ((ty, b) :: r) a = none := by
  show (match rs.find? (fun f => f.kind == ty) with
    | none => rLoop rs last n (i + 1) r a
    | some f => match f.ld b with
      | none => none
      | some x => if (ty ≠ last ∨ i + 1 = n) ∧ f.chk x b = true then rLoop rs last n (i + 1) r (f.up x a) else none) = _
  rw [hf]
  simp only
  rw [hx]
theorem rLoop_last {σ : Type} {rs : List (RGet σ)} {last : Int} {n i : Nat} {ty : Int} {b : List UInt8} {r : List (Int × List UInt8)} {a : σ} {g : RGet σ} (hf : rs.find? (fun f => f.kind == ty) = some g) (hl : ¬ (ty ≠ last ∨ i + 1 = n)) :
    rLoop rs last n i ((ty, b) :: r) a = none := by
  show (match rs.find? (fun f => f.kind == ty) with
    | none => rLoop rs last n (i + 1) r a
    | some f => match f.ld b with
      | none => none
      | some x => if (ty ≠ last ∨ i + 1 = n) ∧ f.chk x b = true then rLoop rs last n (i + 1) r (f.up x a) else none) = _
  rw [hf]
  simp only
  cases g.ld b with
  | none => rfl
  | some x => exact if_neg (fun h => hl h.1)
theorem rLoop_miss {σ : Type} {rs : List (RGet σ)} {last : Int} {n i : Nat} {ty : Int} {b : List UInt8} {r : List (Int × List UInt8)} {a : σ} (hf : rs.find? (fun f => f.kind == ty) = none) :
    rLoop rs last n i ((ty, b) :: r) a = rLoop rs last n (i + 1) r a := by
  show (match rs.find? (fun f => f.kind == ty) with
    | none => rLoop rs last n (i + 1) r a
    | some f => match f.ld b with
      | none => none
      | some x => if (ty ≠ last ∨ i + 1 = n) ∧ f.chk x b = true then rLoop rs last n (i + 1) r (f.up x a) else none) = _
  rw [hf]

/-- what the document's Inner answers -/
def RIn (w : World) (m : Option In) (e : Ending) (w' : World) : Prop := match m with
  | none => (∃ p A n c, e = .returned (.tuple #[.agg #[.string p, .slice A n c], .bool false])) ∧ Kp nobody w w'
  | some x => ∃ vs, e = .returned (.tuple #[.agg #[.string x.proto, vs], .bool true]) ∧ Is (fun k => w.heap.size ≤ k) w' vs x.schemes ∧ Kp nobody w w'
/-- while it goes: the result's block, then that of what has been read; block q is another one's -/
def IDt (w : World) (q : Nat) (wr : World) (a : In) : Prop :=
  (∃ t u v, wr.heap[w.heap.size]? = some (.cells #[u, v] t (0, 0))) ∧ (∃ t v, wr.heap[w.heap.size + 1]? = some (.cells #[.string a.proto, v] t (0, 0)) ∧ Is (fun k => w.heap.size + 1 < k ∧ k ≠ q) wr v a.schemes) ∧ Kp nobody w wr ∧ w.heap.size + 1 < wr.heap.size
theorem IDt.kp {w wr w' : World} {q : Nat} {a : In} (h : IDt w q wr a) (hq : w.heap.size + 1 < q) (hk : Kp (· = q) wr w') : IDt w q w' a := by
  obtain ⟨⟨t, u, v, h1⟩, ⟨t2, v2, h2, h3⟩, h4, h5⟩ := h
  exact ⟨⟨t, u, v, hk.blk (fun e => by omega) h1⟩, ⟨t2, v2, hk.blk (fun e => by omega) h2, h3.kp hk (fun _ _ h e => h.2 e)⟩, h4.trans' hk (fun k hk h => by omega), Nat.lt_of_lt_of_le h5 hk.size⟩
theorem IDt.kp0 {w wr w' : World} {q : Nat} {a : In} (h : IDt w q wr a) (hk : Kp nobody wr w') : IDt w q w' a := by
  obtain ⟨⟨t, u, v, h1⟩, ⟨t2, v2, h2, h3⟩, h4, h5⟩ := h
  exact ⟨⟨t, u, v, hk.blk id h1⟩, ⟨t2, v2, hk.blk id h2, h3.kp hk (fun _ _ _ h => h)⟩, h4.trans hk, Nat.lt_of_lt_of_le h5 hk.size⟩
theorem IDt.fresh {w wr : World} {q q' : Nat} {a : In} (h : IDt w q wr a) (hq : wr.heap.size ≤ q') : IDt w q' wr a := by
  obtain ⟨⟨t, u, v, h1⟩, ⟨t2, v2, h2, h3⟩, h4, h5⟩ := h
  exact ⟨⟨t, u, v, h1⟩, ⟨t2, v2, h2, h3.mono (fun k hk h => ⟨h.1, by omega⟩)⟩, h4, h5⟩
theorem IDt.put0 {w wr : World} {q : Nat} {a : In} (h : IDt w q wr a) (p : ByteArray) : IDt w q (wr.setCell ⟨w.heap.size + 1, 0, none⟩ (.string p)) { a with proto := p } := by
  obtain ⟨⟨t, u, v, h1⟩, ⟨t2, v2, h2, h3⟩, h4, h5⟩ := h
  have hk := kp_set wr (w.heap.size + 1) 0 (.string p)
  exact ⟨⟨t, u, v, hk.blk (fun e => by omega) h1⟩, ⟨t2, v2, set_cells h2 0 _, h3.kp hk (fun k _ h e => by have := h.1; omega)⟩, h4.trans' hk (fun k hk h => by omega), Nat.lt_of_lt_of_le h5 hk.size⟩
theorem IDt.put1 {w wr : World} {q : Nat} {a : In} (h : IDt w q wr a) {v' : Value} {l : List Int} (hv : Is (fun k => w.heap.size + 1 < k ∧ k ≠ q) wr v' l) : IDt w q (wr.setCell ⟨w.heap.size + 1, 1, none⟩ v') { a with schemes := l } := by
  obtain ⟨⟨t, u, v, h1⟩, ⟨t2, v2, h2, h3⟩, h4, h5⟩ := h
  have hk := kp_set wr (w.heap.size + 1) 1 v'
  exact ⟨⟨t, u, v, hk.blk (fun e => by omega) h1⟩, ⟨t2, _, set_cells h2 1 _, hv.kp hk (fun k _ h e => by have := h.1; omega)⟩, h4.trans' hk (fun k hk h => by omega), Nat.lt_of_lt_of_le h5 hk.size⟩
theorem IDt.open_ {w wr : World} {q : Nat} {a : In} (h : IDt w q wr a) : ∃ A c u v, (wr.cell? ⟨w.heap.size, 0, none⟩ = some u ∧ wr.cell? ⟨w.heap.size, 1, none⟩ = some v ∧ wr.frozen? ⟨w.heap.size, 0, none⟩ = false ∧ wr.frozen? ⟨w.heap.size, 1, none⟩ = false) ∧
    (wr.cell? ⟨w.heap.size + 1, 0, none⟩ = some (.string a.proto) ∧ wr.cell? ⟨w.heap.size + 1, 1, none⟩ = some (.slice A a.schemes.length c) ∧ wr.frozen? ⟨w.heap.size + 1, 0, none⟩ = false ∧ wr.frozen? ⟨w.heap.size + 1, 1, none⟩ = false) ∧ Is (fun k => w.heap.size ≤ k ∧ k ≠ w.heap.size) wr (.slice A a.schemes.length c) a.schemes := by
  obtain ⟨⟨t, u, v, h1⟩, ⟨t2, v2, h2, h3⟩, _, _⟩ := h
  have h3' := h3
  obtain ⟨A, c, rfl, _, _, _⟩ := h3'
  exact ⟨A, c, u, v, two_cells h1, two_cells h2, h3.mono (fun k _ h => ⟨by have := h.1; omega, by have := h.1; omega⟩)⟩
theorem arr_of {α : Type} {d : Kin α} {N : Nat → Prop} {w : World} {A : Option Addr} {c n : Nat} {xs : List α} (h : Sl d N w (.slice A n c) xs) : d.Arr N w A xs := by
  obtain ⟨A', c', e, _, _, h⟩ := h
  injection e with e1 e2 e3
  rw [e1]
  exact h
set_option maxRecDepth 10000 in
set_option maxHeartbeats 4000000 in
theorem rinner_any (w : World) (lv : Value) (all : List (Int × List UInt8)) (hlv : Sl kfield (fun k => k < w.heap.size) w lv all) (hall : all.length ≤ 256) (hbl : ∀ f ∈ all, f.2.length ≤ 1000000) :
    Calls Tryz.prog 12 #[lv] w (RIn w (rinnerM all)) := by
  have hlv' := Lib.hid hlv
  obtain ⟨Al, cl, rfl, _, _, _⟩ := hlv
  have hbl' := Lib.hid hbl
  clear hbl
  have hid0 : IDt w 0 ((w.alloc (.cells #[.string ⟨#[]⟩, .slice none 0 0] 48)).alloc (.cells #[.string ⟨#[]⟩, .slice none 0 0] 48)) in0 :=
    ⟨⟨_, _, _, ((Kp.refl nobody _).alloc _).blk id (heap_alloc_new w _)⟩, ⟨_, _, by simpa [in0] using heap_alloc_new (w.alloc (.cells #[.string ⟨#[]⟩, .slice none 0 0] 48)) (.cells #[.string ⟨#[]⟩, .slice none 0 0] 48), Sl.nil _ _ _⟩, ((Kp.refl _ _).alloc _).alloc _, by simp⟩
  have hid0' := Lib.hid hid0
  clear hid0
  go_enter Tryz.func12, Tryz.ntmps12
  go_wp2_with fail
  refine (twice_any _ _ _ (hlv'.out.kp hid0'.out.2.2.1 (fun _ _ _ h => h)) (by omega)).mono ?_
  rintro e w1 ⟨rfl, hk1⟩
  have hid1 := Lib.hid (hid0'.out.kp0 hk1)
  clear hk1
  by_cases hnd : (all.map Prod.fst).Nodup
  · rw [decide_eq_true hnd, Bool.not_true]
    have hres : Hid (rinnerM all = rLoop [rgProto, rgSchemes] (-1) all.length 0 all in0) := by
      show rinnerM all = _
      unfold rinnerM rgetM
      rw [if_pos hnd]
    go_wp2_with fail
    go_loopg [6] all.length (fun g i wr => ∃ (k : Nat) (a : In), k + g = all.length ∧ i = .int .i64 (k : Int) ∧ Hid (∃ q, IDt w q wr a) ∧ Hid (rinnerM all = rLoop [rgProto, rgSchemes] (-1) all.length k (all.drop k) a))
    case atStart => exact ⟨0, in0, by omega, rfl, ⟨_, hid1.out⟩, hres⟩
    case round =>
      obtain ⟨k, a, hkg, rfl, hid, heq⟩ := hrel
      by_cases hlt : k < all.length
      · obtain ⟨ty, b, hx⟩ : ∃ t x, all[k]? = some (t, x) := ⟨_, _, List.getElem?_eq_getElem hlt⟩
        have hd : Hid (all.drop k = (ty, b) :: all.drop (k + 1)) := by
          show all.drop k = _
          rw [List.drop_eq_getElem_cons hlt]
          congr 1
          exact (List.getElem?_eq_some_iff.1 hx).2
        have hb := Lib.hid (hbl'.out (ty, b) (List.mem_of_getElem? hx))
        obtain ⟨wo, hwo⟩ : ∃ wo, wo = wr.alloc (.cells #[.string ⟨#[]⟩, .slice none 0 0] 48) := ⟨_, rfl⟩
        have hko : Kp nobody wr wo := by rw [hwo]; exact (Kp.refl _ _).alloc _
        obtain ⟨q, hidq⟩ := hid.out
        have hidf := Lib.hid (hidq.fresh (Nat.le_refl _))
        clear hidq
        obtain ⟨ad, A1, c1, hA, hca0, hca1, hua⟩ := field_at (arr_of (hlv'.out.kp (hidf.out.2.2.1.trans hko) (fun _ _ _ h => h))) hx
        have hid2 := Lib.hid (hidf.out.kp0 hko)
        have hl5 := hidf.out.2.2.2
        have hlo : wo.heap.size = wr.heap.size + 1 := by rw [hwo]; simp
        have hbx : wo.heap[wr.heap.size]? = some (.cells #[.string ⟨#[]⟩, .slice none 0 0] 48 (0, 0)) := by rw [hwo]; exact heap_alloc_new _ _
        have hcv1 := run_string_of (P := Tryz.prog) wo 26 9 5 Tryz.underlying26 Tryz.underlying5 Tryz.underlying9 A1 c1 b hua
        have hlo' := Lib.hid hlo
        have hbx' := Lib.hid hbx
        clear hlo hbx
        subst hwo
        subst hA
        replace hko := Lib.hid hko
        replace hx := Lib.hid hx
        replace hua := Lib.hid hua
        go_upto_block 2 with fail
        clear hca0 hca1
        go_cut [] (fun wx => ∃ (x : In) (g : RGet In) (vx : Value), Hid ([rgProto, rgSchemes].find? (fun f => f.kind == ty) = some g ∧ g.ld b = some x ∧ (g.chk x b = okPut (putInnerM x) ty b)) ∧ Hid (wx.heap[wr.heap.size]? = some (.cells #[.string x.proto, vx] 48 (0, 0)) ∧ Is (fun k => k < wx.heap.size) wx vx x.schemes ∧ x.schemes.length ≤ 70000) ∧ Hid (IDt w wr.heap.size wx (g.up x a)))
        case first =>
          by_cases h16 : ty = 16
          · subst h16
            go_wp2_with fail
            refine (rreadProtos_any _ b hb.out).mono ?_
            rintro e w2 ⟨v, rfl, hv, hk2⟩
            obtain ⟨Ap, cp, rfl, hpl, hpA, hpar⟩ := hv
            have hidw := Lib.hid (hid2.out.kp0 hk2)
            have hbx2 := hk2.blk id hbx'.out
            have hld : Hid (rgProto.ld b = match lprotos b with | [p] => some { in0 with proto := p } | _ => none) := rfl
            generalize lprotos b = lp at hpl hpar hld ⊢
            have hpl' := Lib.hid hpl
            have hpar' := Lib.hid hpar
            have hs2 := hk2.size
            rw [hlo'.out] at hs2
            by_cases h1 : lp.length = 1
            · obtain ⟨p, rfl⟩ := List.length_eq_one_iff.1 h1
              obtain ⟨pd, rfl, hpn, hps, hpc⟩ := Kin.Arr.cell hpar'.out (i := 0) (by simp)
              rw [hlo'.out] at hpn
              rw [show pd.add 0 = pd by simp [Addr.add]] at hpc
              simp only [List.getElem_cons_zero] at hpc
              obtain ⟨hx0, hx1, hxf0, hxf1⟩ := two_cells hbx2
              have hxl := lt_of_block hbx2
              obtain ⟨A2, c2, u2, v2, ⟨hr0, hr1, hrf0, hrf1⟩, ⟨ho0, ho1, hof0, hof1⟩, _⟩ := hidw.out.open_
              have hne : ¬ pd.block = wr.heap.size := by omega
              have hne2 : ¬ w.heap.size + 1 = wr.heap.size := by omega
              have hpc2 : (w2.setCell ⟨wr.heap.size, 0, none⟩ (.string p)).cell? pd = some (.string p) := (kp_set _ _ _ _).cell hne hpc
              have hbx2' := Lib.hid hbx2
              clear hbx2 hpl hpar h1 hk2
              go_wp2_with fail
              go_meet
              case rel =>
                refine ⟨{ in0 with proto := p }, rgProto, .slice none 0 0, ⟨rfl, hld.out, rfl⟩, ⟨(kp_set _ _ _ _).blk (fun e => by omega) (set_cells hbx2'.out 0 _), Sl.nil _ _ _, (show ([] : List Int).length ≤ 70000 by decide)⟩, ?_⟩
                exact ((hidw.out.kp hl5 (kp_set w2 wr.heap.size 0 (.string p))).put0 p)
            · have hres : Hid (rinnerM all = none) := by
                show rinnerM all = none
                rw [heq.out, hd.out]
                exact rLoop_none (g := rgProto) rfl (hld.out.trans (by
                  match lp, h1 with
                  | [], _ => rfl
                  | [x], h1 => exact absurd rfl h1
                  | _ :: _ :: _, _ => rfl))
              have h1b : ((lp.length : Int) != 1) = true := by simp; omega
              have h1c : ¬ (lp.length : Int) = 1 := by omega
              obtain ⟨A2, c2, u2, v2, ⟨hr0, hr1, hrf0, hrf1⟩, ⟨ho0, ho1, hof0, hof1⟩, _⟩ := hidw.out.open_
              have hlo5 := hidw.out.2.2.2
              clear hbx2 hpl hpar hk2 h1
              go_wp2_with fail
              refine bodyPost_ret (v := .tuple #[.agg #[.string a.proto, .slice A2 a.schemes.length c2], .bool false]) (by simp [results, Tryz.results12, go_sem, hr0, hr1]) rfl ?_
              rw [hres.out]
              exact ⟨⟨_, _, _, _, rfl⟩, hidw.out.2.2.1.trans' ((kp_set _ _ _ _).trans (kp_set _ _ _ _)) (fun k hk h => by have h' : k = w.heap.size := h; omega)⟩
          · by_cases h13 : ty = 13
            · subst h13
              go_wp2_with fail
              refine (inside_any _ b 2 (by decide)).mono ?_
              rintro e w2 ⟨rfl, hk2⟩
              have hll := lvec2_len b
              have hld : Hid (rgSchemes.ld b = some { in0 with schemes := lnums 2 (lvec 2 b).1 }) := rfl
              generalize (lvec 2 b).1 = b2 at hll hld ⊢
              go_wp2_with fail
              refine (rnumbers_any _ b2 2 (by decide) (by decide) (by omega)).mono ?_
              rintro e w3 ⟨v, rfl, hv, hk3⟩
              have hll2 : (lnums 2 b2).length ≤ 70000 := by
                have := lall_len (lnumI 2) b2.length b2
                show (lall (lnumI 2) b2.length b2).length ≤ 70000
                omega
              have hidw := Lib.hid ((hid2.out.kp0 hk2).kp0 hk3)
              have hbx2 := hk3.blk id (hk2.blk id hbx'.out)
              generalize lnums 2 b2 = lp at hv hld hll2
              have hv' := Lib.hid hv
              obtain ⟨Ap, cp, rfl, _, _, _⟩ := hv
              have hs2 := hk2.size
              rw [hlo'.out] at hs2
              have hs3 := hk3.size
              obtain ⟨hx0, hx1, hxf0, hxf1⟩ := two_cells hbx2
              have hxl := lt_of_block hbx2
              obtain ⟨A2, c2, u2, v2, ⟨hr0, hr1, hrf0, hrf1⟩, ⟨ho0, ho1, hof0, hof1⟩, _⟩ := hidw.out.open_
              have hne2 : ¬ w.heap.size + 1 = wr.heap.size := by omega
              have hbx2' := Lib.hid hbx2
              clear hbx2 hk2 hk3
              go_wp2_with fail
              go_meet
              case rel =>
                have hkx := kp_set w3 wr.heap.size 1 (.slice Ap lp.length cp)
                have hv3 : Is (fun k => w.heap.size + 1 < k ∧ k ≠ wr.heap.size) (w3.setCell ⟨wr.heap.size, 1, none⟩ (.slice Ap lp.length cp)) (.slice Ap lp.length cp) lp := (hv'.out.mono (fun k _ h => by have h' : w2.heap.size ≤ k := h; exact ⟨by omega, by omega⟩)).kp hkx (fun k _ h e => h.2 e)
                have hid3 := (hidw.out.kp hl5 hkx).put1 hv3
                refine ⟨{ in0 with schemes := lp }, rgSchemes, .slice Ap lp.length cp, ⟨rfl, hld.out, rfl⟩, ⟨(kp_set _ _ _ _).blk (fun e => by omega) (set_cells hbx2'.out 1 _), ?_, hll2⟩, hid3⟩
                exact (hv3.kp (kp_set _ _ _ _) (fun k _ h e => by have := h.1; omega)).mono (fun k hk _ => hk)
            · have hb16 : (ty == 16) = false := by simpa using h16
              have hb13 : (ty == 13) = false := by simpa using h13
              have hfn : Hid ([rgProto, rgSchemes].find? (fun f => f.kind == ty) = none) := by
                show List.find? _ _ = none
                simp [rgProto, rgSchemes]
                exact ⟨fun h => h16 h.symm, fun h => h13 h.symm⟩
              go_wp2_with fail
              go_roundg (gk - 1)
              case rel =>
                refine ⟨k + 1, a, by omega, by go_num, ⟨_, hid2.out⟩, ?_⟩
                show rinnerM all = _
                rw [heq.out, hd.out, rLoop_miss hfn.out]
              case measure => omega
        case rest =>
          obtain ⟨x, g, vx, hg, hxb, hidx⟩ := hcut
          obtain ⟨hb1, hvx, hxl⟩ := hxb.out
          obtain ⟨hc0, hc1, _, _⟩ := two_cells hb1
          have hbl1 := lt_of_block hb1
          clear hb1
          have hvx' := Lib.hid hvx
          obtain ⟨Ax, cx, rfl, _, _, _⟩ := hvx
          go_wp2_with fail
          refine (rputInner_any wc x _ hvx'.out hxl).mono ?_
          rintro e w3 ⟨v3, l3, ok3, rfl, hsl3, hk3, hl3, hm3⟩
          have hid3 := Lib.hid (hidx.out.kp0 hk3)
          obtain ⟨ad', A1', c1', hA', hca0, _, _⟩ := field_at (arr_of (hlv'.out.kp (hidx.out.2.2.1.trans hk3) (fun _ _ _ h => h))) hx.out
          injection hA' with hA'
          subst hA'
          have hchk : Hid (g.chk x b = (ok3 && known l3 ty b)) := by
            show g.chk x b = _
            rw [hg.out.2.2]
            cases hp : putInnerM x with
            | none => rw [hp] at hm3; rw [show ok3 = false from hm3]; rfl
            | some l' => rw [hp] at hm3; rw [hm3.1, hm3.2]; rfl
          have hstep : Hid (rinnerM all = if g.chk x b = true then rLoop [rgProto, rgSchemes] (-1) all.length (k + 1) (all.drop (k + 1)) (g.up x a) else none) := by
            show rinnerM all = _
            rw [heq.out, hd.out, rLoop_hit hg.out.1 hg.out.2.1 (by
              by_cases ht : ty = -1
              · have h1 := hg.out.1; subst ht; cases h1
              · exact .inl ht)]
          have hsl3' := Lib.hid hsl3
          obtain ⟨A3, c3, rfl, _, _, _⟩ := hsl3
          clear hm3 hk3
          go_wp2_with fail
          refine (known_any _ l3 _ ty b hsl3'.out (by omega)).mono ?_
          rintro e w4 ⟨rfl, rfl⟩
          generalize known l3 ty b = kn at hchk ⊢
          rw [hchk.out] at hstep
          obtain ⟨A2, c2, u2, v2, ⟨hr0, hr1, hrf0, hrf1⟩, ⟨ho0, ho1, hof0, hof1⟩, _⟩ := hid3.out.open_
          have hlo5 := hid3.out.2.2.2
          cases ok3
          · go_wp2_with fail
            refine bodyPost_ret (v := .tuple #[.agg #[.string (g.up x a).proto, .slice A2 (g.up x a).schemes.length c2], .bool false]) (by simp [results, Tryz.results12, go_sem, hr0, hr1]) rfl ?_
            rw [hstep.out]
            exact ⟨⟨_, _, _, _, rfl⟩, hid3.out.2.2.1.trans' ((kp_set _ _ _ _).trans (kp_set _ _ _ _)) (fun k hk h => by have h' : k = w.heap.size := h; omega)⟩
          · cases kn
            · go_wp2_with fail
              refine bodyPost_ret (v := .tuple #[.agg #[.string (g.up x a).proto, .slice A2 (g.up x a).schemes.length c2], .bool false]) (by simp [results, Tryz.results12, go_sem, hr0, hr1]) rfl ?_
              rw [hstep.out]
              exact ⟨⟨_, _, _, _, rfl⟩, hid3.out.2.2.1.trans' ((kp_set _ _ _ _).trans (kp_set _ _ _ _)) (fun k hk h => by have h' : k = w.heap.size := h; omega)⟩
            · go_wp2_with fail
              go_roundg (gk - 1)
              case rel => exact ⟨k + 1, g.up x a, by omega, by go_num, ⟨_, hid3.out⟩, by show rinnerM all = _; rw [hstep.out]; rfl⟩
              case measure => omega
      · obtain rfl : k = all.length := by omega
        have hres2 : Hid (rinnerM all = some a) := by
          show rinnerM all = _
          rw [heq.out, List.drop_length]
          rfl
        obtain ⟨q, hidq⟩ := hid.out
        obtain ⟨A2, c2, u2, v2, ⟨hr0, hr1, hrf0, hrf1⟩, ⟨ho0, ho1, hof0, hof1⟩, hrd⟩ := hidq.open_
        have hlo5 := hidq.2.2.2
        have hidq' := Lib.hid hidq
        have hrd' := Lib.hid hrd
        clear hidq hrd
        go_wp2_with fail
        refine bodyPost_ret (v := .tuple #[.agg #[.string a.proto, .slice A2 a.schemes.length c2], .bool true]) (by simp [results, Tryz.results12, go_sem, hr0, hr1]) rfl ?_
        rw [hres2.out]
        have hks : Kp (· = w.heap.size) wr ((wr.setCell ⟨w.heap.size, 0, none⟩ (.string a.proto)).setCell ⟨w.heap.size, 1, none⟩ (.slice A2 a.schemes.length c2)) := (kp_set _ _ _ _).trans (kp_set _ _ _ _)
        exact ⟨_, rfl, (hrd'.out.kp hks (fun k _ h e => h.2 e)).mono (fun k _ h => h.1), hidq'.out.2.2.1.trans' hks (fun k hk h => by have h' : k = w.heap.size := h; omega)⟩
  · rw [decide_eq_false hnd, Bool.not_false]
    have hres : Hid (rinnerM all = none) := by
      show rinnerM all = _
      unfold rinnerM rgetM
      rw [if_neg hnd]
    obtain ⟨⟨t, u, v, h1⟩, ⟨t2, v2, h2, h3⟩, h4, h5⟩ := hid1.out
    obtain ⟨A2, c2, rfl, _, _, _⟩ := h3
    obtain ⟨hc0, hc1, hf0, hf1⟩ := two_cells h1
    obtain ⟨hd0, hd1, hg0, hg1⟩ := two_cells h2
    have hl1 := lt_of_block h1
    have h4' := Lib.hid h4
    clear h1 h2 h4
    go_wp2_with fail
    refine bodyPost_ret (v := .tuple #[.agg #[.string in0.proto, .slice A2 in0.schemes.length c2], .bool false]) (by simp [results, Tryz.results12, go_sem, hc0, hc1]) rfl ?_
    rw [hres.out]
    exact ⟨⟨_, _, _, _, rfl⟩, h4'.out.trans' ((kp_set _ _ _ _).trans (kp_set _ _ _ _)) (fun k hk h => by have h' : k = w.heap.size := h; omega)⟩
end Go.Proofs.YtiaheamhmhnodaaGreatDoor
