/- The host of an Offer: isHost; the field's functions. -/
import Derived.Test.YtiaheamhmhnodaaGreatDoorOf
import Derived.Test.YtiaheamhmhnodaaGreatDoorWp
namespace Go.Proofs.YtiaheamhmhnodaaGreatDoor
open Go.RowKit M

def hostBad (c : UInt8) : Bool := decide ((c.toNat : Int) < 33) || decide (126 < (c.toNat : Int))
theorem ih1_any (w : World) (c : UInt8) : Calls Tryz.prog 151 #[.int .u8 (c.toNat : Int)] w fun e w' => e = .returned (.bool (hostBad c)) ∧ w' = w := by
  unfold hostBad
  have hc := c.toNat_lt
  generalize c.toNat = n at hc
  by_cases h1 : (n : Int) < 33
  · go_enter Tryz.func151, Tryz.ntmps151
    go_wp2
    go_ret
    exact ⟨by simp [h1], rfl⟩
  · by_cases h2 : (126 : Int) < n
    · go_enter Tryz.func151, Tryz.ntmps151
      go_wp2
      go_ret
      exact ⟨by simp, rfl⟩
    · go_enter Tryz.func151, Tryz.ntmps151
      go_wp2
      go_ret
      exact ⟨by simp; omega, rfl⟩
theorem ih1_en : Enters 151 := enters_of Tryz.func151 (by kernel_rfl) (by kernel_rfl)

set_option maxRecDepth 10000 in
set_option maxHeartbeats 800000 in
theorem hindex_any {N : Nat → Prop} (w : World) (l : List UInt8) (v : Value) (hv : Bs N w v l) (hl : l.length ≤ 140737488355328) :
    Calls Tryz.prog 152 #[v, .func (.func 151) #[] #[]] w
      fun e w' => e = .returned (ixV (l.findIdx? hostBad)) ∧ w' = w := by
  have hen : ∀ (args : Array Value) (w : World), (callFunc 151 args).run Tryz.prog w = .ok (.enter 151 args) w := ih1_en
  obtain ⟨A, c, rfl, hlc, hA, har⟩ := hv
  have har' := Lib.hid har
  clear har hA
  go_enter Tryz.func152, Tryz.ntmps152
  go_wp2_with fail
  go_loop [8] (fun i => ∃ (k : Nat), k ≤ l.length ∧ i = .int .i64 (k : Int) ∧ Hid (l.findIdx? hostBad = ((l.drop k).findIdx? hostBad).map (· + k))) (fun i => l.length - (intOf i).toNat)
  case atStart => exact ⟨0, Nat.zero_le _, rfl, by show l.findIdx? _ = Option.map _ (l.findIdx? _); cases l.findIdx? hostBad <;> rfl⟩
  case round =>
    obtain ⟨k, hkl, rfl, heq⟩ := hrel
    by_cases hlt : k < l.length
    · obtain ⟨ad, rfl, hcell, hx⟩ := u8_cell har'.out hlt
      have hdrop : Hid (l.drop k = l[k] :: l.drop (k + 1)) := List.drop_eq_getElem_cons hlt
      generalize l[k] = y at hcell hx hdrop
      go_wp2_with fail
      refine (ih1_any _ _).mono ?_
      rintro e w ⟨rfl, rfl⟩
      cases hfb : hostBad y with
      | true =>
        have hfb' := Lib.hid hfb
        clear hfb
        go_wp2_with fail
        go_ret
        refine ⟨?_, rfl⟩
        rw [heq.out, hdrop.out, List.findIdx?_cons, if_pos hfb'.out]
        simp [ixV]
      | false =>
        have hfb' := Lib.hid hfb
        clear hfb
        go_wp2_with fail
        go_round
        case rel =>
          refine ⟨k + 1, by omega, by go_num, ?_⟩
          show l.findIdx? _ = _
          rw [heq.out, hdrop.out, List.findIdx?_cons, if_neg (by rw [hfb'.out]; decide)]
          cases (l.drop (k + 1)).findIdx? hostBad with
          | none => rfl
          | some j => simp only [Option.map_some]; congr 1; omega
        case measure => simp [intOf]; omega
    · obtain rfl : k = l.length := by omega
      go_wp2_with fail
      go_ret
      refine ⟨?_, rfl⟩
      rw [heq.out, List.drop_length]
      rfl

def goodHost (l : List UInt8) : Bool := (l.findIdx? hostBad).isNone
set_option maxHeartbeats 400000 in
theorem isHost_any {N : Nat → Prop} (w : World) (l : List UInt8) (v : Value) (hv : Bs N w v l) (hl : l.length ≤ 140737488355328) :
    Calls Tryz.prog 147 #[v] w fun e w' => e = .returned (.bool (goodHost l)) ∧ w' = w := by
  have hv' := Lib.hid hv
  obtain ⟨A, c, rfl, _, _, _⟩ := hv
  unfold goodHost
  obtain ⟨fo, hfo⟩ : ∃ fo, l.findIdx? hostBad = fo := ⟨_, rfl⟩
  rw [hfo]
  have hfo' := Lib.hid hfo
  clear hfo
  have hcf : Calls Tryz.prog 150 #[.slice A l.length c, .func (.func 151) #[] #[]] w fun e w' => e = .returned (.bool fo.isSome) ∧ w' = w := by
    go_enter Tryz.func150, Tryz.ntmps150
    go_wp2_with fail
    refine (hindex_any _ l _ hv'.out hl).mono ?_
    rintro e w ⟨rfl, rfl⟩
    rw [hfo'.out]
    cases fo with
    | none =>
      simp only [ixV]
      go_wp2_with fail
      go_ret
      exact ⟨rfl, rfl⟩
    | some j =>
      simp only [ixV]
      go_wp2_with fail
      go_ret
      exact ⟨by simp, rfl⟩
  have hcf' := Lib.hid hcf
  clear hcf
  go_enter Tryz.func147, Tryz.ntmps147
  go_wp2_with fail
  refine hcf'.out.mono ?_
  rintro e w ⟨rfl, rfl⟩
  go_wp2_with fail
  go_ret
  exact ⟨by cases fo <;> rfl, rfl⟩

/-- what a closure that writes finds of an Offer: at p; the pointer to it in a captured variable -/
def OD (B p cb : Nat) (o : Of) (w : World) : Prop := OfAt (fun k => k < B ∧ k ≠ p) w p o ∧ w.cell? ⟨cb, 0, none⟩ = some (.pointer (some ⟨p, 0, none⟩))
theorem OD.firm {B p cb : Nat} (o : Of) (hp : p < B) (hc : cb < B) : Firm B (OD B p cb o) := fun w w' h hk =>
  ⟨h.1.kp hk (fun h => by have h' : B ≤ p := h; omega) (fun k _ h h' => by have h'' : B ≤ k := h'; have := h.1; omega), hk.cell (fun h => by have h' : B ≤ cb := h; omega) h.2⟩

def whost1 (h : ByteArray) : WM := wseq (some ([0], false)) (wvec 2 (byt h) 1 255)
def whost (h : ByteArray) : WM := if goodHost (byt h) = true then wout 2 (whost1 h) else none
theorem whost1_len (h : ByteArray) : wlen (whost1 h) ≤ 258 := by
  unfold whost1
  cases hm : wvec 2 (byt h) 1 255 with
  | none => simp [wseq, wlen]
  | some y =>
    have := wvec_len 2 _ 1 255 y.1 y.2 hm
    simp [wseq, wlen]; omega

section
variable {N C : Nat → Prop} {w : World} {p x : Nat} {o : Of}
set_option maxHeartbeats 400000 in
theorem oh1_there (h : OfAt N w p o) : Calls Tryz.prog 145 #[.pointer (some ⟨p, 0, none⟩)] w fun e w' => e = .returned (.bool (!o.host.toList.isEmpty)) ∧ Kp nobody w w' := by
  obtain ⟨v, h0, rfl⟩ := h.cell 0 (by decide)
  clear h
  go_enter Tryz.func145, Tryz.ntmps145
  go_wp2
  go_ret
  exact ⟨rfl, Kp.refl _ _⟩

set_option maxRecDepth 10000 in
set_option maxHeartbeats 800000 in
theorem oh31_ok {B cb : Nat} (hcb : cb < B) (hp : p < B) (hho : o.host.size ≤ 1000000) : WriteOk B (OD B p cb o) 149 #[.pointer (some ⟨cb, 0, none⟩)] (whost1 o.host) := by
  intro C x w hw hC hD
  have hD' := Lib.hid hD
  have hcv := cv_bytes
  have hw' := Lib.hid hw
  have hwb := Lib.hid hw.2.choose_spec.choose_spec.2.2
  have hC' := Lib.hid hC
  clear hD hw hC
  have hka : Kp nobody w (w.alloc (.cells #[.int .u8 0] 5)) := (Kp.refl _ _).alloc _
  have hka' := Lib.hid hka
  clear hka
  simp only [List.append_toArray, List.cons_append, List.nil_append]
  go_enter Tryz.func149, Tryz.ntmps149
  go_wp2_with fail
  refine (raw_any _ x [] [0] false _ (wr_kp (H := nobody) hw'.out hka'.out (fun _ _ h => h)) (one_byte w 5 0 0 rfl) (by decide)).mono ?_
  rintro e w1 ⟨rfl, ⟨C1, hw1, hn1⟩, hk1⟩
  have hD1 := OD.firm o hp hcb _ _ (OD.firm o hp hcb _ _ hD'.out (hka'.out.mono (fun _ _ h => h.elim))) (hk1.mono (fun k _ h => hC'.out k h))
  have hcb1 := hD1.2
  obtain ⟨v, h0, rfl⟩ := hD1.1.cell 0 (by decide)
  have hk1' := Lib.hid hk1
  have hw1' := Lib.hid hw1
  have hn1' := Lib.hid hn1
  clear hk1 hw1 hn1 hD1
  go_wp2_with fail
  have hkc := Lib.hid (kp_bytesWorld w1 5 o.host)
  refine (wvec_any _ x ([] ++ [0]) (byt o.host) false _ 2 1 255 (wr_kp hw1'.out hkc.out (fun _ _ h => h)) (bs_bytesWorld w1 5 o.host) (by decide) (by decide) (by decide) (by decide) (by rw [byt_length]; simp; omega)).mono ?_
  rintro e w2 h2
  simp only [Int.reduceToNat] at h2
  have h3 := Lib.hid (h2.from_ hkc.out)
  have hseq : WrPost C x [] false w (whost1 o.host) e w2 := by
    have hnw : Nw w C C1 := fun k hk => (hn1'.out k hk).imp id (fun h => Nat.le_trans hka'.out.size h)
    exact h3.out.seq (t1 := [0]) (l1 := false) hnw ((hka'.out.mono (fun _ _ h => h.elim)).trans hk1'.out)
  have hseq' := Lib.hid hseq
  clear hseq h3
  cases hm : wvec 2 (byt o.host) 1 255 with
  | none =>
    rw [hm] at h2
    obtain ⟨rfl, _⟩ := h2
    exact ⟨rfl, hseq'.out⟩
  | some y =>
    rw [hm] at h2
    obtain ⟨rfl, _⟩ := h2
    clear hm
    go_wp2_with fail
    go_end0
    exact hseq'.out
theorem oh31_en : Enters 149 := enters_of Tryz.func149 (by kernel_rfl) (by kernel_rfl)

set_option maxRecDepth 10000 in
set_option maxHeartbeats 800000 in
theorem oh3_write {B : Nat} (h : OfAt (fun k => k < B ∧ k ≠ p) w p o) (hw : Wr C w x [] false) (hpB : p < B) (hBw : B ≤ w.heap.size) (ho : o.ok) :
    Calls Tryz.prog 148 #[.pointer (some ⟨x, 0, none⟩), .pointer (some ⟨p, 0, none⟩)] w (WrPost C x [] false w (whost o.host)) := by
  have hmf := hmf_
  have hcv := cv_bytes
  obtain ⟨v, h0, rfl⟩ := h.cell 0 (by decide)
  have h' := Lib.hid h
  have hho := ho.host
  have hpl : p < w.heap.size := by omega
  clear h ho
  have hka : Kp nobody w (w.alloc (.cells #[.pointer (some ⟨p, 0, none⟩)] 60)) := (Kp.refl _ _).alloc _
  have hkc := hka.trans (kp_bytesWorld (w.alloc (.cells #[.pointer (some ⟨p, 0, none⟩)] 60)) 5 o.host)
  have hbs := Lib.hid (bs_bytesWorld (w.alloc (.cells #[.pointer (some ⟨p, 0, none⟩)] 60)) 5 o.host)
  have hcbc : Hid ((Lib.bytesWorld (w.alloc (.cells #[.pointer (some ⟨p, 0, none⟩)] 60)) 5 o.host).cell? ⟨w.heap.size, 0, none⟩ = some (.pointer (some ⟨p, 0, none⟩))) := by
    refine (kp_bytesWorld (w.alloc (.cells #[.pointer (some ⟨p, 0, none⟩)] 60)) 5 o.host).cell (a := ⟨w.heap.size, 0, none⟩) id ?_
    rw [World.cell?_alloc_at _ _ _ _ rfl]; rfl
  have hkc' := Lib.hid hkc
  clear hka hkc
  go_enter Tryz.func148, Tryz.ntmps148
  go_wp2_with fail
  have hbs2 := hbs.out
  rw [show (w.alloc (.cells #[.pointer (some ⟨p, 0, none⟩)] 60)).heap.size = w.heap.size + 1 from by simp] at hbs2
  refine (isHost_any _ (byt o.host) _ hbs2 (by rw [byt_length]; omega)).mono ?_
  clear hbs2
  rintro e wz ⟨rfl, hwz⟩
  rw [← hwz] at hkc' hcbc
  clear hwz
  have hszz := hkc'.out.size
  by_cases hg : goodHost (byt o.host) = true
  · have hm : Hid (whost o.host = wout 2 (whost1 o.host)) := if_pos hg
    rw [hg]
    clear hg
    go_wp2_with fail
    refine (must_ok _ (by first | rfl | (simp; done) | (simp; omega))).mono ?_
    rintro e wz ⟨rfl, rfl⟩
    go_wp2_with fail
    have hl0 := whost1_len o.host
    have hcbl := World.block_lt_of_cell? _ _ hcbc.out
    replace hcbl : w.heap.size < wz.heap.size := hcbl
    refine (out_any (B := wz.heap.size) (D := OD wz.heap.size p w.heap.size o) wz x [] false 2 _ _ (whost1 o.host) (wr_kp hw hkc'.out (fun _ _ h => h)) (by decide) (by decide) oh31_en (oh31_ok (by omega) (by omega) hho) ⟨?_, hcbc.out⟩ (OD.firm o (by omega) (by omega)) (Nat.le_refl _) (by simp; omega)).mono ?_
    · obtain ⟨hn, vs, t, hb, hs, hr⟩ := h'.out.kp hkc'.out (fun h => h) (fun _ _ _ h => h)
      exact ⟨fun h => h.2 rfl, vs, t, hb, hs, fun i v hv => (hr i v hv).mono (fun k _ hh => ⟨by have := hh.1; omega, hh.2⟩)⟩
    · rintro e w2 h2
      simp only [Int.reduceToNat] at h2
      have h3 := Lib.hid (h2.from_ hkc'.out)
      cases hmm : wout 2 (whost1 o.host) with
      | none =>
        rw [hmm] at h2
        obtain ⟨rfl, _⟩ := h2
        exact ⟨rfl, by rw [hm.out]; exact h3.out⟩
      | some y =>
        rw [hmm] at h2
        obtain ⟨rfl, _⟩ := h2
        clear hmm
        go_wp2_with fail
        go_end0
        rw [hm.out]; exact h3.out
  · have hm : Hid (whost o.host = none) := if_neg hg
    have hg' : goodHost (byt o.host) = false := by simpa using hg
    rw [hg']
    clear hg hg'
    go_wp2_with fail
    refine (must_bad _ (by first | rfl | (simp; done) | (simp; omega))).mono ?_
    rintro e wz ⟨rfl, rfl⟩
    exact ⟨rfl, by rw [hm.out]; exact ⟨rfl, hkc'.out.mono (fun _ _ h => h.elim)⟩⟩
end
end Go.Proofs.YtiaheamhmhnodaaGreatDoor

/- The host of an Offer, read. -/
namespace Go.Proofs.YtiaheamhmhnodaaGreatDoor
open Go.RowKit M

def rdHost (o : Of) : RM Of := fun s => match M.vec 2 0 65535 s with
  | none => none
  | some (t, r) => match M.num 1 t with
    | none => none
    | some (n, t1) => if n = 0 then (match M.vec 2 1 255 t1 with
      | none => none
      | some (h, t2) => if goodHost h = true ∧ t2 = [] then some ({ o with host := ⟨h.toArray⟩ }, r) else none) else none

section
variable {N C : Nat → Prop} {w : World} {p x : Nat} {o : Of}
set_option maxRecDepth 10000 in
set_option maxHeartbeats 1600000 in
theorem oh2_read {s : List UInt8} (hrd : Rd N w x s) (hs : s.length ≤ 140737488355328) (hst : (OfS p).st C o w) (hx : ¬ C x) (hNC : ∀ k, N k → ¬ C k) (hNb : ∀ k, N k → k < w.heap.size) :
    Calls Tryz.prog 146 #[.pointer (some ⟨x, 0, none⟩), .pointer (some ⟨p, 0, none⟩)] w (StepPost (OfS p) N C x w (rdHost o s)) := by
  have hst' := Lib.hid hst
  have hCp := Lib.hid (OfS.cp hst)
  have hxl := rd_lt hrd
  clear hst
  go_enter Tryz.func146, Tryz.ntmps146
  go_wp2_with fail
  refine (vec_any _ x s 2 0 65535 hrd hs (by decide) (by decide) (by decide) (by decide)).mono ?_
  rintro e w1 h1
  simp only [Int.reduceToNat] at h1
  cases hm : M.vec 2 0 65535 s with
  | none =>
    rw [hm] at h1
    obtain ⟨rfl, hk⟩ := h1
    exact ⟨rfl, by rw [show rdHost o s = none from by unfold rdHost; rw [hm]]; exact ostep_no hst'.out hx hk⟩
  | some y =>
    obtain ⟨t, r⟩ := y
    rw [hm] at h1
    obtain ⟨v, rfl, hv, hrd1, hk⟩ := h1
    have hm' := Lib.hid hm
    have htl := M.vec_le hm
    have hv' := Lib.hid hv
    have hsz1 := hk.size
    obtain ⟨Av, cv, rfl, hlv, hAv, harv⟩ := hv
    have hka : Kp nobody w1 (w1.alloc (.cells #[.slice Av t.length cv] 117)) := (Kp.refl _ _).alloc _
    have hrdy : Hid (Rd (fun k => k ≠ w1.heap.size) (w1.alloc (.cells #[.slice Av t.length cv] 117)) w1.heap.size t) :=
      ⟨fun h => h rfl, _, Av, cv, heap_alloc_new _ _, hlv, hAv, (harv.mono (N' := fun k => k ≠ w1.heap.size) (fun k hk _ => by omega)).kp hka (fun _ _ _ h => h)⟩
    have hrd1' := Lib.hid hrd1
    have hk' := Lib.hid hk
    have hka' := Lib.hid hka
    have hstep : ∀ (w2 : World), Kp (· = w1.heap.size) (w1.alloc (.cells #[.slice Av t.length cv] 117)) w2 → Kp (· = x) w w2 := fun _ h => (hk'.out.trans (hka'.out.mono (fun _ _ h => h.elim))).trans' h (fun k hk e => by have e' : k = w1.heap.size := e; omega)
    have hstep' := Lib.hid hstep
    clear hm hrd1 hk hka hlv hAv harv hstep
    go_wp2_with fail
    refine (num_any' _ w1.heap.size t 1 hrdy.out (by decide) (by omega) (by decide)).mono ?_
    rintro e w2 h2
    simp only [Int.reduceToNat] at h2
    cases hn : M.num 1 t with
    | none =>
      rw [hn] at h2
      obtain ⟨rfl, hk2⟩ := h2
      exact ⟨rfl, by rw [show rdHost o s = none from by unfold rdHost; rw [hm'.out]; simp only [hn]]; exact ostep_no hst'.out hx (hstep'.out _ hk2)⟩
    | some y =>
      obtain ⟨n, t1⟩ := y
      rw [hn] at h2
      obtain ⟨v2, rfl, rfl, hrd2, hk2⟩ := h2
      have ht1 := num_len hn
      have hn' := Lib.hid hn
      have hrd2' := Lib.hid hrd2
      have hk2' := Lib.hid hk2
      clear hn hrd2 hk2
      go_wp2_with fail
      by_cases hn0 : n = 0
      · subst hn0
        refine (must_ok _ (by first | rfl | (simp; done) | (simp; omega))).mono ?_
        rintro e w2 ⟨rfl, rfl⟩
        go_wp2_with fail
        refine (vec_any _ w1.heap.size t1 2 1 255 hrd2'.out (by omega) (by decide) (by decide) (by decide) (by decide)).mono ?_
        rintro e w3 h3
        simp only [Int.reduceToNat] at h3
        cases hm3 : M.vec 2 1 255 t1 with
        | none =>
          rw [hm3] at h3
          obtain ⟨rfl, hk3⟩ := h3
          exact ⟨rfl, by rw [show rdHost o s = none from by unfold rdHost; rw [hm'.out]; simp only [hn'.out, hm3]; rfl]; exact ostep_no hst'.out hx (hstep'.out _ (hk2'.out.trans hk3))⟩
        | some y =>
          obtain ⟨h, t2⟩ := y
          rw [hm3] at h3
          obtain ⟨vh, rfl, hvh, hrd3, hk3⟩ := h3
          have ht2 := vec_len hm3
          have hhl := M.vec_le hm3
          have hm3' := Lib.hid hm3
          have hvh' := Lib.hid hvh
          obtain ⟨Ah, ch, rfl, _, _, harh⟩ := hvh
          have harh' := Lib.hid harh
          clear harh
          have hrd3' := Lib.hid hrd3
          have hk3' := Lib.hid (hstep'.out _ (hk2'.out.trans hk3))
          have hrx := Lib.hid (rd_kp hrd1'.out ((hka'.out.mono (fun _ _ h => h.elim)).trans (hk2'.out.trans hk3)) (fun e => by have e' : x = w1.heap.size := e; omega) (fun k hk hN e => by have e' : k = w1.heap.size := e; have := hNb k hN; omega))
          clear hm3 hrd3 hk3
          go_wp2_with fail
          refine (isHost_any _ h _ hvh'.out (by omega)).mono ?_
          rintro e w3 ⟨rfl, rfl⟩
          cases hg : goodHost h with
          | false =>
            have hg' := Lib.hid hg
            clear hg
            go_wp2_with fail
            refine (must_bad _ (by first | rfl | (simp; done) | (simp; omega))).mono ?_
            rintro e w3 ⟨rfl, rfl⟩
            exact ⟨rfl, by rw [show rdHost o s = none from by unfold rdHost; rw [hm'.out]; simp [hn'.out, hm3'.out, hg'.out]]; exact ostep_no hst'.out hx hk3'.out⟩
          | true =>
            have hg' := Lib.hid hg
            clear hg
            go_wp2_with fail
            refine (must_ok _ (by first | rfl | (simp; done) | (simp; omega))).mono ?_
            rintro e w3 ⟨rfl, rfl⟩
            go_wp2_with fail
            refine (end_any _ _ t2 hrd3'.out (by omega)).mono ?_
            rintro e w3 ⟨rfl, rfl⟩
            by_cases ht20 : t2 = []
            · rw [if_pos ht20]
              have hmm : Hid (rdHost o s = some ({ o with host := ⟨h.toArray⟩ }, r)) := by
                show _ = _
                unfold rdHost; rw [hm'.out]; simp [hn'.out, hm3'.out, hg'.out, ht20]
              clear ht20
              have hst1 := (OfS p).kp hst'.out hk3'.out (fun k h e => hx (e ▸ h))
              obtain ⟨hpl, hop⟩ := OfS.open_ hst1
              obtain ⟨⟨v0, hv0⟩, hf0⟩ := hop 0 (by decide)
              have hst1' := Lib.hid hst1
              have hcvh := run_string_of (P := Tryz.prog) w3 26 9 5 Tryz.underlying26 Tryz.underlying5 Tryz.underlying9 Ah ch h harh'.out
              clear hst1 hop
              go_wp2_with fail
              go_end0
              rw [hmm.out]
              refine ostep_done hx hNC hCp.out hk3'.out hrx.out (kp_set _ _ _ _) (OfS.set (C' := C) hst1'.out (fun _ h => h) ((OfS p).bound hst1'.out) 0 (by decide) _ (fun N j u hj hji h => ?_) ⟨rfl, rfl, rfl⟩ rfl) (fun k h => .inl h)
              rcases j with _ | _ | _ | _ | _ | _ | _ | _ | j
              all_goals first | exact h | exact absurd rfl hji | (exact absurd hj (by omega))
            · rw [if_neg ht20]
              exact ⟨rfl, by rw [show rdHost o s = none from by unfold rdHost; rw [hm'.out]; simp [hn'.out, hm3'.out, hg'.out, ht20]]; exact ostep_no hst'.out hx hk3'.out⟩
      · refine (must_bad _ (by simp; omega)).mono ?_
        rintro e w2 ⟨rfl, rfl⟩
        exact ⟨rfl, by rw [show rdHost o s = none from by unfold rdHost; rw [hm'.out]; simp [hn'.out, hn0]]; exact ostep_no hst'.out hx (hstep'.out _ hk2'.out)⟩
end
end Go.Proofs.YtiaheamhmhnodaaGreatDoor
