/- What is at a pointer to a Choice; the functions of its table that write. -/
import Derived.Test.YtiaheamhmhnodaaTab
namespace Go.Proofs.Ytiaheamhmhnodaa
open Go.RowKit M

structure Ch where
  version : Int
  hasShare : Bool
  sgroup : Int
  key : List UInt8
  group : Int
  cookie : List UInt8
  selected : Int

def Ch.ok (c : Ch) : Prop := (c.version ≤ 9223372036854775807 ∧ c.sgroup ≤ 9223372036854775807 ∧ c.group ≤ 9223372036854775807 ∧ c.selected ≤ 9223372036854775807) ∧ c.key.length ≤ 1000000 ∧ c.cookie.length ≤ 1000000

/-- at block p lies the Choice c; its bytes lie in blocks of N -/
def ChAt (N : Nat → Prop) (w : World) (p : Nat) (c : Ch) : Prop :=
  ¬ N p ∧ ∃ t vk vc, w.heap[p]? = some (.cells #[.int .i64 c.version, .bool c.hasShare, .int .i64 c.sgroup, vk, .int .i64 c.group, vc, .int .i64 c.selected] t (0, 0)) ∧ Bs N w vk c.key ∧ Bs N w vc c.cookie
theorem ChAt.kp {N H : Nat → Prop} {w w' : World} {p : Nat} {c : Ch} (h : ChAt N w p c) (hk : Kp H w w') (hp : ¬ H p) (hN : ∀ k, k < w.heap.size → N k → ¬ H k) : ChAt N w' p c := by
  obtain ⟨hn, t, vk, vc, hb, h1, h2⟩ := h
  exact ⟨hn, t, vk, vc, hk.blk hp hb, h1.kp hk hN, h2.kp hk hN⟩

/-- what the table's functions find -/
def ChO (B p cb : Nat) (c : Ch) (w : World) : Prop := ChAt (fun k => k < B ∧ k ≠ p) w p c ∧ w.cell? ⟨cb, 0, none⟩ = some (.func (.func 36) #[] #[])
theorem ChO.firm {B p cb : Nat} (c : Ch) (hp : p < B) (hc : cb < B) : Firm B (ChO B p cb c) := fun w w' h hk =>
  ⟨h.1.kp hk (fun h => by have h' : B ≤ p := h; omega) (fun k _ h h' => by have h'' : B ≤ k := h'; have := h.1; omega), hk.cell (fun h => by have h' : B ≤ cb := h; omega) h.2⟩

section
variable {N : Nat → Prop} {w : World} {p : Nat} {c : Ch}
set_option maxHeartbeats 400000
theorem ch1_there (h : ChAt N w p c) : Calls Try.prog 25 #[.pointer (some ⟨p, 0, none⟩)] w fun e w' => e = .returned (.bool (c.version != 0)) ∧ Kp nobody w w' := by
  obtain ⟨hn, t, vk, vc, hb, h1, h2⟩ := h
  have h0 := cells_at hb 0 rfl
  clear hb h1 h2
  go_enter Try.func25, Try.ntmps25
  go_wp2
  go_ret
  exact ⟨rfl, Kp.refl _ _⟩
theorem ch4_there (h : ChAt N w p c) : Calls Try.prog 30 #[.pointer (some ⟨p, 0, none⟩)] w fun e w' => e = .returned (.bool c.hasShare) ∧ Kp nobody w w' := by
  obtain ⟨hn, t, vk, vc, hb, h1, h2⟩ := h
  have h0 := cells_at hb 1 rfl
  clear hb h1 h2
  go_enter Try.func30, Try.ntmps30
  go_wp2
  go_ret
  exact ⟨rfl, Kp.refl _ _⟩
theorem ch10_there (h : ChAt N w p c) : Calls Try.prog 37 #[.pointer (some ⟨p, 0, none⟩)] w fun e w' => e = .returned (.bool (c.selected != -1)) ∧ Kp nobody w w' := by
  obtain ⟨hn, t, vk, vc, hb, h1, h2⟩ := h
  have h0 := cells_at hb 6 rfl
  clear hb h1 h2
  go_enter Try.func37, Try.ntmps37
  go_wp2
  go_ret
  exact ⟨rfl, Kp.refl _ _⟩
theorem ch11_there (w : World) (p : Nat) : Calls Try.prog 40 #[.pointer (some ⟨p, 0, none⟩)] w fun e w' => e = .returned (.bool true) ∧ Kp nobody w w' := by
  go_enter Try.func40, Try.ntmps40
  go_wp2
  go_ret
  exact ⟨rfl, Kp.refl _ _⟩
end


set_option maxHeartbeats 400000 in
theorem ch3_write {N C : Nat → Prop} {w : World} {p x : Nat} {c : Ch} (h : ChAt N w p c) (hw : Wr C w x [] false) (hc : c.ok) :
    Calls Try.prog 28 #[.pointer (some ⟨x, 0, none⟩), .pointer (some ⟨p, 0, none⟩)] w (WrPost C x [] false w (wnum c.version 2)) := by
  obtain ⟨hn, t, vk, vc, hb, h1, h2⟩ := h
  have h0 := cells_at hb 0 rfl
  have hc' := Lib.hid hc.1
  clear hb h1 h2 hc
  go_enter Try.func28, Try.ntmps28
  go_wp2_with fail
  refine (wnum_any _ x [] false c.version 2 hw (by decide) (by decide) (by have := hc'.out; omega) (by decide)).mono ?_
  rintro e w2 h2
  simp only [Int.reduceToNat] at h2
  have h2' := Lib.hid h2
  cases hm : wnum c.version 2 with
  | none =>
    rw [hm] at h2
    obtain ⟨rfl, _⟩ := h2
    exact ⟨rfl, hm ▸ h2'.out⟩
  | some y =>
    rw [hm] at h2
    obtain ⟨rfl, _⟩ := h2
    have hm' := Lib.hid hm
    clear hm
    go_wp2_with fail
    go_end0
    exact hm'.out ▸ h2'.out

set_option maxHeartbeats 400000 in
theorem ch10_write {N C : Nat → Prop} {w : World} {p x : Nat} {c : Ch} (h : ChAt N w p c) (hw : Wr C w x [] false) (hc : c.ok) :
    Calls Try.prog 39 #[.pointer (some ⟨x, 0, none⟩), .pointer (some ⟨p, 0, none⟩)] w (WrPost C x [] false w (wnum c.selected 2)) := by
  obtain ⟨hn, t, vk, vc, hb, h1, h2⟩ := h
  have h0 := cells_at hb 6 rfl
  have hc' := Lib.hid hc.1
  clear hb h1 h2 hc
  go_enter Try.func39, Try.ntmps39
  go_wp2_with fail
  refine (wnum_any _ x [] false c.selected 2 hw (by decide) (by decide) (by have := hc'.out; omega) (by decide)).mono ?_
  rintro e w2 h2
  simp only [Int.reduceToNat] at h2
  have h2' := Lib.hid h2
  cases hm : wnum c.selected 2 with
  | none =>
    rw [hm] at h2
    obtain ⟨rfl, _⟩ := h2
    exact ⟨rfl, hm ▸ h2'.out⟩
  | some y =>
    rw [hm] at h2
    obtain ⟨rfl, _⟩ := h2
    have hm' := Lib.hid hm
    clear hm
    go_wp2_with fail
    go_end0
    exact hm'.out ▸ h2'.out

set_option maxHeartbeats 400000 in
theorem ch13_write {N C : Nat → Prop} {w : World} {p x : Nat} {c : Ch} (h : ChAt N w p c) (hw : Wr C w x [] false) (hc : c.ok) :
    Calls Try.prog 43 #[.pointer (some ⟨x, 0, none⟩), .pointer (some ⟨p, 0, none⟩)] w (WrPost C x [] false w (wnum c.group 2)) := by
  obtain ⟨hn, t, vk, vc, hb, h1, h2⟩ := h
  have h0 := cells_at hb 4 rfl
  have hc' := Lib.hid hc.1
  clear hb h1 h2 hc
  go_enter Try.func43, Try.ntmps43
  go_wp2_with fail
  refine (wnum_any _ x [] false c.group 2 hw (by decide) (by decide) (by have := hc'.out; omega) (by decide)).mono ?_
  rintro e w2 h2
  simp only [Int.reduceToNat] at h2
  have h2' := Lib.hid h2
  cases hm : wnum c.group 2 with
  | none =>
    rw [hm] at h2
    obtain ⟨rfl, _⟩ := h2
    exact ⟨rfl, hm ▸ h2'.out⟩
  | some y =>
    rw [hm] at h2
    obtain ⟨rfl, _⟩ := h2
    have hm' := Lib.hid hm
    clear hm
    go_wp2_with fail
    go_end0
    exact hm'.out ▸ h2'.out

set_option maxHeartbeats 400000 in
theorem ch6_write {N C : Nat → Prop} {w : World} {p x : Nat} {c : Ch} (h : ChAt N w p c) (hw : Wr C w x [] false) (hc : c.ok) (hNC : ∀ k, k < w.heap.size → N k → ¬ C k) :
    Calls Try.prog 33 #[.pointer (some ⟨x, 0, none⟩), .pointer (some ⟨p, 0, none⟩)] w (WrPost C x [] false w (wshare c.sgroup c.key)) := by
  obtain ⟨hn, t, vk, vc, hb, h1, h2⟩ := h
  have ha := cells_at hb 2 rfl
  have hb' := cells_at hb 3 rfl
  have h1' := Lib.hid h1
  obtain ⟨Ak, ck, rfl, _, _, _⟩ := h1
  have hc' := Lib.hid hc
  clear hb h2 hc
  go_enter Try.func33, Try.ntmps33
  go_wp2_with fail
  refine (wshare_any _ x [] c.key false _ c.sgroup hw h1'.out hNC (by have := hc'.out.1; omega) (by decide) hc'.out.2.1).mono ?_
  rintro e w2 h2
  have h2' := Lib.hid h2
  cases hm : wshare c.sgroup c.key with
  | none =>
    rw [hm] at h2
    obtain ⟨rfl, _⟩ := h2
    exact ⟨rfl, hm ▸ h2'.out⟩
  | some y =>
    rw [hm] at h2
    obtain ⟨rfl, _⟩ := h2
    have hm' := Lib.hid hm
    clear hm
    go_wp2_with fail
    go_end0
    exact hm'.out ▸ h2'.out

theorem ch7_any (w : World) (p : Nat) : Calls Try.prog 36 #[.pointer (some ⟨p, 0, none⟩)] w fun e w' => e = .returned (.pointer (some ⟨p, 5, none⟩)) ∧ w = w' := by
  go_enter Try.func36, Try.ntmps36
  go_wp2
  go_ret
  exact ⟨rfl, rfl⟩
theorem ch7_en : Enters 36 := enters_of Try.func36 (by kernel_rfl) (by kernel_rfl)

set_option maxHeartbeats 400000 in
theorem ck1_there {B p cb : Nat} {c : Ch} {w : World} (h : ChO B p cb c w) : Calls Try.prog 68 #[.pointer (some ⟨p, 0, none⟩), .pointer (some ⟨cb, 0, none⟩)] w fun e w' => e = .returned (.bool (decide (0 < c.cookie.length))) ∧ Kp nobody w w' := by
  obtain ⟨⟨hn, t, vk, vc, hb, h1, h2⟩, hcb⟩ := h
  have h0 := cells_at hb 5 rfl
  obtain ⟨Ac, cc, rfl, _, _, _⟩ := h2
  have hen : ∀ (args : Array Value) (w : World), (callFunc 36 args).run Try.prog w = .ok (.enter 36 args) w := ch7_en
  clear hb h1
  go_enter Try.func68, Try.ntmps68
  go_wp2_with fail
  refine (ch7_any _ _).mono ?_
  rintro e w2 ⟨rfl, rfl⟩
  go_wp2_with fail
  go_ret
  exact ⟨by simp, Kp.refl _ _⟩

set_option maxHeartbeats 400000 in
theorem ck3_write {C : Nat → Prop} {B p cb x : Nat} {c : Ch} {w : World} (h : ChO B p cb c w) (hw : Wr C w x [] false) (hc : c.ok) :
    Calls Try.prog 70 #[.pointer (some ⟨x, 0, none⟩), .pointer (some ⟨p, 0, none⟩), .pointer (some ⟨cb, 0, none⟩)] w (WrPost C x [] false w (wvec 2 c.cookie 1 65535)) := by
  obtain ⟨⟨hn, t, vk, vc, hb, h1, h2⟩, hcb⟩ := h
  have h0 := cells_at hb 5 rfl
  have h2' := Lib.hid h2
  have hc' := Lib.hid hc
  obtain ⟨Ac, cc, rfl, _, _, _⟩ := h2
  have hen : ∀ (args : Array Value) (w : World), (callFunc 36 args).run Try.prog w = .ok (.enter 36 args) w := ch7_en
  clear hb h1 hc
  go_enter Try.func70, Try.ntmps70
  go_wp2_with fail
  refine (ch7_any _ _).mono ?_
  rintro e w2 ⟨rfl, rfl⟩
  go_wp2_with fail
  refine (wvec_any _ x [] c.cookie false _ 2 1 65535 hw h2'.out (by decide) (by decide) (by decide) (by decide) (by have := hc'.out.2.2; simp; omega)).mono ?_
  rintro e w2 h2
  simp only [Int.reduceToNat] at h2
  have h3' := Lib.hid h2
  cases hm : wvec 2 c.cookie 1 65535 with
  | none =>
    rw [hm] at h2
    obtain ⟨rfl, _⟩ := h2
    exact ⟨rfl, hm ▸ h3'.out⟩
  | some y =>
    rw [hm] at h2
    obtain ⟨rfl, _⟩ := h2
    have hm' := Lib.hid hm
    clear hm
    go_wp2_with fail
    go_end0
    exact hm'.out ▸ h3'.out
end Go.Proofs.Ytiaheamhmhnodaa
