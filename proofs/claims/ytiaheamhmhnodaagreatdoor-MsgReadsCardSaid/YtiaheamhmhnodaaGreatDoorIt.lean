/- What is at a pointer to an Inner; the functions of its table that write. -/
import Derived.Test.YtiaheamhmhnodaaGreatDoorPut
import Derived.StillTailTactics
namespace Go.Proofs.YtiaheamhmhnodaaGreatDoor
open Go.RowKit M

structure In where
  proto : ByteArray
  schemes : List Int
def In.ok (i : In) : Prop := i.proto.size ≤ 1000000 ∧ i.schemes.length ≤ 100000 ∧ ∀ y ∈ i.schemes, y ≤ 9223372036854775807

/-- at block p lies the Inner i; its list lies in blocks of N -/
def InAt (N : Nat → Prop) (w : World) (p : Nat) (i : In) : Prop :=
  ¬ N p ∧ ∃ t vs, w.heap[p]? = some (.cells #[.string i.proto, vs] t (0, 0)) ∧ Is N w vs i.schemes
theorem InAt.kp {N H : Nat → Prop} {w w' : World} {p : Nat} {i : In} (h : InAt N w p i) (hk : Kp H w w') (hp : ¬ H p) (hN : ∀ k, k < w.heap.size → N k → ¬ H k) : InAt N w' p i := by
  obtain ⟨hn, t, vs, hb, h1⟩ := h
  exact ⟨hn, t, vs, hk.blk hp hb, h1.kp hk hN⟩

def InO (B p kb : Nat) (i : In) (w : World) : Prop := InAt (fun k => k < B ∧ k ≠ p) w p i ∧ Lf kb 2 2 32 96 w
theorem InO.firm {B p kb : Nat} (i : In) (hp : p < B) (hc : kb + 3 < B) : Firm B (InO B p kb i) := fun w w' h hk =>
  ⟨h.1.kp hk (fun h => by have h' : B ≤ p := h; omega) (fun k _ h h' => by have h'' : B ≤ k := h'; have := h.1; omega), h.2.kp hk (fun j _ h1 h => by have h' : B ≤ j := h; omega)⟩

section
variable {N : Nat → Prop} {w : World} {p : Nat} {i : In}
set_option maxHeartbeats 400000
theorem in1_there (h : InAt N w p i) : Calls Tryz.prog 92 #[.pointer (some ⟨p, 0, none⟩)] w fun e w' => e = .returned (.bool (!i.proto.toList.isEmpty)) ∧ Kp nobody w w' := by
  obtain ⟨hn, t, vs, hb, h1⟩ := h
  have h0 := cells_at hb 0 rfl
  clear hb h1
  go_enter Tryz.func92, Tryz.ntmps92
  go_wp2
  go_ret
  exact ⟨rfl, Kp.refl _ _⟩
theorem in4_any (w : World) (p : Nat) : Calls Tryz.prog 96 #[.pointer (some ⟨p, 0, none⟩)] w fun e w' => e = .returned (.pointer (some ⟨p, 1, none⟩)) ∧ w' = w := by
  go_enter Tryz.func96, Tryz.ntmps96
  go_wp2
  go_ret
  exact ⟨rfl, rfl⟩
theorem in4_en : Enters 96 := enters_of Tryz.func96 (by kernel_rfl) (by kernel_rfl)
end

set_option maxHeartbeats 400000 in
theorem in3_write {N C : Nat → Prop} {w : World} {p x : Nat} {i : In} (h : InAt N w p i) (hw : Wr C w x [] false) (hc : i.ok) :
    Calls Tryz.prog 94 #[.pointer (some ⟨x, 0, none⟩), .pointer (some ⟨p, 0, none⟩)] w (WrPost C x [] false w (wprotos [i.proto] 1)) := by
  obtain ⟨hn, t, vs, hb, h1⟩ := h
  have h0 := cells_at hb 0 rfl
  have hc' := Lib.hid hc
  clear hb h1 hc
  go_enter Tryz.func94, Tryz.ntmps94
  go_wp2_with fail
  have hka : Kp nobody w (w.alloc (.cells #[.string i.proto] 9)) := (Kp.refl _ _).alloc _
  have hss : Ss (fun k => k = w.heap.size) (w.alloc (.cells #[.string i.proto] 9)) (.slice (some ⟨w.heap.size, 0, none⟩) 1 1) [i.proto] :=
    ⟨_, 1, rfl, Nat.le_refl _, (fun h => by cases h), Kin.Arr.of_reps (by decide) (reps_scalar Value.string (fun _ => rfl) _ _ [i.proto]) (row_new w [.string i.proto] 9)⟩
  refine (wprotos_any _ x [] [i.proto] false _ 1 (wr_kp hw hka (fun _ _ h => h)) hss (by decide) (by decide) (fun q hq => by simp only [List.mem_singleton] at hq; rw [hq]; exact hc'.out.1) (by decide) (by simp)).mono ?_
  rintro e w2 h2
  simp only [Int.reduceToNat] at h2
  have h2' := Lib.hid (h2.from_ hka)
  cases hm : wprotos [i.proto] 1 with
  | none =>
    rw [hm] at h2
    obtain ⟨rfl, _⟩ := h2
    exact ⟨rfl, hm ▸ h2'.out⟩
  | some y =>
    rw [hm] at h2
    obtain ⟨rfl, _⟩ := h2
    have hm' := Lib.hid hm
    clear hm
    go_wp2_with fail
    go_end0
    exact hm'.out ▸ h2'.out

set_option maxHeartbeats 400000 in
theorem li1_there {B p kb : Nat} {i : In} {w : World} (h : InO B p kb i w) : Calls Tryz.prog 120 #[.pointer (some ⟨p, 0, none⟩), .pointer (some ⟨kb + 3, 0, none⟩)] w fun e w' => e = .returned (.bool (decide (0 < i.schemes.length))) ∧ Kp nobody w w' := by
  obtain ⟨⟨hn, t, vs, hb, h1⟩, _, _, _, hcb⟩ := h
  have h0 := cells_at hb 1 rfl
  obtain ⟨Ac, cc, rfl, _, _, _⟩ := h1
  have hen : ∀ (args : Array Value) (w : World), (callFunc 96 args).run Tryz.prog w = .ok (.enter 96 args) w := in4_en
  clear hb
  go_enter Tryz.func120, Tryz.ntmps120
  go_wp2_with fail
  refine (in4_any _ _).mono ?_
  rintro e w2 ⟨rfl, rfl⟩
  go_wp2_with fail
  go_ret
  exact ⟨by simp, Kp.refl _ _⟩

set_option maxRecDepth 10000 in
set_option maxHeartbeats 400000 in
theorem li3_write {C : Nat → Prop} {B p kb x : Nat} {i : In} {w : World} (h : InO B p kb i w) (hw : Wr C w x [] false) (hc : i.ok) :
    Calls Tryz.prog 122 #[.pointer (some ⟨x, 0, none⟩), .pointer (some ⟨p, 0, none⟩), .pointer (some ⟨kb, 0, none⟩), .pointer (some ⟨kb + 1, 0, none⟩), .pointer (some ⟨kb + 3, 0, none⟩), .pointer (some ⟨kb + 2, 0, none⟩)] w (WrPost C x [] false w (wnumbers 2 2 i.schemes 1 32)) := by
  obtain ⟨⟨hn, t, vs, hb, h1⟩, hk0, hk1, hk2, hk3⟩ := h
  have h0 := cells_at hb 1 rfl
  have h1' := Lib.hid h1
  have hc' := Lib.hid hc
  obtain ⟨Ac, cc, rfl, _, _, _⟩ := h1
  have hen : ∀ (args : Array Value) (w : World), (callFunc 96 args).run Tryz.prog w = .ok (.enter 96 args) w := in4_en
  clear hb hc
  go_enter Tryz.func122, Tryz.ntmps122
  go_wp2_with fail
  refine wp_region_still_tail 9 (by kernel_rfl) (by kernel_rfl) ?_
  simp only [List.take_succ_cons, List.take_zero, List.drop_succ_cons, List.drop_zero]
  obtain ⟨wd, hwd⟩ : ∃ wd, wd = w.drew := ⟨_, rfl⟩
  change wpStill _ _ w.drew _ _ _
  rw [← hwd]
  have hkd : Kp nobody w wd := by rw [hwd]; exact (Kp.refl _ _).drew
  have hd0 := hkd.cell (a := ⟨kb, 0, none⟩) id hk0
  have hd1 := hkd.cell (a := ⟨kb + 1, 0, none⟩) id hk1
  have hd2 := hkd.cell (a := ⟨kb + 2, 0, none⟩) id hk2
  have hd3 := hkd.cell (a := ⟨kb + 3, 0, none⟩) id hk3
  have hdp := hkd.cell (a := ⟨p, 1, none⟩) id h0
  have hwd' := Lib.hid hwd
  have hkd' := Lib.hid hkd
  clear hwd hkd hk0 hk1 hk2 hk3 h0
  repeat still_step
  still_call (in4_any _ _)
  repeat still_step
  refine wpStill_nil ?_
  go_wp2_with fail
  change Calls _ _ _ w.drew _
  rw [← hwd'.out]
  refine (wnumbers_any wd x [] i.schemes false _ 2 2 1 32 (wr_kp hw hkd'.out (fun _ _ h => h)) (h1'.out.kp hkd'.out (fun _ _ _ h => h)) (by decide) (by decide) (by decide) (by decide) (by decide) (by decide) (by decide) hc'.out.2.2 (by decide) (by have := hc'.out.2.1; omega)).mono ?_
  rintro e w2 h2
  simp only [Int.reduceToNat] at h2
  have h2' := Lib.hid (h2.from_ hkd'.out)
  cases hm : wnumbers 2 2 i.schemes 1 32 with
  | none =>
    rw [hm] at h2
    obtain ⟨rfl, _⟩ := h2
    exact ⟨rfl, hm ▸ h2'.out⟩
  | some y =>
    rw [hm] at h2
    obtain ⟨rfl, _⟩ := h2
    have hm' := Lib.hid hm
    clear hm
    go_wp2_with fail
    go_end0
    exact hm'.out ▸ h2'.out
end Go.Proofs.YtiaheamhmhnodaaGreatDoor

/- innerTable; PutInner. -/
namespace Go.Proofs.YtiaheamhmhnodaaGreatDoor
open Go.RowKit M

def liAgg (kind : Int) (kb : Nat) : Value := .agg #[.int .i64 kind, .func (.func 120) #[] #[.pointer (some ⟨kb + 3, 0, none⟩)], .func (.func 121) #[] #[.pointer (some ⟨kb, 0, none⟩), .pointer (some ⟨kb + 1, 0, none⟩), .pointer (some ⟨kb + 2, 0, none⟩), .pointer (some ⟨kb + 3, 0, none⟩)], .func (.func 122) #[] #[.pointer (some ⟨kb, 0, none⟩), .pointer (some ⟨kb + 1, 0, none⟩), .pointer (some ⟨kb + 3, 0, none⟩), .pointer (some ⟨kb + 2, 0, none⟩)]]

set_option maxRecDepth 10000 in
set_option maxHeartbeats 400000 in
theorem listfI_any (w : World) (kind k n most : Int) (g : FuncId) :
    Calls Tryz.prog 95 #[.int .i64 kind, .int .i64 k, .int .i64 n, .int .i64 most, .func (.func g) #[] #[]] w fun e w' =>
      e = .returned (liAgg kind w.heap.size) ∧ Lf w.heap.size k n most g w' ∧ Kp nobody w w' := by
  have hmf := hmf_
  go_enter Tryz.func95, Tryz.ntmps95
  go_wp2
  refine bodyPost_ret (v := liAgg kind w.heap.size) (by simp [results, Tryz.results95, go_sem, liAgg]) rfl ⟨rfl, ⟨by simp [go_sem], by simp [go_sem], by simp [go_sem], by simp [go_sem]⟩, ?_⟩
  exact (((((Kp.refl _ _).alloc _).alloc _).alloc _).alloc _).alloc _

def fProto : FRec := frec 16 92 93 94
def fList (kind : Int) (kb : Nat) : FRec := ⟨kind, (120, #[.pointer (some ⟨kb + 3, 0, none⟩)]), (121, #[.pointer (some ⟨kb, 0, none⟩), .pointer (some ⟨kb + 1, 0, none⟩), .pointer (some ⟨kb + 2, 0, none⟩), .pointer (some ⟨kb + 3, 0, none⟩)]), (122, #[.pointer (some ⟨kb, 0, none⟩), .pointer (some ⟨kb + 1, 0, none⟩), .pointer (some ⟨kb + 3, 0, none⟩), .pointer (some ⟨kb + 2, 0, none⟩)])⟩
def tabI (kb : Nat) : List FRec := [fProto, fList 13 kb]

set_option maxRecDepth 10000 in
set_option maxHeartbeats 400000 in
theorem tabI_any (w : World) : Calls Tryz.prog 31 #[] w fun e w' =>
    ∃ tv, e = .returned tv ∧ Sl kf (fun k => w.heap.size + 4 ≤ k) w' tv (tabI w.heap.size) ∧ Lf w.heap.size 2 2 32 96 w' ∧ Kp nobody w w' := by
  go_enter Tryz.func31, Tryz.ntmps31
  go_wp2_with fail
  refine (listfI_any _ 13 2 2 32 96).mono ?_
  rintro e w2 ⟨rfl, hc, hk⟩
  have hc' := Lib.hid hc
  have hk' := Lib.hid hk
  have hs2 : w.heap.size + 3 < w2.heap.size := World.block_lt_of_cell? _ _ hc.2.2.2
  clear hc hk
  unfold liAgg
  go_wp2_with fail
  go_ret
  refine ⟨_, rfl, ⟨some ⟨w2.heap.size, 0, none⟩, 2, rfl, (show 2 ≤ 2 from Nat.le_refl _), (fun h => by cases h), (kf_arr (tabI w.heap.size) (rest := []) (fun j u hu => ?_) (by simp)).mono (fun k _ h => ?_)⟩, ?_, hk'.out.alloc _⟩
  · rw [World.cell?_alloc_at _ _ _ _ rfl, List.getElem?_toArray]
    exact hu
  · subst h; omega
  · exact hc'.out.kp (H := nobody) ((Kp.refl _ _).alloc _) (fun _ _ _ h => h)

/-- the table of an Inner, with what each field writes -/
def tabQ (kb : Nat) (i : In) : List (FRec × FPut) := [(fProto, ⟨16, !i.proto.toList.isEmpty, wprotos [i.proto] 1⟩), (fList 13 kb, ⟨13, decide (0 < i.schemes.length), wnumbers 2 2 i.schemes 1 32⟩)]
theorem tabQ_fst (kb : Nat) (i : In) : (tabQ kb i).map Prod.fst = tabI kb := rfl

theorem tabQ_ok {B p kb : Nat} {i : In} (hi : i.ok) : ∀ x ∈ tabQ kb i, FieldOk B p (InO B p kb i) x.1 x.2 := by
  intro x hx
  simp only [tabQ, List.mem_cons, List.not_mem_nil, or_false] at hx
  rcases hx with rfl | rfl
  · exact { kind := rfl
            ent := enters_of Tryz.func92 (by kernel_rfl) (by kernel_rfl)
            enw := enters_of Tryz.func94 (by kernel_rfl) (by kernel_rfl)
            there := fun w h => in1_there h.1
            write := fun C x w hw hC h => in3_write h.1 hw hi }
  · exact { kind := rfl
            ent := enters_of Tryz.func120 (by kernel_rfl) (by kernel_rfl)
            enw := enters_of Tryz.func122 (by kernel_rfl) (by kernel_rfl)
            there := fun w h => li1_there h
            write := fun C x w hw hC h => li3_write h hw hi }

/-- PutInner as a plain function -/
def putInnerM (i : In) : Option (List (Int × List UInt8)) := putM ((tabQ 0 i).map Prod.snd)
end Go.Proofs.YtiaheamhmhnodaaGreatDoor
