/- innerTable; PutInner. -/
import Derived.Test.YtiaheamhmhnodaaIi
import Derived.Test.YtiaheamhmhnodaaPutxInner
namespace Go.Proofs.Ytiaheamhmhnodaa
open Go.RowKit M

def liAgg (kind : Int) (kb : Nat) : Value := .agg #[.int .i64 kind, .func (.func 76) #[] #[.pointer (some ⟨kb + 3, 0, none⟩)], .func (.func 77) #[] #[.pointer (some ⟨kb, 0, none⟩), .pointer (some ⟨kb + 1, 0, none⟩), .pointer (some ⟨kb + 2, 0, none⟩), .pointer (some ⟨kb + 3, 0, none⟩)], .func (.func 79) #[] #[.pointer (some ⟨kb, 0, none⟩), .pointer (some ⟨kb + 1, 0, none⟩), .pointer (some ⟨kb + 3, 0, none⟩), .pointer (some ⟨kb + 2, 0, none⟩)]]

set_option maxRecDepth 10000 in
set_option maxHeartbeats 400000 in
theorem listfI_any (w : World) (kind k n most : Int) (g : FuncId) :
    Calls Try.prog 58 #[.int .i64 kind, .int .i64 k, .int .i64 n, .int .i64 most, .func (.func g) #[] #[]] w fun e w' =>
      e = .returned (liAgg kind w.heap.size) ∧ Lf w.heap.size k n most g w' ∧ Kp nobody w w' := by
  have hmf := hmf_
  go_enter Try.func58, Try.ntmps58
  go_wp2
  refine bodyPost_ret (v := liAgg kind w.heap.size) (by simp [results, Try.results58, go_sem, liAgg]) rfl ⟨rfl, ⟨by simp [go_sem], by simp [go_sem], by simp [go_sem], by simp [go_sem]⟩, ?_⟩
  exact (((((Kp.refl _ _).alloc _).alloc _).alloc _).alloc _).alloc _

def fProto : FRec := frec 16 53 54 56
def fList (kind : Int) (kb : Nat) : FRec := ⟨kind, (76, #[.pointer (some ⟨kb + 3, 0, none⟩)]), (77, #[.pointer (some ⟨kb, 0, none⟩), .pointer (some ⟨kb + 1, 0, none⟩), .pointer (some ⟨kb + 2, 0, none⟩), .pointer (some ⟨kb + 3, 0, none⟩)]), (79, #[.pointer (some ⟨kb, 0, none⟩), .pointer (some ⟨kb + 1, 0, none⟩), .pointer (some ⟨kb + 3, 0, none⟩), .pointer (some ⟨kb + 2, 0, none⟩)])⟩
def tabI (kb : Nat) : List FRec := [fProto, fList 13 kb]

set_option maxRecDepth 10000 in
set_option maxHeartbeats 400000 in
theorem tabI_any (w : World) : Calls Try.prog 20 #[] w fun e w' =>
    ∃ tv, e = .returned tv ∧ Sl kf (fun k => w.heap.size + 4 ≤ k) w' tv (tabI w.heap.size) ∧ Lf w.heap.size 2 2 32 59 w' ∧ Kp nobody w w' := by
  go_enter Try.func20, Try.ntmps20
  go_wp2_with fail
  refine (listfI_any _ 13 2 2 32 59).mono ?_
  rintro e w2 ⟨rfl, hc, hk⟩
  have hc' := Lib.hid hc
  have hk' := Lib.hid hk
  have hs2 : w.heap.size + 3 < w2.heap.size := World.block_lt_of_cell? _ _ hc.2.2.2
  clear hc hk
  unfold liAgg
  go_wp2_with fail
  go_ret
  refine ⟨_, rfl, ⟨some ⟨w2.heap.size, 0, none⟩, 2, rfl, (show 2 ≤ 2 from Nat.le_refl _), (fun h => by cases h), (kf_arr (tabI w.heap.size) (rest := []) (fun j u hu => ?_) (by simp)).mono (fun k _ h => ?_)⟩, ?_, hk'.out.alloc _⟩
  · rw [World.cell?_alloc_at _ _ _ _ rfl, List.getElem?_toArray]
    exact hu
  · subst h; omega
  · exact hc'.out.kp (H := nobody) ((Kp.refl _ _).alloc _) (fun _ _ _ h => h)

/-- the table of an Inner, with what each field writes -/
def tabQ (kb : Nat) (i : In) : List (FRec × FPut) := [(fProto, ⟨16, !i.proto.toList.isEmpty, wprotos [i.proto] 1⟩), (fList 13 kb, ⟨13, decide (0 < i.schemes.length), wnumbers 2 2 i.schemes 1 32⟩)]
theorem tabQ_fst (kb : Nat) (i : In) : (tabQ kb i).map Prod.fst = tabI kb := rfl

theorem tabQ_ok {B p kb : Nat} {i : In} (hi : i.ok) : ∀ x ∈ tabQ kb i, FieldOk B p (InO B p kb i) x.1 x.2 := by
  intro x hx
  simp only [tabQ, List.mem_cons, List.not_mem_nil, or_false] at hx
  rcases hx with rfl | rfl
  · exact { kind := rfl
            ent := enters_of Try.func53 (by kernel_rfl) (by kernel_rfl)
            enw := enters_of Try.func56 (by kernel_rfl) (by kernel_rfl)
            there := fun w h => in1_there h.1
            write := fun C x w hw hC h => in3_write h.1 hw hi }
  · exact { kind := rfl
            ent := enters_of Try.func76 (by kernel_rfl) (by kernel_rfl)
            enw := enters_of Try.func79 (by kernel_rfl) (by kernel_rfl)
            there := fun w h => li1_there h
            write := fun C x w hw hC h => li3_write h hw hi }

/-- PutInner as a plain function -/
def putInnerM (i : In) : Option (List (Int × List UInt8)) := putM ((tabQ 0 i).map Prod.snd)

set_option maxHeartbeats 800000 in
theorem putInner_any (w : World) (i : In) (vs : Value) (hi : i.ok) (hs : Is (fun k => k < w.heap.size) w vs i.schemes) :
    Calls Try.prog 9 #[.agg #[.string i.proto, vs]] w (PutPost w (putInnerM i)) := by
  have hs' := Lib.hid hs
  have hi' := Lib.hid hi
  obtain ⟨As, cs, rfl, _, _, _⟩ := hs
  clear hi
  go_enter Try.func9, Try.ntmps9
  go_wp2_with fail
  refine (tabI_any _).mono ?_
  rintro e w1 ⟨tv, rfl, htab, hlf, hk1⟩
  have hsz : w.heap.size + 1 ≤ w1.heap.size := by have := hk1.size; simpa using this
  have hlf' := Lib.hid hlf
  have hbl : (w.alloc (.cells #[.string i.proto, .slice As i.schemes.length cs] 29)).heap.size + 3 < w1.heap.size := World.block_lt_of_cell? _ _ hlf.2.2.2
  simp at hbl
  have hO : Hid (InO (w1.heap.size + 2) w.heap.size (w.alloc (.cells #[.string i.proto, .slice As i.schemes.length cs] 29)).heap.size i w1) := by
    refine ⟨⟨fun h => h.2 rfl, _, _, hk1.blk (fun h => h) (heap_alloc_new w (.cells #[.string i.proto, .slice As i.schemes.length cs] 29)), ?_⟩, hlf⟩
    exact ((hs'.out.kp (F := nobody) ((Kp.refl _ _).alloc _) (fun _ _ _ h => h)).kp hk1 (fun _ _ _ h => h)).mono (fun k _ h => ⟨by omega, by omega⟩)
  have hk1' := Lib.hid hk1
  have htab' := Lib.hid htab
  clear hlf hk1 htab
  go_wp2_with fail
  refine (TInner.put_any w1 w.heap.size (tabQ (w.alloc (.cells #[.string i.proto, .slice As i.schemes.length cs] 29)).heap.size i) _ tv (show 2 ≤ 100 by decide) (tabQ_ok hi'.out) (Sl.iso (htab'.out.mono (fun k hk _ => hk))) hO.out (InO.firm i (by omega) (by simp; omega))).mono ?_
  intro e w2 h
  obtain ⟨x, y, rfl⟩ := h.form
  have h' := Lib.hid h
  clear h
  go_wp2_with fail
  go_ret2
  exact h'.out.from_ (((Kp.refl nobody w).alloc _).trans hk1'.out)
end Go.Proofs.Ytiaheamhmhnodaa
