/- PutOffer. -/
import Derived.Test.YtiaheamhmhnodaaGreatDoorOb
namespace Go.Proofs.YtiaheamhmhnodaaGreatDoor
open Go.RowKit M

/-- what the table's functions that write find -/
def OfO (B p : Nat) (b : OK) (o : Of) (w : World) : Prop := OfAt (fun k => k < B ∧ k ≠ p) w p o ∧ OKs b w
theorem OK.In.mono {b : OK} {R R' : Nat → Prop} (h : b.In R) (hR : ∀ k, R k → R' k) : b.In R' :=
  ⟨fun j hj => hR _ (h.1 j hj), fun j hj => hR _ (h.2.1 j hj), hR _ h.2.2.1, fun j hj => hR _ (h.2.2.2.1 j hj), fun j hj => hR _ (h.2.2.2.2 j hj)⟩
theorem OfO.firm {B p : Nat} {b : OK} (o : Of) (hp : p < B) (hb : b.In (fun k => k < B)) : Firm B (OfO B p b o) := fun w w' h hk =>
  ⟨h.1.kp hk (fun h => by have h' : B ≤ p := h; omega) (fun k _ h h' => by have h'' : B ≤ k := h'; have := h.1; omega), h.2.kp hk (hb.mono (fun k h1 h2 => by have h' : B ≤ k := h2; omega))⟩

/-- what an Offer's fields are written to, in the table's order -/
def Of.puts (o : Of) : List FPut := [⟨0, !o.host.toList.isEmpty, whost o.host⟩, ⟨10, decide (0 < (o.nums 1).length), wnumbers 2 2 (o.nums 1) 1 32⟩, ⟨13, decide (0 < (o.nums 2).length), wnumbers 2 2 (o.nums 2) 1 32⟩, ⟨16, decide (0 < o.protos.length), wprotos o.protos 8⟩,
  ⟨44, decide (0 < o.cookie.length), wvec 2 o.cookie 1 65535⟩, ⟨43, decide (0 < (o.nums 5).length), wnumbers 1 2 (o.nums 5) 1 32⟩, ⟨45, decide (0 < (o.nums 6).length), wnumbers 1 1 (o.nums 6) 1 8⟩, ⟨51, o.hasShares, wshares o.shares⟩, ⟨41, decide (0 < o.idents.length + o.binders.length), wtickets o⟩]
def tabW (b : OK) (o : Of) : List (FRec × FPut) := (tabO b).zip o.puts
theorem tabW_fst (b : OK) (o : Of) : (tabW b o).map Prod.fst = tabO b := rfl
theorem tabW_snd (b : OK) (o : Of) : (tabW b o).map Prod.snd = o.puts := rfl

theorem wr_B {C : Nat → Prop} {w : World} {x B : Nat} {s : List UInt8} {lg : Bool} (hw : Wr C w x s lg) (hC : ∀ k, C k → B ≤ k) : B ≤ w.heap.size := by
  have h1 := hC x hw.1
  have h2 := wr_lt hw
  omega
theorem tabW_ok {B p : Nat} {b : OK} {o : Of} (ho : o.ok) (hp : p < B) : ∀ x ∈ tabW b o, FieldOk B p (OfO B p b o) x.1 x.2 := by
  intro x hx
  simp only [tabW, tabO, Of.puts, List.zip_cons_cons, List.zip_nil_right, List.mem_cons, List.not_mem_nil, or_false] at hx
  rcases hx with rfl | rfl | rfl | rfl | rfl | rfl | rfl | rfl | rfl
  · exact { kind := rfl
            ent := enters_of Tryz.func145 (by kernel_rfl) (by kernel_rfl)
            enw := enters_of Tryz.func148 (by kernel_rfl) (by kernel_rfl)
            there := fun w h => oh1_there h.1
            write := fun C x w hw hC h => oh3_write h.1 hw hp (wr_B hw hC) ho }
  · exact { kind := rfl
            ent := enters_of Tryz.func100 (by kernel_rfl) (by kernel_rfl)
            enw := enters_of Tryz.func103 (by kernel_rfl) (by kernel_rfl)
            there := fun w h => ol1_there h.1 h.2.k1 acc_groups (.inl rfl)
            write := fun C x w hw hC h => ol3_write h.1 h.2.k1 acc_groups (.inl rfl) hw ho (by decide) (by decide) (by decide) }
  · exact { kind := rfl
            ent := enters_of Tryz.func100 (by kernel_rfl) (by kernel_rfl)
            enw := enters_of Tryz.func103 (by kernel_rfl) (by kernel_rfl)
            there := fun w h => ol1_there h.1 h.2.k2 acc_schemes (.inr (.inl rfl))
            write := fun C x w hw hC h => ol3_write h.1 h.2.k2 acc_schemes (.inr (.inl rfl)) hw ho (by decide) (by decide) (by decide) }
  · exact { kind := rfl
            ent := enters_of Tryz.func37 (by kernel_rfl) (by kernel_rfl)
            enw := enters_of Tryz.func40 (by kernel_rfl) (by kernel_rfl)
            there := fun w h => op3_there h.1
            write := fun C x w hw hC h => op5_write h.1 hw ho }
  · exact { kind := rfl
            ent := enters_of Tryz.func109 (by kernel_rfl) (by kernel_rfl)
            enw := enters_of Tryz.func111 (by kernel_rfl) (by kernel_rfl)
            there := fun w h => oc1_there h.1 h.2.kc acc_cookie
            write := fun C x w hw hC h => oc3_write h.1 h.2.kc acc_cookie hw ho }
  · exact { kind := rfl
            ent := enters_of Tryz.func100 (by kernel_rfl) (by kernel_rfl)
            enw := enters_of Tryz.func103 (by kernel_rfl) (by kernel_rfl)
            there := fun w h => ol1_there h.1 h.2.k5 acc_versions (.inr (.inr (.inl rfl)))
            write := fun C x w hw hC h => ol3_write h.1 h.2.k5 acc_versions (.inr (.inr (.inl rfl))) hw ho (by decide) (by decide) (by decide) }
  · exact { kind := rfl
            ent := enters_of Tryz.func100 (by kernel_rfl) (by kernel_rfl)
            enw := enters_of Tryz.func103 (by kernel_rfl) (by kernel_rfl)
            there := fun w h => ol1_there h.1 h.2.k6 acc_modes (.inr (.inr (.inr rfl)))
            write := fun C x w hw hC h => ol3_write h.1 h.2.k6 acc_modes (.inr (.inr (.inr rfl))) hw ho (by decide) (by decide) (by decide) }
  · exact { kind := rfl
            ent := enters_of Tryz.func46 (by kernel_rfl) (by kernel_rfl)
            enw := enters_of Tryz.func53 (by kernel_rfl) (by kernel_rfl)
            there := fun w h => os9_there h.1
            write := fun C x w hw hC h => os11_write h.1 hw hp (wr_B hw hC) ho }
  · exact { kind := rfl
            ent := enters_of Tryz.func153 (by kernel_rfl) (by kernel_rfl)
            enw := enters_of Tryz.func158 (by kernel_rfl) (by kernel_rfl)
            there := fun w h => ot1_there h.1 ho
            write := fun C x w hw hC h => ot3_write h.1 hw hC hp (wr_B hw hC) ho }

/-- PutOffer as a plain function -/
def putOfferM (o : Of) : Option (List (Int × List UInt8)) := if o.hasShares = false ∧ 0 < o.shares.length then none else putM o.puts

/-- a struct's cells read as an Offer -/
def OfVs (N : Nat → Prop) (w : World) (o : Of) (vs : Array Value) : Prop := vs.size = 11 ∧ ∀ i v, vs[i]? = some v → oRep N w o i v
theorem OfVs.kp {N H : Nat → Prop} {w w' : World} {o : Of} {vs : Array Value} (h : OfVs N w o vs) (hk : Kp H w w') (hN : ∀ k, k < w.heap.size → N k → ¬ H k) : OfVs N w' o vs := ⟨h.1, fun i v hv => (h.2 i v hv).kp hk hN⟩
theorem OfVs.mono {N N' : Nat → Prop} {w : World} {o : Of} {vs : Array Value} (h : OfVs N w o vs) (hN : ∀ k, k < w.heap.size → N k → N' k) : OfVs N' w o vs := ⟨h.1, fun i v hv => (h.2 i v hv).mono hN⟩
theorem OfVs.form {N : Nat → Prop} {w : World} {o : Of} {vs : Array Value} (h : OfVs N w o vs) : ∃ A1 c1 A2 c2 A3 c3 A4 c4 A5 c5 A6 c6 A8 c8 A9 c9 A10 c10, vs = #[.string o.host, .slice A1 o.groups.length c1, .slice A2 o.schemes.length c2, .slice A3 o.protos.length c3, .slice A4 o.cookie.length c4, .slice A5 o.versions.length c5, .slice A6 o.modes.length c6, .bool o.hasShares, .slice A8 o.shares.length c8, .slice A9 o.idents.length c9, .slice A10 o.binders.length c10] := by
  obtain ⟨hs, hr⟩ := h
  obtain ⟨l⟩ := vs
  match l, hs with
  | [v0, v1, v2, v3, v4, v5, v6, v7, v8, v9, v10], _ =>
    have h0 : v0 = .string o.host := hr 0 v0 rfl
    obtain ⟨A1, c1, h1, _⟩ := (hr 1 v1 rfl : Is N w v1 o.groups)
    obtain ⟨A2, c2, h2, _⟩ := (hr 2 v2 rfl : Is N w v2 o.schemes)
    obtain ⟨A3, c3, h3, _⟩ := (hr 3 v3 rfl : Ss N w v3 o.protos)
    obtain ⟨A4, c4, h4, _⟩ := (hr 4 v4 rfl : Bs N w v4 o.cookie)
    obtain ⟨A5, c5, h5, _⟩ := (hr 5 v5 rfl : Is N w v5 o.versions)
    obtain ⟨A6, c6, h6, _⟩ := (hr 6 v6 rfl : Is N w v6 o.modes)
    have h7 : v7 = .bool o.hasShares := hr 7 v7 rfl
    obtain ⟨A8, c8, h8, _⟩ := (hr 8 v8 rfl : Sl kfield N w v8 o.shares)
    obtain ⟨A9, c9, h9, _⟩ := (hr 9 v9 rfl : Sl kident N w v9 o.idents)
    obtain ⟨A10, c10, h10, _⟩ := (hr 10 v10 rfl : Sl kbind N w v10 o.binders)
    subst h0 h1 h2 h3 h4 h5 h6 h7 h8 h9 h10
    exact ⟨_, _, _, _, _, _, _, _, _, _, _, _, _, _, _, _, _, _, rfl⟩
end Go.Proofs.YtiaheamhmhnodaaGreatDoor
