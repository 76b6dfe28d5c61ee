/- Words and contracts for: DecompMay: whatever hypergraph, bags and numbers are given, the law answers true, and its arguments read as before -/
import Derived.Test.YtceiaekkfabeaaaDoorCards
import Derived.Test.YtceiaekkfabeaaaDoorTie
import Derived.WalkKit
import Derived.ProofKit
import Derived.OpenShut
import Derived.Deep.Slices
import Derived.Deep.Strs
import Derived.Deep.DeepHandedRow
import Derived.Lib.LaidTab
import Derived.WideKeyArgs
import Derived.Deep.QuietTactic
import Derived.BigQuiet
import Derived.Test.YtceiaekkfabeaaaDoorZmi
/- Does the layer do anything? -/
namespace Go.Proofs.YtceiaekkfabeaaaDoor
open Go.RowKit Go.Shelf Pl

def ringE : List (List Int) := [[0, 1], [1, 2], [0, 2]]
theorem ring_least : leastA 3 ringE = (2, 0) := by decide +kernel
theorem ring_of1 : (ofA 3 ringE 1).1 = 4 := by decide +kernel
theorem ring_of2 : (ofA 3 ringE 2).1 = 0 ∧ widthTo 0 (ofA 3 ringE 2).2 ≤ 2 := by decide +kernel
theorem ring_cover : coverA 3 ringE [0, 1, 2] = (0, some [0, 1]) := by decide +kernel
theorem ring_one : checkE 3 ringE [⟨[0, 1, 2], [0, 1], -1⟩] = 0 := by decide +kernel
theorem ring_bad : checkE 3 ringE [⟨[0, 1, 2], [0], -1⟩] = 310 := by decide +kernel
theorem alloc_new (w : World) (o : Obj) : (w.alloc o).heap[w.heap.size]? = some o := World.alloc_heap_new w o

theorem bagsR_lit {P : Nat → Prop} {W : World} {b b1 b2 : Nat} {vs es : List Int} {p : Int} (h : W.heap[b]? = some (.cells #[.slice (some ⟨b1, 0, none⟩) vs.length vs.length, .slice (some ⟨b2, 0, none⟩) es.length es.length, .int .i64 p] 51))
    (h1 : W.heap[b1]? = some (.cells (vs.map (.int .i64)).toArray 3)) (h2 : W.heap[b2]? = some (.cells (es.map (.int .i64)).toArray 3)) (hl1 : vs.length ≤ 1000) (hl2 : es.length ≤ 1000) (hP : P b) (hP1 : P b1) (hP2 : P b2) :
    BagsR P W (.slice (some ⟨b, 0, none⟩) 1 1) [⟨vs, es, p⟩] := by
  refine ⟨some ⟨b, 0, none⟩, 1, rfl, ⟨Nat.le_refl _, fun h => by cases h⟩, by simp, fun _ => ⟨_, rfl, hP, rfl, fun j hj => ?_⟩⟩
  have hj0 : j = 0 := by simpa using hj
  subst hj0
  refine ⟨[.slice (some ⟨b1, 0, none⟩) vs.length vs.length, .slice (some ⟨b2, 0, none⟩) es.length es.length, .int .i64 p], ⟨_, _, rfl, intsR_lit vs h1 hl1 hP1, intsR_lit es h2 hl2 hP2⟩, rfl, fun i u hu => ?_⟩
  simp only [World.cell?, h]
  simpa using hu

set_option maxHeartbeats 4000000 in
set_option maxRecDepth 100000 in
theorem wakes_any (w : World) (hT : TabW w) : Calls Tryd.prog 8 #[] w fun e w' => e = .returned (.bool true) ∧ Ext No w w' := by
  have HT := Sid.mk hT
  clear hT
  have K1 := trivial
  go_enter Tryd.func8, Tryd.ntmps8
  go_wp2_with (first
    | (have := K1; go_at_call 31; refine (ring_any _).mono ?_; rintro e w1 ⟨ev1, rfl, hr, hx⟩; obtain ⟨A1, c1, rfl, _⟩ := hr.at; have HR1 : Sid (RowsR (fun _ => True) w1 (.slice A1 3 c1) ringE) := ⟨hr.imp (fun _ _ _ => trivial)⟩; clear hr; have HE1 : Sid (Ext No w w1) := ⟨Ext.trans (by first | exact Ext.refl _ _ | exact (Ext.refl No _).alloc _ | exact ((Ext.refl No _).alloc _).alloc _ | exact (((((Ext.refl No _).alloc _).alloc _).alloc _).alloc _).alloc _ | exact ((((((Ext.refl No _).alloc _).alloc _).alloc _).alloc _).alloc _).alloc _) hx⟩; clear hx; clear K1; have K2 := trivial)
    | (have := K2; go_at_call 16; refine (Least_any 3 _ ringE _ (HR1.out.no (by first | exact Ext.refl _ _ | exact (Ext.refl No _).alloc _ | exact ((Ext.refl No _).alloc _).alloc _ | exact (((((Ext.refl No _).alloc _).alloc _).alloc _).alloc _).alloc _ | exact ((((((Ext.refl No _).alloc _).alloc _).alloc _).alloc _).alloc _).alloc _)) (by omega) (HT.out.no ((HE1.out).trans (by first | exact Ext.refl _ _ | exact (Ext.refl No _).alloc _ | exact ((Ext.refl No _).alloc _).alloc _ | exact (((((Ext.refl No _).alloc _).alloc _).alloc _).alloc _).alloc _ | exact ((((((Ext.refl No _).alloc _).alloc _).alloc _).alloc _).alloc _).alloc _)))).mono ?_; rintro e w2 ⟨rfl, hx⟩; rw [ring_least]; have HE2 : Sid (Ext No w1 w2) := ⟨Ext.trans (by first | exact Ext.refl _ _ | exact (Ext.refl No _).alloc _ | exact ((Ext.refl No _).alloc _).alloc _ | exact (((((Ext.refl No _).alloc _).alloc _).alloc _).alloc _).alloc _ | exact ((((((Ext.refl No _).alloc _).alloc _).alloc _).alloc _).alloc _).alloc _) hx⟩; clear hx; clear K2; have K3 := trivial)
    | (have := K3; go_at_call 31; refine (ring_any _).mono ?_; rintro e w3 ⟨ev3, rfl, hr, hx⟩; obtain ⟨A3, c3, rfl, _⟩ := hr.at; have HR3 : Sid (RowsR (fun _ => True) w3 (.slice A3 3 c3) ringE) := ⟨hr.imp (fun _ _ _ => trivial)⟩; clear hr; have HE3 : Sid (Ext No w2 w3) := ⟨Ext.trans (by first | exact Ext.refl _ _ | exact (Ext.refl No _).alloc _ | exact ((Ext.refl No _).alloc _).alloc _ | exact (((((Ext.refl No _).alloc _).alloc _).alloc _).alloc _).alloc _ | exact ((((((Ext.refl No _).alloc _).alloc _).alloc _).alloc _).alloc _).alloc _) hx⟩; clear hx; clear K3; have K4 := trivial)
    | (have := K4; go_at_call 19; refine (Of_any 3 _ ringE 1 _ (HR3.out.no (by first | exact Ext.refl _ _ | exact (Ext.refl No _).alloc _ | exact ((Ext.refl No _).alloc _).alloc _ | exact (((((Ext.refl No _).alloc _).alloc _).alloc _).alloc _).alloc _ | exact ((((((Ext.refl No _).alloc _).alloc _).alloc _).alloc _).alloc _).alloc _)) (by omega) (HT.out.no ((((HE1.out).trans HE2.out).trans HE3.out).trans (by first | exact Ext.refl _ _ | exact (Ext.refl No _).alloc _ | exact ((Ext.refl No _).alloc _).alloc _ | exact (((((Ext.refl No _).alloc _).alloc _).alloc _).alloc _).alloc _ | exact ((((((Ext.refl No _).alloc _).alloc _).alloc _).alloc _).alloc _).alloc _)))).mono ?_; rintro e w4 ⟨v4, rfl, _, hx⟩; rw [ring_of1]; have HE4 : Sid (Ext No w3 w4) := ⟨Ext.trans (by first | exact Ext.refl _ _ | exact (Ext.refl No _).alloc _ | exact ((Ext.refl No _).alloc _).alloc _ | exact (((((Ext.refl No _).alloc _).alloc _).alloc _).alloc _).alloc _ | exact ((((((Ext.refl No _).alloc _).alloc _).alloc _).alloc _).alloc _).alloc _) hx⟩; clear hx; clear K4; have K5 := trivial)
    | (have := K5; go_at_call 31; refine (ring_any _).mono ?_; rintro e w5 ⟨ev5, rfl, hr, hx⟩; obtain ⟨A5, c5, rfl, _⟩ := hr.at; have HR5 : Sid (RowsR (fun _ => True) w5 (.slice A5 3 c5) ringE) := ⟨hr.imp (fun _ _ _ => trivial)⟩; clear hr; have HE5 : Sid (Ext No w4 w5) := ⟨Ext.trans (by first | exact Ext.refl _ _ | exact (Ext.refl No _).alloc _ | exact ((Ext.refl No _).alloc _).alloc _ | exact (((((Ext.refl No _).alloc _).alloc _).alloc _).alloc _).alloc _ | exact ((((((Ext.refl No _).alloc _).alloc _).alloc _).alloc _).alloc _).alloc _) hx⟩; clear hx; clear K5; have K6 := trivial)
    | (have := K6; go_at_call 19; refine (Of_any 3 _ ringE 2 _ (HR5.out.no (by first | exact Ext.refl _ _ | exact (Ext.refl No _).alloc _ | exact ((Ext.refl No _).alloc _).alloc _ | exact (((((Ext.refl No _).alloc _).alloc _).alloc _).alloc _).alloc _ | exact ((((((Ext.refl No _).alloc _).alloc _).alloc _).alloc _).alloc _).alloc _)) (by omega) (HT.out.no ((((((HE1.out).trans HE2.out).trans HE3.out).trans HE4.out).trans HE5.out).trans (by first | exact Ext.refl _ _ | exact (Ext.refl No _).alloc _ | exact ((Ext.refl No _).alloc _).alloc _ | exact (((((Ext.refl No _).alloc _).alloc _).alloc _).alloc _).alloc _ | exact ((((((Ext.refl No _).alloc _).alloc _).alloc _).alloc _).alloc _).alloc _)))).mono ?_; rintro e w6 ⟨v6, rfl, hb6, hx⟩; rw [ring_of2.1]; obtain ⟨L6, hL6⟩ : ∃ L6, L6 = (ofA 3 ringE 2).2 := ⟨_, rfl⟩; rw [← hL6] at hb6; obtain ⟨A6, c6, rfl, _⟩ := hb6.at; have HB6 := Sid.mk hb6; have HL6 : Sid (widthTo 0 L6 ≤ 2) := ⟨by rw [hL6]; exact ring_of2.2⟩; clear hb6 hL6; have HE6 : Sid (Ext No w5 w6) := ⟨Ext.trans (by first | exact Ext.refl _ _ | exact (Ext.refl No _).alloc _ | exact ((Ext.refl No _).alloc _).alloc _ | exact (((((Ext.refl No _).alloc _).alloc _).alloc _).alloc _).alloc _ | exact ((((((Ext.refl No _).alloc _).alloc _).alloc _).alloc _).alloc _).alloc _) hx⟩; clear hx; clear K6; have K7 := trivial)
    | (have := K7; go_at_call 31; refine (ring_any _).mono ?_; rintro e w7 ⟨ev7, rfl, hr, hx⟩; obtain ⟨A7, c7, rfl, _⟩ := hr.at; have HR7 : Sid (RowsR (fun _ => True) w7 (.slice A7 3 c7) ringE) := ⟨hr.imp (fun _ _ _ => trivial)⟩; clear hr; have HE7 : Sid (Ext No w6 w7) := ⟨Ext.trans (by first | exact Ext.refl _ _ | exact (Ext.refl No _).alloc _ | exact ((Ext.refl No _).alloc _).alloc _ | exact (((((Ext.refl No _).alloc _).alloc _).alloc _).alloc _).alloc _ | exact ((((((Ext.refl No _).alloc _).alloc _).alloc _).alloc _).alloc _).alloc _) hx⟩; clear hx; clear K7; have K8 := trivial)
    | (have := K8; go_at_call 11; refine (Cover_any (P1 := fun _ => True) 3 _ _ ringE [0, 1, 2] _ (HR7.out.no (by first | exact Ext.refl _ _ | exact (Ext.refl No _).alloc _ | exact ((Ext.refl No _).alloc _).alloc _ | exact (((((Ext.refl No _).alloc _).alloc _).alloc _).alloc _).alloc _ | exact ((((((Ext.refl No _).alloc _).alloc _).alloc _).alloc _).alloc _).alloc _)) (intsR_lit [0, 1, 2] (alloc_new _ _) (by simp) trivial)).mono ?_; rintro e w8 ⟨v8, rfl, hi8, hx⟩; rw [ring_cover] at hi8 ⊢; obtain ⟨A8, c8, rfl, _⟩ := IntsR.at (xs := [0, 1]) hi8; have HC8 : Sid (IntsR .i64 (fun _ => True) w8 (.slice A8 2 c8) [0, 1]) := ⟨IntsR.imp (xs := [0, 1]) hi8 (fun _ _ _ => trivial)⟩; clear hi8; have HE8 : Sid (Ext No w7 w8) := ⟨Ext.trans (by first | exact Ext.refl _ _ | exact (Ext.refl No _).alloc _ | exact ((Ext.refl No _).alloc _).alloc _ | exact (((((Ext.refl No _).alloc _).alloc _).alloc _).alloc _).alloc _ | exact ((((((Ext.refl No _).alloc _).alloc _).alloc _).alloc _).alloc _).alloc _) hx⟩; clear hx; clear K8; have K9 := trivial)
    | (have := K9; go_at_call 21; refine (Width_any _ L6 _ (HB6.out.no (((HE7.out).trans HE8.out).trans (by first | exact Ext.refl _ _ | exact (Ext.refl No _).alloc _ | exact ((Ext.refl No _).alloc _).alloc _ | exact (((((Ext.refl No _).alloc _).alloc _).alloc _).alloc _).alloc _ | exact ((((((Ext.refl No _).alloc _).alloc _).alloc _).alloc _).alloc _).alloc _)))).mono ?_; rintro e w9 ⟨rfl, hx⟩; have HBo : Sid (BagsR (fun _ => True) w9 (.slice (some ⟨w8.heap.size + 1 + 1, 0, none⟩) 1 1) [⟨[0, 1, 2], [0, 1], -1⟩]) := ⟨BagsR.no (bagsR_lit (b := w8.heap.size + 1 + 1) (b1 := w8.heap.size) (b2 := w8.heap.size + 1) (vs := [0, 1, 2]) (es := [0, 1]) (p := -1) (by simp only [alloc_at, World.size_alloc]; simp [Nat.add_assoc]) (by simp only [alloc_at, World.size_alloc]; simp [Nat.add_assoc]) (by simp only [alloc_at, World.size_alloc]; simp [Nat.add_assoc]) (by simp) (by simp) trivial trivial trivial) hx⟩; have HBb : Sid (BagsR (fun _ => True) w9 (.slice (some ⟨w8.heap.size + 1 + 1 + 1 + 1 + 1, 0, none⟩) 1 1) [⟨[0, 1, 2], [0], -1⟩]) := ⟨BagsR.no (bagsR_lit (b := w8.heap.size + 1 + 1 + 1 + 1 + 1) (b1 := w8.heap.size + 1 + 1 + 1) (b2 := w8.heap.size + 1 + 1 + 1 + 1) (vs := [0, 1, 2]) (es := [0]) (p := -1) (by simp only [alloc_at, World.size_alloc]; simp [Nat.add_assoc]) (by simp only [alloc_at, World.size_alloc]; simp [Nat.add_assoc]) (by simp only [alloc_at, World.size_alloc]; simp [Nat.add_assoc]) (by simp) (by simp) trivial trivial trivial) hx⟩; have hwl := HL6.out; have HE9 : Sid (Ext No w8 w9) := ⟨Ext.trans (by first | exact Ext.refl _ _ | exact (Ext.refl No _).alloc _ | exact ((Ext.refl No _).alloc _).alloc _ | exact (((((Ext.refl No _).alloc _).alloc _).alloc _).alloc _).alloc _ | exact ((((((Ext.refl No _).alloc _).alloc _).alloc _).alloc _).alloc _).alloc _) hx⟩; clear hx; clear K9; have K10 := trivial)
    | (have := K10; go_at_call 15; refine (Equal_any (P1 := fun _ => True) _ _ [0, 1] [0, 1] _ (HC8.out.no ((HE9.out).trans (by first | exact Ext.refl _ _ | exact (Ext.refl No _).alloc _ | exact ((Ext.refl No _).alloc _).alloc _ | exact (((((Ext.refl No _).alloc _).alloc _).alloc _).alloc _).alloc _ | exact ((((((Ext.refl No _).alloc _).alloc _).alloc _).alloc _).alloc _).alloc _))) (intsR_lit [0, 1] (alloc_new _ _) (by simp) trivial)).mono ?_; rintro e w10 ⟨rfl, n, hw⟩; rw [show eqB [0, 1] [0, 1] = true from by decide]; have hx : Ext No _ w10 := hw ▸ (Ext.refl No _).drewN n; clear hw; have HE10 : Sid (Ext No w9 w10) := ⟨Ext.trans (by first | exact Ext.refl _ _ | exact (Ext.refl No _).alloc _ | exact ((Ext.refl No _).alloc _).alloc _ | exact (((((Ext.refl No _).alloc _).alloc _).alloc _).alloc _).alloc _ | exact ((((((Ext.refl No _).alloc _).alloc _).alloc _).alloc _).alloc _).alloc _) hx⟩; clear hx; clear K10; have K11 := trivial)
    | (have := K11; go_at_call 31; refine (ring_any _).mono ?_; rintro e w11 ⟨ev11, rfl, hr, hx⟩; obtain ⟨A11, c11, rfl, _⟩ := hr.at; have HR11 : Sid (RowsR (fun _ => True) w11 (.slice A11 3 c11) ringE) := ⟨hr.imp (fun _ _ _ => trivial)⟩; clear hr; have HE11 : Sid (Ext No w10 w11) := ⟨Ext.trans (by first | exact Ext.refl _ _ | exact (Ext.refl No _).alloc _ | exact ((Ext.refl No _).alloc _).alloc _ | exact (((((Ext.refl No _).alloc _).alloc _).alloc _).alloc _).alloc _ | exact ((((((Ext.refl No _).alloc _).alloc _).alloc _).alloc _).alloc _).alloc _) hx⟩; clear hx; clear K11; have K12 := trivial)
    | (have := K12; go_at_call 23; refine (Check_any 3 _ _ ringE [⟨[0, 1, 2], [0, 1], -1⟩] _ (HR11.out.no (by first | exact Ext.refl _ _ | exact (Ext.refl No _).alloc _ | exact ((Ext.refl No _).alloc _).alloc _ | exact (((((Ext.refl No _).alloc _).alloc _).alloc _).alloc _).alloc _ | exact ((((((Ext.refl No _).alloc _).alloc _).alloc _).alloc _).alloc _).alloc _)) (HBo.out.no (((HE10.out).trans HE11.out).trans (by first | exact Ext.refl _ _ | exact (Ext.refl No _).alloc _ | exact ((Ext.refl No _).alloc _).alloc _ | exact (((((Ext.refl No _).alloc _).alloc _).alloc _).alloc _).alloc _ | exact ((((((Ext.refl No _).alloc _).alloc _).alloc _).alloc _).alloc _).alloc _)))).mono ?_; rintro e w12 ⟨rfl, hx⟩; rw [ring_one]; have HE12 : Sid (Ext No w11 w12) := ⟨Ext.trans (by first | exact Ext.refl _ _ | exact (Ext.refl No _).alloc _ | exact ((Ext.refl No _).alloc _).alloc _ | exact (((((Ext.refl No _).alloc _).alloc _).alloc _).alloc _).alloc _ | exact ((((((Ext.refl No _).alloc _).alloc _).alloc _).alloc _).alloc _).alloc _) hx⟩; clear hx; clear K12; have K13 := trivial)
    | (have := K13; go_at_call 31; refine (ring_any _).mono ?_; rintro e w13 ⟨ev13, rfl, hr, hx⟩; obtain ⟨A13, c13, rfl, _⟩ := hr.at; have HR13 : Sid (RowsR (fun _ => True) w13 (.slice A13 3 c13) ringE) := ⟨hr.imp (fun _ _ _ => trivial)⟩; clear hr; have HE13 : Sid (Ext No w12 w13) := ⟨Ext.trans (by first | exact Ext.refl _ _ | exact (Ext.refl No _).alloc _ | exact ((Ext.refl No _).alloc _).alloc _ | exact (((((Ext.refl No _).alloc _).alloc _).alloc _).alloc _).alloc _ | exact ((((((Ext.refl No _).alloc _).alloc _).alloc _).alloc _).alloc _).alloc _) hx⟩; clear hx; clear K13; have K14 := trivial)
    | (have := K14; go_at_call 23; refine (Check_any 3 _ _ ringE [⟨[0, 1, 2], [0], -1⟩] _ (HR13.out.no (by first | exact Ext.refl _ _ | exact (Ext.refl No _).alloc _ | exact ((Ext.refl No _).alloc _).alloc _ | exact (((((Ext.refl No _).alloc _).alloc _).alloc _).alloc _).alloc _ | exact ((((((Ext.refl No _).alloc _).alloc _).alloc _).alloc _).alloc _).alloc _)) (HBb.out.no (((((HE10.out).trans HE11.out).trans HE12.out).trans HE13.out).trans (by first | exact Ext.refl _ _ | exact (Ext.refl No _).alloc _ | exact ((Ext.refl No _).alloc _).alloc _ | exact (((((Ext.refl No _).alloc _).alloc _).alloc _).alloc _).alloc _ | exact ((((((Ext.refl No _).alloc _).alloc _).alloc _).alloc _).alloc _).alloc _)))).mono ?_; rintro e w14 ⟨rfl, hx⟩; rw [ring_bad]; have HE14 : Sid (Ext No w13 w14) := ⟨Ext.trans (by first | exact Ext.refl _ _ | exact (Ext.refl No _).alloc _ | exact ((Ext.refl No _).alloc _).alloc _ | exact (((((Ext.refl No _).alloc _).alloc _).alloc _).alloc _).alloc _ | exact ((((((Ext.refl No _).alloc _).alloc _).alloc _).alloc _).alloc _).alloc _) hx⟩; clear hx; clear K14; have K15 := trivial))
  go_ret
  exact ⟨rfl, ((((((((((((((HE1.out).trans HE2.out).trans HE3.out).trans HE4.out).trans HE5.out).trans HE6.out).trans HE7.out).trans HE8.out).trans HE9.out).trans HE10.out).trans HE11.out).trans HE12.out).trans HE13.out).trans HE14.out)⟩
end Go.Proofs.YtceiaekkfabeaaaDoor

/- A row's arguments, opened: rows of numbers, rows of rows, hypergraphs, bags. -/
namespace Go.Proofs.YtceiaekkfabeaaaDoor
open Go.ChangeShapes Go.WideShapes Go.ChangeAt Go.RowKit Go.Deep Pl

theorem cells3 : Tryd.prog.cellsOf 3 = 1 := by kernel_rfl
theorem cells28 : Tryd.prog.cellsOf 28 = 1 := by kernel_rfl
theorem cells22 : Tryd.prog.cellsOf 22 = 1 := by kernel_rfl
theorem cells24 : Tryd.prog.cellsOf 24 = 2 := by kernel_rfl
theorem cells51 : Tryd.prog.cellsOf 51 = 3 := by kernel_rfl
theorem bytes3 : Tryd.prog.bytesOf 3 = 8 := by kernel_rfl
theorem bytes28 : Tryd.prog.bytesOf 28 = 24 := by kernel_rfl
theorem bytes51 : Tryd.prog.bytesOf 51 = 56 := by kernel_rfl

theorem weights_all {H : Type} {Pg : Program} {e : TypeId} {d : DataW H} : ∀ {l : List (DataW H)}, d ∈ l → ∀ x ∈ d.weights Pg e, x ∈ DataW.weightsAll Pg e l
  | [], h, _, _ => by simp at h
  | d' :: l, h, x, hx => by
    rw [DataW.weightsAll, List.mem_append]
    rcases List.mem_cons.1 h with rfl | h
    · exact Or.inl hx
    · exact Or.inr (weights_all h x hx)

section
variable {H : Type} {enc : TypeId × Value → H} {w : World}
theorem slice_len {t e : TypeId} (ht : Tryd.prog.underlying t = some (.slice e)) {elems spare : List (DataW H)} (hz : ∀ x ∈ (DataW.slice elems spare).weights Tryd.prog t, x ≤ reachBytes) : (elems.length + spare.length) * Tryd.prog.bytesOf e ≤ reachBytes := by
  refine hz _ ?_
  simp [DataW.weights, ht]
theorem slice_elem {t e : TypeId} (ht : Tryd.prog.underlying t = some (.slice e)) {elems spare : List (DataW H)} (hz : ∀ x ∈ (DataW.slice elems spare).weights Tryd.prog t, x ≤ reachBytes) {d : DataW H} (hd : d ∈ elems) : ∀ x ∈ d.weights Tryd.prog e, x ≤ reachBytes := by
  intro x hx
  refine hz _ ?_
  simp only [DataW.weights, ht, List.mem_cons, List.mem_append]
  exact Or.inr (Or.inl (weights_all hd x hx))

/-- A row of numbers that came in. -/
theorem ints_opened {n : Nat} {v : Value} {y : DataW H × List MemPlace} (h : DataW.trod enc Tryd.prog w 0 (fun _ => true) true n 28 [v] = some y) (hz : ∀ x ∈ y.1.weights Tryd.prog 28, x ≤ reachBytes) : ∃ xs, IntsR .i64 (fun _ => True) w v xs := by
  rcases open_ints Tryd.underlying28 Tryd.underlying3 cells3 h with ⟨hcs, _⟩ | ⟨a, len, cap, zs, hcs, hb, hl, hm, hzl, hy, hcell, hwz⟩
  · simp only [List.cons.injEq, and_true] at hcs
    subst hcs
    exact ⟨[], ints_nil _ _ _⟩
  · simp only [List.cons.injEq, and_true] at hcs
    subst hcs
    simp only [if_true] at hzl
    rw [hy] at hz
    have hlen := slice_len Tryd.underlying28 hz
    rw [bytes3] at hlen
    simp only [lits, List.length_map, List.length_take, List.length_drop, reachBytes] at hlen
    have htl : (zs.take len).length = len := by rw [List.length_take]; omega
    refine ⟨zs.take len, some a, cap, by rw [htl], ⟨by omega, fun hh => by cases hh⟩, by omega, fun hp => ?_⟩
    have hc0 := hcell 0 (by omega)
    obtain ⟨b, off, sp⟩ := a
    have hsp : sp = none := by simpa [Addr.add] using World.cell?_spot hc0
    subst hsp
    refine ⟨_, rfl, trivial, rfl, fun j hj => ⟨_, rfl, rfl, fun i u hu => ?_⟩⟩
    have hi0 : i = 0 := by have := (List.getElem?_eq_some_iff.1 hu).1; simpa using this
    subst hi0
    have := hcell j (by omega)
    rw [addr_add] at this
    simp only [List.getElem?_cons_zero, Option.some.injEq] at hu
    subst hu
    simp only [Nat.mul_one, Nat.add_zero]
    rw [this, List.getElem_take]
    congr 2
    rw [List.getD_eq_getElem?_getD, List.getElem?_eq_getElem (by omega)]; rfl
/-- A row of rows that came in. -/
theorem rows_opened {n : Nat} {v : Value} {y : DataW H × List MemPlace} (h : DataW.trod enc Tryd.prog w 0 (fun _ => true) true n 22 [v] = some y) (hz : ∀ x ∈ y.1.weights Tryd.prog 22, x ≤ reachBytes) : ∃ xss, RowsR (fun _ => True) w v xss := by
  rcases open_slice1 Tryd.underlying22 cells28 h with ⟨hcs, _⟩ | ⟨a, len, cap, m, n', V, D, Pl, hcs, hb, hl, hm, hmm, hy, hx⟩
  · simp only [List.cons.injEq, and_true] at hcs
    subst hcs
    exact ⟨[], none, 0, rfl, ⟨Nat.le_refl _, fun _ => rfl⟩, by simp, fun hp => by simp at hp⟩
  · simp only [List.cons.injEq, and_true] at hcs
    subst hcs
    simp only [if_true] at hmm
    rw [hy] at hz
    have hlen := slice_len Tryd.underlying22 hz
    rw [bytes28] at hlen
    simp only [List.length_map, List.length_range, reachBytes] at hlen
    have hch : ∀ i : Nat, ∃ xs : List Int, i < len → IntsR .i64 (fun _ => True) w (V i) xs := fun i => by
      by_cases hi : i < len
      · obtain ⟨xs, hxs⟩ := ints_opened (hx i (by omega)).2 (slice_elem Tryd.underlying22 hz (List.mem_map.2 ⟨i, List.mem_range.2 hi, rfl⟩))
        exact ⟨xs, fun _ => hxs⟩
      · exact ⟨[], fun hh => absurd hh hi⟩
    obtain ⟨f, hf⟩ := Classical.axiomOfChoice hch
    refine ⟨(List.range len).map f, some a, cap, by simp, ⟨by simpa using hl, fun hh => by cases hh⟩, by simp; omega, fun hp => ?_⟩
    have hp' : 0 < len := by simpa using hp
    have hc0 := (hx 0 (by omega)).1
    obtain ⟨b, off, sp⟩ := a
    have hsp : sp = none := by simpa [Addr.add] using World.cell?_spot hc0
    subst hsp
    refine ⟨_, rfl, trivial, rfl, fun j hj => ?_⟩
    have hj' : j < len := by simpa using hj
    have hi := hf j hj'
    obtain ⟨A', c', he, _⟩ := hi.at
    refine ⟨[V j], ⟨V j, rfl, by rw [he]; rfl, by simpa using hi⟩, rfl, fun i u hu => ?_⟩
    have hi0 : i = 0 := by have := (List.getElem?_eq_some_iff.1 hu).1; simpa using this
    subst hi0
    have := (hx j (by omega)).1
    rw [addr_add] at this
    simp only [List.getElem?_cons_zero, Option.some.injEq] at hu
    subst hu
    simpa using this
set_option maxRecDepth 100000 in
/-- A hypergraph that came in. -/
theorem hyper_opened {r : Reach} {b0 : Nat} {v : Value} {d : DataW H} {ps : List MemPlace} (hval : Value.okWide Tryd.prog w r b0 24 v) (h : DataW.Trod enc Tryd.prog w 0 (fun _ => true) true 24 v d ps) (hz : ∀ x ∈ d.weights Tryd.prog 24, x ≤ reachBytes) :
    ∃ (many : Int) (ev : Value) (es : List (List Int)), v = .agg #[.int .i64 many, ev] ∧ RowsR (fun _ => True) w ev es := by
  obtain ⟨cs, rfl, hcs⟩ := okWide_struct Tryd.underlying24 hval
  rw [cells24] at hcs
  obtain ⟨n, hn⟩ := h
  obtain ⟨y0, y1, n', hd, _, h0, h1⟩ := trod_struct2 Tryd.underlying24 hn
  match cs, hcs with
  | ⟨[a, b]⟩, _ =>
    simp only [Value.cells, cells3, cells22, List.drop_zero, List.take_succ_cons, List.take_zero, List.drop_succ_cons] at h0 h1
    obtain ⟨many, ha, _, _⟩ := DataW.trod_int Tryd.underlying3 h0
    simp only [List.cons.injEq, and_true] at ha
    subst ha
    simp only [Prod.mk.injEq] at hd
    obtain ⟨hd, _⟩ := hd
    rw [hd] at hz
    obtain ⟨es, hes⟩ := rows_opened (y := y1) h1 (fun x hx => hz x (by
      simp only [DataW.weights, Tryd.underlying24, DataW.weightsEach, List.map_cons, List.map_nil, List.mem_append]
      exact Or.inr (Or.inl hx)))
    exact ⟨many, b, es, rfl, hes⟩
end
end Go.Proofs.YtceiaekkfabeaaaDoor

/- What a law's row wants of the laws: the library's table, the arguments read behind the call as before. -/
namespace Go.Proofs.YtceiaekkfabeaaaDoor
open Go.ChangeShapes Go.WideShapes Go.ChangeAt Go.RowKit Go.Deep Pl

theorem ownKnob_none : ownKnob Tryd.prog.godebug = none := by kernel_rfl
theorem gTab : Tryd.prog.globalNamed "math/bits.deBruijn64tab" = some 0 := by kernel_rfl
theorem gTabType : (Tryd.prog.globals[0]?).map (·.type) = some 128 := by kernel_rfl
theorem cells128 : Tryd.prog.cellsOf 128 = 64 := by kernel_rfl
theorem cells5 : Tryd.prog.cellsOf 5 = 1 := by kernel_rfl
theorem laidOutT : laidOutB Tryd.prog = true := by kernel_rfl
theorem tab_same : (Lib.deBruijn64tab.map fun (n : Nat) => (n : Int)).length = 64 := by decide

/-- What the row lists: the library's table. -/
theorem tabW_of {W : World} (h : laidMetH Tryd.prog [("math/bits.deBruijn64tab", Rows.laid_math_bits_deBruijn64tab)] W) : TabW W := by
  have hT : Lib.TabIs Tryd.prog W "math/bits.deBruijn64tab" .u8 (Lib.deBruijn64tab.map fun (n : Nat) => (n : Int)) :=
    Lib.tabIs_of_head (rest := []) gTab gTabType Tryd.underlying128 Tryd.underlying5 cells5 cells128 h
  intro j hj
  have hj' : j < (Lib.deBruijn64tab.map fun (n : Nat) => (n : Int)).length := by rw [List.length_map]; exact hj
  have := hT.cell gTab j hj'
  rw [this]
  congr 2
  rw [List.getD_eq_getElem?_getD, List.getD_eq_getElem?_getD, List.getElem?_map, List.getElem?_eq_getElem hj]; rfl

section
variable {H : Type} {enc : TypeId × Value → H} {W W' : World}
/-- All arguments read as they did. -/
theorem trodAll_below : ∀ {ts : List TypeId} {vs : List Value} {ds : List (DataW H)} {ps : List MemPlace}, (∀ t ∈ ts, Tryd.prog.readableRec t = true ∧ t < Tryd.prog.types.size) → DataW.TrodAll enc Tryd.prog W 0 (fun _ => true) true ts vs ds ps →
    Below W.heap.size W W' → (∀ x ∈ ps, x.block < W.heap.size) → DataW.TrodAll enc Tryd.prog W' 0 (fun b => decide (b < W.heap.size)) true ts vs ds ps
  | [], [], [], _, _, h, _, _ => h
  | t :: ts, v :: vs, d :: ds, ps, ht, ⟨p, q, h1, h2, h3⟩, hb, hlt => by
    subst h3
    exact ⟨p, q, Below.trod laidOutT (ht t (by simp)).1 (ht t (by simp)).2 h1 hb (fun x hx => hlt x (by simp [hx])), trodAll_below (fun t' ht' => ht t' (by simp [ht'])) h2 hb (fun x hx => hlt x (by simp [hx])), rfl⟩
  | [], [], _ :: _, _, _, h, _, _ => h.elim
  | [], _ :: _, _, _, _, h, _, _ => h.elim
  | _ :: _, [], _, _, _, h, _, _ => h.elim
  | _ :: _, _ :: _, [], _, _, h, _, _ => h.elim
/-- A law that answers true, and turns nothing that was there. -/
theorem law_post {f : Func} {s : ChangeSpec} {args : Array Value} {ds gs : List (DataW H)} {before : List MemPlace} (hr : f.resultTypes = #[4]) (hs : s.vars = []) (hfn : s.fn H (ds ++ gs) = { results := [.lit (.bool true)], args := ds })
    (hp : ∀ t ∈ f.params.toList, Tryd.prog.readableRec t = true ∧ t < Tryd.prog.types.size) (hW : DataW.Whole enc Tryd.prog f.params.toList s.vars false W args.toList ds gs before) (hx : Ext No W W') :
    s.post enc Tryd.prog f false true false false W args (.bool true) W' := by
  have hlt := fun p hp => hW.lt p hp
  have hW2 := hW
  obtain ⟨p, q, hA, hV, hb, _, _⟩ := hW2
  have hq : gs = [] ∧ q = [] := by
    rw [hs] at hV
    match gs, q, hV with
    | [], [], _ => exact ⟨rfl, rfl⟩
    | [], _ :: _, h => exact absurd h (by simp [DataW.TrodVars])
    | _ :: _, _, h => exact absurd h (by simp [DataW.TrodVars])
  obtain ⟨hgs, hq⟩ := hq
  subst hq
  rw [List.append_nil] at hb
  refine ⟨ds, gs, before, [], p, [], hW, ?_, ?_, ?_, (hx.below).frame _, fun h => by cases h⟩
  · rw [hfn, hr]
    exact trodAll_cons_mk (shut_bool Tryd.underlying4 _) trodAll_mk0
  · rw [hfn]
    exact trodAll_below hp hA hx.below (fun x hx => by simpa using hlt x (hb ▸ hx))
  · rw [hs, hfn]
    simp [DataW.TrodVars]
end

/-- A world for the witness: the settled one, the library's table lying in block 0. -/
noncomputable def laidWorld (os : Os) : World :=
  { World.holding Tryd.prog os ⟨#[], #[], []⟩ with heap := (World.holding Tryd.prog os ⟨#[], #[], []⟩).heap.modify 0 fun
      | .cells _ t frozen => .cells (Lib.deBruijn64tab.map fun (n : Nat) => Value.int .u8 (n : Int)).toArray t frozen
      | o => o }
end Go.Proofs.YtceiaekkfabeaaaDoor

/- A row's bags, opened. -/
namespace Go.Proofs.YtceiaekkfabeaaaDoor
open Go.ChangeShapes Go.WideShapes Go.ChangeAt Go.RowKit Go.Deep Pl

section
variable {H : Type} {enc : TypeId × Value → H} {w : World}
set_option maxRecDepth 100000 in
/-- One bag's cells. -/
theorem bag_opened {n : Nat} {cs : List Value} {y : DataW H × List MemPlace} (h : DataW.trod enc Tryd.prog w 0 (fun _ => true) true n 51 cs = some y) (hl : cs.length = 3) (hz : ∀ x ∈ y.1.weights Tryd.prog 51, x ≤ reachBytes) :
    ∃ b : Bag, ∃ u1 u2, cs = [u1, u2, .int .i64 b.parent] ∧ IntsR .i64 (fun _ => True) w u1 b.vs ∧ IntsR .i64 (fun _ => True) w u2 b.es := by
  obtain ⟨y0, y1, y2, n', rfl, _, h0, h1, h2⟩ := trod_struct3 Tryd.underlying51 h
  match cs, hl with
  | [a, b, c], _ =>
    simp only [cells3, cells28, List.drop_zero, List.take_succ_cons, List.take_zero, List.drop_succ_cons] at h0 h1 h2
    obtain ⟨p, hp, _, _⟩ := DataW.trod_int Tryd.underlying3 h2
    simp only [List.cons.injEq, and_true] at hp
    subst hp
    obtain ⟨vs, hvs⟩ := ints_opened (y := y0) h0 (fun x hx => hz x (by
      simp only [DataW.weights, Tryd.underlying51, DataW.weightsEach, List.map_cons, List.map_nil, List.mem_append]
      exact Or.inl hx))
    obtain ⟨es, hes⟩ := ints_opened (y := y1) h1 (fun x hx => hz x (by
      simp only [DataW.weights, Tryd.underlying51, DataW.weightsEach, List.map_cons, List.map_nil, List.mem_append]
      exact Or.inr (Or.inl hx)))
    exact ⟨⟨vs, es, p⟩, a, b, rfl, hvs, hes⟩
/-- A row of bags that came in. -/
theorem bags_opened {n : Nat} {v : Value} {y : DataW H × List MemPlace} (h : DataW.trod enc Tryd.prog w 0 (fun _ => true) true n 42 [v] = some y) (hz : ∀ x ∈ y.1.weights Tryd.prog 42, x ≤ reachBytes) : ∃ bs, BagsR (fun _ => True) w v bs := by
  rcases open_slice Tryd.underlying42 h with ⟨hcs, _⟩ | ⟨a, len, cap, m, n', D, Pl, hcs, hb, hl, hm, hmm, hy, hx⟩
  · simp only [List.cons.injEq, and_true] at hcs
    subst hcs
    exact ⟨[], none, 0, rfl, ⟨Nat.le_refl _, fun _ => rfl⟩, by simp, fun hp => by simp at hp⟩
  · simp only [List.cons.injEq, and_true] at hcs
    subst hcs
    simp only [if_true] at hmm
    rw [hy] at hz
    have hlen := slice_len Tryd.underlying42 hz
    rw [bytes51] at hlen
    simp only [List.length_map, List.length_range, reachBytes] at hlen
    rw [cells51] at hx
    have hch : ∀ i : Nat, ∃ b : Bag, i < len → ∃ u1 u2, w.cells? 0 (a.add (i * 3)) 3 = some [u1, u2, .int .i64 b.parent] ∧ IntsR .i64 (fun _ => True) w u1 b.vs ∧ IntsR .i64 (fun _ => True) w u2 b.es := fun i => by
      by_cases hi : i < len
      · obtain ⟨cs', hc1, hc2⟩ := hx i (by omega)
        obtain ⟨b, u1, u2, rfl, h1, h2⟩ := bag_opened hc2 (World.cells?_some hc1).2.1 (slice_elem Tryd.underlying42 hz (List.mem_map.2 ⟨i, List.mem_range.2 hi, rfl⟩))
        exact ⟨b, fun _ => ⟨u1, u2, hc1, h1, h2⟩⟩
      · exact ⟨⟨[], [], 0⟩, fun hh => absurd hh hi⟩
    obtain ⟨f, hf⟩ := Classical.axiomOfChoice hch
    refine ⟨(List.range len).map f, some a, cap, by simp, ⟨by simpa using hl, fun hh => by cases hh⟩, by simp; omega, fun hp => ?_⟩
    have hp' : 0 < len := by simpa using hp
    obtain ⟨v1, v2, hc0, _⟩ := hf 0 hp'
    have hc0 := (World.cells?_some hc0).2.2 0 (by omega)
    obtain ⟨b, off, sp⟩ := a
    have hsp : sp = none := by
      simp only [List.getElem?_cons_zero] at hc0
      simpa [Addr.add] using World.cell?_spot hc0
    subst hsp
    refine ⟨_, rfl, trivial, rfl, fun j hj => ?_⟩
    have hj' : j < len := by simpa using hj
    obtain ⟨u1, u2, hc, h1, h2⟩ := hf j hj'
    refine ⟨[u1, u2, .int .i64 (f j).parent], ⟨u1, u2, by simp, by simpa using h1, by simpa using h2⟩, rfl, fun i u hu => ?_⟩
    have hi3 : i < 3 := by have := (List.getElem?_eq_some_iff.1 hu).1; simpa using this
    have := (World.cells?_some hc).2.2 i hi3
    rw [hu] at this
    rw [← this, addr_add, addr_add]
    simp only [Nat.add_assoc]
end
end Go.Proofs.YtceiaekkfabeaaaDoor

/- The first bag that has an edge's vertices; the law's own 'all'. -/
namespace Go.Proofs.YtceiaekkfabeaaaDoor
open Go.RowKit Pl

set_option maxHeartbeats 1000000 in
theorem idxBags_any {P : Nat → Prop} (g : Nat) (hg : Enters g) (caps : Array Value) (f : Bag → Bool) (v : Value) (S : List Bag) (w : World) (hv : BagsR P w v S)
    (hf : ∀ (u1 u2 : Value) (s : Bag) (wx : World), Ext No w wx → s ∈ S → IntsR .i64 P wx u1 s.vs → IntsR .i64 P wx u2 s.es → Calls Tryd.prog g (#[.agg #[u1, u2, .int .i64 s.parent]] ++ caps) wx fun e w' => e = .returned (.bool (f s)) ∧ Ext No wx w') :
    Calls Tryd.prog 54 #[v, .func (.func g) #[] caps] w fun e w' => e = .returned (.int .i64 (idxF f S)) ∧ Ext No w w' := by
  obtain ⟨A, c, rfl, hc, hm, hat⟩ := hv.at
  have HAT := Sid.mk hat
  have HF := Sid.mk hf
  clear hat hv hf
  unfold Enters at hg
  go_enter Tryd.func54, Tryd.ntmps54
  go_wp2
  go_loopw [8] (fun i wr => ∃ k : Nat, k ≤ S.length ∧ i = .int .i64 k ∧ Sid (∀ i y, i < k → S[i]? = some y → f y = false) ∧ Sid (Ext No w wr)) (fun i _ => S.length - (intOf i).toNat)
  case atStart => exact ⟨0, Nat.zero_le _, rfl, ⟨fun i y hi => by omega⟩, ⟨Ext.refl _ _⟩⟩
  case round =>
    obtain ⟨k, hk, rfl, HS, HX⟩ := hrel
    by_cases hlt : k < S.length
    · obtain ⟨b, off, A1, c1, A2, c2, vs, es, p, rfl, _, q0, q1, q2, HB, HI1, HI2⟩ := HAT.out k hlt
      have hq0 := HX.out.no q0
      have hq1 := HX.out.no q1
      have hq2 := HX.out.no q2
      clear q0 q1 q2
      cases hb : f ⟨vs, es, p⟩ with
      | true =>
        have HH := Sid.mk hb
        clear hb
        go_wp2_with (refine (HF.out _ _ ⟨vs, es, p⟩ _ HX.out (List.mem_of_getElem? HB.out) (HI1.out.no HX.out) (HI2.out.no HX.out)).mono ?_; rintro e w1 ⟨rfl, hx1⟩; rw [HH.out]; have HX1 := Sid.mk hx1; clear hx1)
        go_ret
        exact ⟨ret_int (idxF_at HS.out HB.out HH.out).symm, HX.out.trans HX1.out⟩
      | false =>
        have HH := Sid.mk hb
        clear hb
        go_wp2_with (refine (HF.out _ _ ⟨vs, es, p⟩ _ HX.out (List.mem_of_getElem? HB.out) (HI1.out.no HX.out) (HI2.out.no HX.out)).mono ?_; rintro e w1 ⟨rfl, hx1⟩; rw [HH.out]; have HX1 := Sid.mk hx1; clear hx1)
        go_roundw
        case rel => exact ⟨k + 1, by omega, by go_num, ⟨fun i y hi hy => by
          by_cases hik : i = k
          · subst hik; rw [HB.out] at hy; cases hy; exact HH.out
          · exact HS.out i y (by omega) hy⟩, ⟨HX.out.trans HX1.out⟩⟩
        case measure => simp [intOf]; omega
    · go_wp2
      go_ret
      exact ⟨ret_int (idxF_none (fun i y hy => HS.out i y (by have := (List.getElem?_eq_some_iff.1 hy).1; omega) hy)).symm, HX.out⟩

set_option maxHeartbeats 1000000 in
theorem idxInts_any {P : Nat → Prop} (g : Nat) (hg : Enters g) (caps : Array Value) (f : Int → Bool) (v : Value) (S : List Int) (w : World) (hv : IntsR .i64 P w v S)
    (hf : ∀ (s : Int) (wx : World), Ext No w wx → s ∈ S → Calls Tryd.prog g (#[.int .i64 s] ++ caps) wx fun e w' => e = .returned (.bool (f s)) ∧ Ext No wx w') :
    Calls Tryd.prog 81 #[v, .func (.func g) #[] caps] w fun e w' => e = .returned (.int .i64 (idxF f S)) ∧ Ext No w w' := by
  obtain ⟨A, c, rfl, _, hm, hat⟩ := hv.at
  have HAT := Sid.mk hat
  have HF := Sid.mk hf
  clear hat hv hf
  unfold Enters at hg
  go_enter Tryd.func81, Tryd.ntmps81
  go_wp2
  go_loopw [8] (fun i wr => ∃ k : Nat, k ≤ S.length ∧ i = .int .i64 k ∧ Sid (∀ i y, i < k → S[i]? = some y → f y = false) ∧ Sid (Ext No w wr)) (fun i _ => S.length - (intOf i).toNat)
  case atStart => exact ⟨0, Nat.zero_le _, rfl, ⟨fun i y hi => by omega⟩, ⟨Ext.refl _ _⟩⟩
  case round =>
    obtain ⟨k, hk, rfl, HS, HX⟩ := hrel
    by_cases hlt : k < S.length
    · obtain ⟨b, off, x, rfl, _, hcell0, HB⟩ := HAT.out k hlt
      have hcell := HX.out.no hcell0
      clear hcell0
      cases hb : f x with
      | true =>
        have HH := Sid.mk hb
        clear hb
        go_wp2_with (refine (HF.out x _ HX.out (List.mem_of_getElem? HB.out)).mono ?_; rintro e w1 ⟨rfl, hx1⟩; rw [HH.out]; have HX1 := Sid.mk hx1; clear hx1)
        go_ret
        exact ⟨ret_int (idxF_at HS.out HB.out HH.out).symm, HX.out.trans HX1.out⟩
      | false =>
        have HH := Sid.mk hb
        clear hb
        go_wp2_with (refine (HF.out x _ HX.out (List.mem_of_getElem? HB.out)).mono ?_; rintro e w1 ⟨rfl, hx1⟩; rw [HH.out]; have HX1 := Sid.mk hx1; clear hx1)
        go_roundw
        case rel => exact ⟨k + 1, by omega, by go_num, ⟨fun i y hi hy => by
          by_cases hik : i = k
          · subst hik; rw [HB.out] at hy; cases hy; exact HH.out
          · exact HS.out i y (by omega) hy⟩, ⟨HX.out.trans HX1.out⟩⟩
        case measure => simp [intOf]; omega
    · go_wp2
      go_ret
      exact ⟨ret_int (idxF_none (fun i y hy => HS.out i y (by have := (List.getElem?_eq_some_iff.1 hy).1; omega) hy)).symm, HX.out⟩
theorem hasInts_any {P : Nat → Prop} (g : Nat) (hg : Enters g) (caps : Array Value) (f : Int → Bool) (v : Value) (S : List Int) (w : World) (hv : IntsR .i64 P w v S)
    (hf : ∀ (s : Int) (wx : World), Ext No w wx → s ∈ S → Calls Tryd.prog g (#[.int .i64 s] ++ caps) wx fun e w' => e = .returned (.bool (f s)) ∧ Ext No wx w') :
    Calls Tryd.prog 56 #[v, .func (.func g) #[] caps] w fun e w' => e = .returned (.bool (S.any f)) ∧ Ext No w w' := by
  obtain ⟨A, c, rfl, _⟩ := hv.at
  have HV := Sid.mk hv
  have HF := Sid.mk hf
  clear hv hf
  go_enter Tryd.func56, Tryd.ntmps56
  go_wp2_with (go_at_call 81; refine (idxInts_any g hg caps f _ S _ HV.out HF.out).mono ?_; rintro e w1 ⟨rfl, hx1⟩; have HX1 := Sid.mk hx1; clear hx1)
  go_ret
  exact ⟨ret_bool idxF_any, HX1.out⟩

set_option maxHeartbeats 1000000 in
theorem index_any {P : Nat → Prop} (v : Value) (S : List Int) (n : Int) (w : World) (hv : IntsR .i64 P w v S) :
    Calls Tryd.prog 58 #[v, .int .i64 n] w fun e w' => e = .returned (.int .i64 (idxF (fun x => n == x) S)) ∧ w = w' := by
  obtain ⟨A, c, rfl, _, hm, hat⟩ := hv.at
  have HAT := Sid.mk hat
  clear hat hv
  go_enter Tryd.func58, Tryd.ntmps58
  go_wp2
  go_loop [8] (fun i => ∃ k : Nat, k ≤ S.length ∧ i = .int .i64 k ∧ Sid (∀ i y, i < k → S[i]? = some y → (n == y) = false)) (fun i => S.length - (intOf i).toNat)
  case atStart => exact ⟨0, Nat.zero_le _, rfl, ⟨fun i y hi => by omega⟩⟩
  case round =>
    obtain ⟨k, hk, rfl, HS⟩ := hrel
    by_cases hlt : k < S.length
    · obtain ⟨b, off, x, rfl, _, hcell, HB⟩ := HAT.out k hlt
      cases hb : n == x with
      | true =>
        have HH := Sid.mk hb
        go_wp2
        go_ret
        exact ⟨ret_int (idxF_at (f := fun x => n == x) HS.out HB.out HH.out).symm, rfl⟩
      | false =>
        have HH := Sid.mk hb
        go_wp2
        go_round
        case rel => exact ⟨k + 1, by omega, by go_num, ⟨fun i y hi hy => by
          by_cases hik : i = k
          · subst hik; rw [HB.out] at hy; cases hy; exact HH.out
          · exact HS.out i y (by omega) hy⟩⟩
        case measure => simp [intOf]; omega
    · go_wp2
      go_ret
      exact ⟨ret_int (idxF_none (f := fun x => n == x) (fun i y hy => HS.out i y (by have := (List.getElem?_eq_some_iff.1 hy).1; omega) hy)).symm, rfl⟩
theorem contains_any {P : Nat → Prop} (v : Value) (S : List Int) (n : Int) (w : World) (hv : IntsR .i64 P w v S) :
    Calls Tryd.prog 26 #[v, .int .i64 n] w fun e w' => e = .returned (.bool (hasB S n)) ∧ w = w' := by
  obtain ⟨A, c, rfl, _⟩ := hv.at
  have HV := Sid.mk hv
  clear hv
  go_enter Tryd.func26, Tryd.ntmps26
  go_wp2_with (go_at_call 58; refine (index_any _ S n _ HV.out).mono ?_; rintro e w1 ⟨rfl, rfl⟩)
  go_ret
  exact ⟨ret_bool (idxF_any.trans (by rw [hasB, List.contains_eq_any_beq])), rfl⟩
theorem enters57 : Enters 57 := fun l w => by kernel_rfl
theorem not_in_any {P : Nat → Prop} (Bx : Nat) (v : Value) (S : List Int) (n : Int) (w : World) (hb : w.cell? ⟨Bx, 0, none⟩ = some v) (hv : IntsR .i64 P w v S) :
    Calls Tryd.prog 57 #[.int .i64 n, .pointer (some ⟨Bx, 0, none⟩)] w fun e w' => e = .returned (.bool (!hasB S n)) ∧ Ext No w w' := by
  obtain ⟨A, c, rfl, _⟩ := hv.at
  have HV := Sid.mk hv
  clear hv
  go_enter Tryd.func57, Tryd.ntmps57
  go_wp2_with (go_at_call 26; refine (contains_any _ S n _ HV.out).mono ?_; rintro e w1 ⟨rfl, rfl⟩)
  go_ret
  exact ⟨rfl, Ext.refl _ _⟩
theorem all_any {P P1 : Nat → Prop} (v u : Value) (l m : List Int) (w : World) (hv : IntsR .i64 P w v l) (hu : IntsR .i64 P1 w u m) :
    Calls Tryd.prog 25 #[v, u] w fun e w' => e = .returned (.bool (withinB l m)) ∧ Ext No w w' := by
  obtain ⟨A, c, rfl, _⟩ := hv.at
  obtain ⟨A1, c1, rfl, _⟩ := hu.at
  have HV := Sid.mk hv
  have HU := Sid.mk hu
  clear hv hu
  have HBX : Sid (∀ w', Ext No (w.alloc (.cells #[.slice A1 m.length c1] 28)) w' → w'.cell? ⟨w.heap.size, 0, none⟩ = some (.slice A1 m.length c1)) := ⟨fun w' hx => hx.no (by simp)⟩
  go_enter Tryd.func25, Tryd.ntmps25
  go_wp2_with (go_at_call 56; refine (hasInts_any 57 enters57 #[.pointer (some ⟨w.heap.size, 0, none⟩)] (fun n => !hasB m n) _ l _ (HV.out.no (ext_box _)) (fun s wx hx _ => not_in_any w.heap.size _ m s wx (HBX.out _ hx) (HU.out.no ((ext_box _).trans hx)))).mono ?_; rintro e w1 ⟨rfl, hx1⟩; have HX1 := Sid.mk hx1; clear hx1)
  go_ret
  refine ⟨ret_bool ?_, (ext_box _).trans HX1.out⟩
  rw [withinB, allB, List.all_eq_not_any_not]

/-- Has a bag all of a set? -/
def homeB (want : Nat) (b : Bag) : Bool := sdn want (ofTo b.vs) == 0
set_option maxHeartbeats 1000000 in
theorem homeIn_any {P : Nat → Prop} (want Bx : Nat) (u1 u2 : Value) (b : Bag) (w : World) (hw : want < 4294967296) (hb : w.cell? ⟨Bx, 0, none⟩ = some (.int .u64 (want : Int))) (h1 : IntsR .i64 P w u1 b.vs) (h2 : IntsR .i64 P w u2 b.es) (hs : smallL b.vs) :
    Calls Tryd.prog 55 #[.agg #[u1, u2, .int .i64 b.parent], .pointer (some ⟨Bx, 0, none⟩)] w fun e w' => e = .returned (.bool (homeB want b)) ∧ Ext No w w' := by
  obtain ⟨A1, c1, rfl, _⟩ := h1.at
  obtain ⟨A2, c2, rfl, _⟩ := h2.at
  have H1 := Sid.mk h1
  have HS := Sid.mk hs
  have hd : (bits .andNot .u64 (want : Int) (ofTo b.vs : Int) == 0) = homeB want b := by
    rw [andNot_u64 hw (ofTo_lt hs), homeB]
    cases h : sdn want (ofTo b.vs) == 0 with
    | true => rw [beq_iff_eq] at h; rw [h]; rfl
    | false => rw [beq_eq_false_iff_ne] at h ⊢; omega
  have hbw := (ext_box (w := w) (.cells #[.slice A1 b.vs.length c1, .slice A2 b.es.length c2, .int .i64 b.parent] 51)).no hb
  clear h1 h2 hs hb
  go_enter Tryd.func55, Tryd.ntmps55
  go_wp2
  go_quiet ((go_at_call 34; exact Calls.quiet_of_same ((of_any _ b.vs _ (H1.out.no ((ext_box _).drewN _)) HS.out).mono (fun _ _ h => ⟨h.1, h.2.symm⟩))))
  go_wp2
  go_ret
  exact ⟨rfl, (ext_box _).drewN _⟩

/-- What Home answers: the place, the error. -/
def homeA (many : Int) (es : List (List Int)) (bs : List Bag) (edge : Int) : Int × Int :=
  if checkE many es bs ≠ 0 then (0, checkE many es bs) else if edge < 0 ∨ (es.length : Int) ≤ edge then (0, 2) else (idxF (homeB (ofTo (edgeAt es edge))) bs, 0)
theorem checkE_ok {many : Int} {es : List (List Int)} {bs : List Bag} (h : checkE many es bs = 0) : hyperB many es = true ∧ shapedB many es.length bs = true ∧ ∀ b ∈ bs, smallL b.vs := by
  have h1 : hyperB many es = true := by
    cases hh : hyperB many es with
    | true => rfl
    | false => rw [checkE, if_pos hh] at h; cases h
  have h2 : shapedB many es.length bs = true := by
    cases hh : shapedB many es.length bs with
    | true => rfl
    | false => rw [checkE, if_neg (by simp [h1]), if_pos hh] at h; cases h
  refine ⟨h1, h2, fun b hb => ?_⟩
  simp only [shapedB, Bool.and_eq_true, decide_eq_true_eq] at h2
  obtain ⟨i, hi⟩ := List.mem_iff_getElem?.1 hb
  have := allI_iff.1 h2.2 i b hi
  simp only [bagFormB, Bool.and_eq_true, decide_eq_true_eq, Nat.zero_add] at this
  exact risesB_small this.1.1.1 (hyperB_parts h1).2.1
set_option maxHeartbeats 4000000 in
set_option maxRecDepth 100000 in
theorem Home_any {P P1 : Nat → Prop} (many : Int) (ev bv : Value) (es : List (List Int)) (bs : List Bag) (edge : Int) (w : World) (he : RowsR P w ev es) (hv : BagsR P1 w bv bs) :
    Calls Tryd.prog 24 #[.agg #[.int .i64 many, ev], bv, .int .i64 edge] w fun e w' => e = .returned (.tuple #[.int .i64 (homeA many es bs edge).1, .int .i64 (homeA many es bs edge).2]) ∧ Ext No w w' := by
  obtain ⟨A, c, rfl, hc, hm, hat⟩ := he.at
  obtain ⟨A1, c1, rfl, _⟩ := hv.at
  have HE := Sid.mk he
  have HV := Sid.mk hv
  have HAT := Sid.mk hat
  clear hat he hv
  have HB0 : Sid (∀ w', Ext No (w.alloc (.cells #[.int .i64 many, .slice A es.length c] 24)) w' → w'.cell? ⟨w.heap.size, 0, none⟩ = some (.int .i64 many) ∧ w'.cell? ⟨w.heap.size, 1, none⟩ = some (.slice A es.length c)) := ⟨fun w' hx => ⟨hx.no (by simp), hx.no (by simp)⟩⟩
  by_cases hce : checkE many es bs = 0
  · obtain ⟨g1, g2, g3⟩ := checkE_ok hce
    have HSB := Sid.mk g3
    have HSE : Sid (smallE es) := ⟨hyperB_small g1⟩
    have HCE := Sid.mk hce
    by_cases h0 : edge < 0
    · have HA : Sid (homeA many es bs edge = (0, 2)) := ⟨by rw [homeA, if_neg (by simp [hce]), if_pos (Or.inl h0)]⟩
      clear hce g1 g2 g3
      go_enter Tryd.func24, Tryd.ntmps24
      go_wp2_with (go_at_call 23; refine (Check_any many _ _ es bs _ (HE.out.no (ext_box _)) (HV.out.no (ext_box _))).mono ?_; rintro e w1 ⟨rfl, hx1⟩; rw [HCE.out]; have q0 := (HB0.out _ hx1).1; have q1 := (HB0.out _ hx1).2; have HX1 := Sid.mk hx1; clear hx1)
      go_ret2
      exact ⟨ret_pair (by simp only [HA.out]; rfl) (by simp only [HA.out]; rfl), (ext_box _).trans HX1.out⟩
    · by_cases h1 : (es.length : Int) ≤ edge
      · have HA : Sid (homeA many es bs edge = (0, 2)) := ⟨by rw [homeA, if_neg (by simp [hce]), if_pos (Or.inr h1)]⟩
        clear hce g1 g2 g3
        go_enter Tryd.func24, Tryd.ntmps24
        go_wp2_with (go_at_call 23; refine (Check_any many _ _ es bs _ (HE.out.no (ext_box _)) (HV.out.no (ext_box _))).mono ?_; rintro e w1 ⟨rfl, hx1⟩; rw [HCE.out]; have q0 := (HB0.out _ hx1).1; have q1 := (HB0.out _ hx1).2; have HX1 := Sid.mk hx1; clear hx1)
        go_ret2
        exact ⟨ret_pair (by simp only [HA.out]; rfl) (by simp only [HA.out]; rfl), (ext_box _).trans HX1.out⟩
      · obtain ⟨n, rfl⟩ := Int.eq_ofNat_of_zero_le (by omega : 0 ≤ edge)
        have hnl : n < es.length := by omega
        obtain ⟨b, off, A', c', r, rfl, _, hcell0, HR', HI'⟩ := HAT.out n hnl
        have HEA : Sid (edgeAt es (n : Int) = r) := ⟨edgeAt_of rfl HR'.out⟩
        have HA : Sid (homeA many es bs (n : Int) = (idxF (homeB (ofTo r)) bs, 0)) := ⟨by rw [homeA, if_neg (by simp [hce]), if_neg (by omega), HEA.out]⟩
        have HSM : Sid (smallL r) := ⟨HSE.out r (List.mem_of_getElem? HR'.out)⟩
        have HC0 := Sid.mk hcell0
        clear hce g1 g2 g3 hcell0
        go_enter Tryd.func24, Tryd.ntmps24
        go_wp2_with (first
          | (go_at_call 23; refine (Check_any many _ _ es bs _ (HE.out.no (ext_box _)) (HV.out.no (ext_box _))).mono ?_; rintro e w1 ⟨rfl, hx1⟩; rw [HCE.out]; have q0 := (HB0.out _ hx1).1; have q1 := (HB0.out _ hx1).2; have q2 := ((ext_box _).trans hx1).no HC0.out; have HX1 : Sid (Ext No w w1) := ⟨(ext_box _).trans hx1⟩; clear hx1)
          | (go_at_call 34; refine (of_any _ r _ (HI'.out.no HX1.out) HSM.out).mono ?_; rintro e w2 ⟨rfl, rfl⟩)
          | (go_at_call 54; refine (idxBags_any 55 enters55 #[.pointer (some ⟨w1.heap.size, 0, none⟩)] (homeB (ofTo r)) _ bs _ (HV.out.no (HX1.out.trans (ext_box _))) (fun u1 u2 s wx hx hs h1 h2 => homeIn_any (ofTo r) w1.heap.size u1 u2 s wx (ofTo_lt HSM.out) (hx.no (by simp)) h1 h2 (HSB.out s hs))).mono ?_; rintro e w3 ⟨rfl, hx3⟩; have HX3 := Sid.mk hx3; clear hx3))
        go_ret2
        exact ⟨ret_pair (by simp only [HA.out]; rfl) (by simp only [HA.out]; rfl), HX1.out.trans ((ext_box _).trans HX3.out)⟩
  · have HA : Sid (homeA many es bs edge = (0, checkE many es bs)) := ⟨by rw [homeA, if_pos hce]⟩
    have hne : (checkE many es bs != 0) = true := by simpa using hce
    clear hce
    go_enter Tryd.func24, Tryd.ntmps24
    go_wp2_with (go_at_call 23; refine (Check_any many _ _ es bs _ (HE.out.no (ext_box _)) (HV.out.no (ext_box _))).mono ?_; rintro e w1 ⟨rfl, hx1⟩; have HX1 := Sid.mk hx1; clear hx1)
    go_ret2
    exact ⟨ret_pair (by simp only [HA.out]; rfl) (by simp only [HA.out]; rfl), (ext_box _).trans HX1.out⟩
end Go.Proofs.YtceiaekkfabeaaaDoor
