/- Words and contracts for: DecompAcyclic: for every hypergraph the law answers true, and its arguments read as before. No condition; the library's table math/bits.deBruijn64tab is laid by its text. -/
import Derived.Test.YtceiaekkfabeaaaDoorCards
import Derived.Test.YtceiaekkfabeaaaDoorTie
import Derived.WalkKit
import Derived.ProofKit
import Derived.OpenShut
import Derived.Deep.Slices
import Derived.Deep.Strs
import Derived.Deep.DeepHandedRow
import Derived.Lib.LaidTab
import Derived.WideKeyArgs
import Derived.Test.YtceiaekkfabeaaaDoorZyi
/- Does the layer do anything? -/
namespace Go.Proofs.YtceiaekkfabeaaaDoor
open Go.RowKit Go.Shelf Pl

def ringE : List (List Int) := [[0, 1], [1, 2], [0, 2]]
theorem ring_least : leastA 3 ringE = (2, 0) := by decide +kernel
theorem ring_of1 : (ofA 3 ringE 1).1 = 4 := by decide +kernel
theorem ring_of2 : (ofA 3 ringE 2).1 = 0 ∧ widthTo 0 (ofA 3 ringE 2).2 ≤ 2 := by decide +kernel
theorem ring_cover : coverA 3 ringE [0, 1, 2] = (0, some [0, 1]) := by decide +kernel
theorem ring_one : checkE 3 ringE [⟨[0, 1, 2], [0, 1], -1⟩] = 0 := by decide +kernel
theorem ring_bad : checkE 3 ringE [⟨[0, 1, 2], [0], -1⟩] = 310 := by decide +kernel
theorem alloc_new (w : World) (o : Obj) : (w.alloc o).heap[w.heap.size]? = some o := World.alloc_heap_new w o

theorem bagsR_lit {P : Nat → Prop} {W : World} {b b1 b2 : Nat} {vs es : List Int} {p : Int} (h : W.heap[b]? = some (.cells #[.slice (some ⟨b1, 0, none⟩) vs.length vs.length, .slice (some ⟨b2, 0, none⟩) es.length es.length, .int .i64 p] 51))
    (h1 : W.heap[b1]? = some (.cells (vs.map (.int .i64)).toArray 3)) (h2 : W.heap[b2]? = some (.cells (es.map (.int .i64)).toArray 3)) (hl1 : vs.length ≤ 1000) (hl2 : es.length ≤ 1000) (hP : P b) (hP1 : P b1) (hP2 : P b2) :
    BagsR P W (.slice (some ⟨b, 0, none⟩) 1 1) [⟨vs, es, p⟩] := by
  refine ⟨some ⟨b, 0, none⟩, 1, rfl, ⟨Nat.le_refl _, fun h => by cases h⟩, by simp, fun _ => ⟨_, rfl, hP, rfl, fun j hj => ?_⟩⟩
  have hj0 : j = 0 := by simpa using hj
  subst hj0
  refine ⟨[.slice (some ⟨b1, 0, none⟩) vs.length vs.length, .slice (some ⟨b2, 0, none⟩) es.length es.length, .int .i64 p], ⟨_, _, rfl, intsR_lit vs h1 hl1 hP1, intsR_lit es h2 hl2 hP2⟩, rfl, fun i u hu => ?_⟩
  simp only [World.cell?, h]
  simpa using hu

set_option maxHeartbeats 4000000 in
set_option maxRecDepth 100000 in
theorem wakes_any (w : World) (hT : TabW w) : Calls Tryd.prog 8 #[] w fun e w' => e = .returned (.bool true) ∧ Ext No w w' := by
  have HT := Sid.mk hT
  clear hT
  have K1 := trivial
  go_enter Tryd.func8, Tryd.ntmps8
  go_wp2_with (first
    | (have := K1; go_at_call 31; refine (ring_any _).mono ?_; rintro e w1 ⟨ev1, rfl, hr, hx⟩; obtain ⟨A1, c1, rfl, _⟩ := hr.at; have HR1 : Sid (RowsR (fun _ => True) w1 (.slice A1 3 c1) ringE) := ⟨hr.imp (fun _ _ _ => trivial)⟩; clear hr; have HE1 : Sid (Ext No w w1) := ⟨Ext.trans (by first | exact Ext.refl _ _ | exact (Ext.refl No _).alloc _ | exact ((Ext.refl No _).alloc _).alloc _ | exact (((((Ext.refl No _).alloc _).alloc _).alloc _).alloc _).alloc _ | exact ((((((Ext.refl No _).alloc _).alloc _).alloc _).alloc _).alloc _).alloc _) hx⟩; clear hx; clear K1; have K2 := trivial)
    | (have := K2; go_at_call 16; refine (Least_any 3 _ ringE _ (HR1.out.no (by first | exact Ext.refl _ _ | exact (Ext.refl No _).alloc _ | exact ((Ext.refl No _).alloc _).alloc _ | exact (((((Ext.refl No _).alloc _).alloc _).alloc _).alloc _).alloc _ | exact ((((((Ext.refl No _).alloc _).alloc _).alloc _).alloc _).alloc _).alloc _)) (by omega) (HT.out.no ((HE1.out).trans (by first | exact Ext.refl _ _ | exact (Ext.refl No _).alloc _ | exact ((Ext.refl No _).alloc _).alloc _ | exact (((((Ext.refl No _).alloc _).alloc _).alloc _).alloc _).alloc _ | exact ((((((Ext.refl No _).alloc _).alloc _).alloc _).alloc _).alloc _).alloc _)))).mono ?_; rintro e w2 ⟨rfl, hx⟩; rw [ring_least]; have HE2 : Sid (Ext No w1 w2) := ⟨Ext.trans (by first | exact Ext.refl _ _ | exact (Ext.refl No _).alloc _ | exact ((Ext.refl No _).alloc _).alloc _ | exact (((((Ext.refl No _).alloc _).alloc _).alloc _).alloc _).alloc _ | exact ((((((Ext.refl No _).alloc _).alloc _).alloc _).alloc _).alloc _).alloc _) hx⟩; clear hx; clear K2; have K3 := trivial)
    | (have := K3; go_at_call 31; refine (ring_any _).mono ?_; rintro e w3 ⟨ev3, rfl, hr, hx⟩; obtain ⟨A3, c3, rfl, _⟩ := hr.at; have HR3 : Sid (RowsR (fun _ => True) w3 (.slice A3 3 c3) ringE) := ⟨hr.imp (fun _ _ _ => trivial)⟩; clear hr; have HE3 : Sid (Ext No w2 w3) := ⟨Ext.trans (by first | exact Ext.refl _ _ | exact (Ext.refl No _).alloc _ | exact ((Ext.refl No _).alloc _).alloc _ | exact (((((Ext.refl No _).alloc _).alloc _).alloc _).alloc _).alloc _ | exact ((((((Ext.refl No _).alloc _).alloc _).alloc _).alloc _).alloc _).alloc _) hx⟩; clear hx; clear K3; have K4 := trivial)
    | (have := K4; go_at_call 19; refine (Of_any 3 _ ringE 1 _ (HR3.out.no (by first | exact Ext.refl _ _ | exact (Ext.refl No _).alloc _ | exact ((Ext.refl No _).alloc _).alloc _ | exact (((((Ext.refl No _).alloc _).alloc _).alloc _).alloc _).alloc _ | exact ((((((Ext.refl No _).alloc _).alloc _).alloc _).alloc _).alloc _).alloc _)) (by omega) (HT.out.no ((((HE1.out).trans HE2.out).trans HE3.out).trans (by first | exact Ext.refl _ _ | exact (Ext.refl No _).alloc _ | exact ((Ext.refl No _).alloc _).alloc _ | exact (((((Ext.refl No _).alloc _).alloc _).alloc _).alloc _).alloc _ | exact ((((((Ext.refl No _).alloc _).alloc _).alloc _).alloc _).alloc _).alloc _)))).mono ?_; rintro e w4 ⟨v4, rfl, _, hx⟩; rw [ring_of1]; have HE4 : Sid (Ext No w3 w4) := ⟨Ext.trans (by first | exact Ext.refl _ _ | exact (Ext.refl No _).alloc _ | exact ((Ext.refl No _).alloc _).alloc _ | exact (((((Ext.refl No _).alloc _).alloc _).alloc _).alloc _).alloc _ | exact ((((((Ext.refl No _).alloc _).alloc _).alloc _).alloc _).alloc _).alloc _) hx⟩; clear hx; clear K4; have K5 := trivial)
    | (have := K5; go_at_call 31; refine (ring_any _).mono ?_; rintro e w5 ⟨ev5, rfl, hr, hx⟩; obtain ⟨A5, c5, rfl, _⟩ := hr.at; have HR5 : Sid (RowsR (fun _ => True) w5 (.slice A5 3 c5) ringE) := ⟨hr.imp (fun _ _ _ => trivial)⟩; clear hr; have HE5 : Sid (Ext No w4 w5) := ⟨Ext.trans (by first | exact Ext.refl _ _ | exact (Ext.refl No _).alloc _ | exact ((Ext.refl No _).alloc _).alloc _ | exact (((((Ext.refl No _).alloc _).alloc _).alloc _).alloc _).alloc _ | exact ((((((Ext.refl No _).alloc _).alloc _).alloc _).alloc _).alloc _).alloc _) hx⟩; clear hx; clear K5; have K6 := trivial)
    | (have := K6; go_at_call 19; refine (Of_any 3 _ ringE 2 _ (HR5.out.no (by first | exact Ext.refl _ _ | exact (Ext.refl No _).alloc _ | exact ((Ext.refl No _).alloc _).alloc _ | exact (((((Ext.refl No _).alloc _).alloc _).alloc _).alloc _).alloc _ | exact ((((((Ext.refl No _).alloc _).alloc _).alloc _).alloc _).alloc _).alloc _)) (by omega) (HT.out.no ((((((HE1.out).trans HE2.out).trans HE3.out).trans HE4.out).trans HE5.out).trans (by first | exact Ext.refl _ _ | exact (Ext.refl No _).alloc _ | exact ((Ext.refl No _).alloc _).alloc _ | exact (((((Ext.refl No _).alloc _).alloc _).alloc _).alloc _).alloc _ | exact ((((((Ext.refl No _).alloc _).alloc _).alloc _).alloc _).alloc _).alloc _)))).mono ?_; rintro e w6 ⟨v6, rfl, hb6, hx⟩; rw [ring_of2.1]; obtain ⟨L6, hL6⟩ : ∃ L6, L6 = (ofA 3 ringE 2).2 := ⟨_, rfl⟩; rw [← hL6] at hb6; obtain ⟨A6, c6, rfl, _⟩ := hb6.at; have HB6 := Sid.mk hb6; have HL6 : Sid (widthTo 0 L6 ≤ 2) := ⟨by rw [hL6]; exact ring_of2.2⟩; clear hb6 hL6; have HE6 : Sid (Ext No w5 w6) := ⟨Ext.trans (by first | exact Ext.refl _ _ | exact (Ext.refl No _).alloc _ | exact ((Ext.refl No _).alloc _).alloc _ | exact (((((Ext.refl No _).alloc _).alloc _).alloc _).alloc _).alloc _ | exact ((((((Ext.refl No _).alloc _).alloc _).alloc _).alloc _).alloc _).alloc _) hx⟩; clear hx; clear K6; have K7 := trivial)
    | (have := K7; go_at_call 31; refine (ring_any _).mono ?_; rintro e w7 ⟨ev7, rfl, hr, hx⟩; obtain ⟨A7, c7, rfl, _⟩ := hr.at; have HR7 : Sid (RowsR (fun _ => True) w7 (.slice A7 3 c7) ringE) := ⟨hr.imp (fun _ _ _ => trivial)⟩; clear hr; have HE7 : Sid (Ext No w6 w7) := ⟨Ext.trans (by first | exact Ext.refl _ _ | exact (Ext.refl No _).alloc _ | exact ((Ext.refl No _).alloc _).alloc _ | exact (((((Ext.refl No _).alloc _).alloc _).alloc _).alloc _).alloc _ | exact ((((((Ext.refl No _).alloc _).alloc _).alloc _).alloc _).alloc _).alloc _) hx⟩; clear hx; clear K7; have K8 := trivial)
    | (have := K8; go_at_call 11; refine (Cover_any (P1 := fun _ => True) 3 _ _ ringE [0, 1, 2] _ (HR7.out.no (by first | exact Ext.refl _ _ | exact (Ext.refl No _).alloc _ | exact ((Ext.refl No _).alloc _).alloc _ | exact (((((Ext.refl No _).alloc _).alloc _).alloc _).alloc _).alloc _ | exact ((((((Ext.refl No _).alloc _).alloc _).alloc _).alloc _).alloc _).alloc _)) (intsR_lit [0, 1, 2] (alloc_new _ _) (by simp) trivial)).mono ?_; rintro e w8 ⟨v8, rfl, hi8, hx⟩; rw [ring_cover] at hi8 ⊢; obtain ⟨A8, c8, rfl, _⟩ := IntsR.at (xs := [0, 1]) hi8; have HC8 : Sid (IntsR .i64 (fun _ => True) w8 (.slice A8 2 c8) [0, 1]) := ⟨IntsR.imp (xs := [0, 1]) hi8 (fun _ _ _ => trivial)⟩; clear hi8; have HE8 : Sid (Ext No w7 w8) := ⟨Ext.trans (by first | exact Ext.refl _ _ | exact (Ext.refl No _).alloc _ | exact ((Ext.refl No _).alloc _).alloc _ | exact (((((Ext.refl No _).alloc _).alloc _).alloc _).alloc _).alloc _ | exact ((((((Ext.refl No _).alloc _).alloc _).alloc _).alloc _).alloc _).alloc _) hx⟩; clear hx; clear K8; have K9 := trivial)
    | (have := K9; go_at_call 21; refine (Width_any _ L6 _ (HB6.out.no (((HE7.out).trans HE8.out).trans (by first | exact Ext.refl _ _ | exact (Ext.refl No _).alloc _ | exact ((Ext.refl No _).alloc _).alloc _ | exact (((((Ext.refl No _).alloc _).alloc _).alloc _).alloc _).alloc _ | exact ((((((Ext.refl No _).alloc _).alloc _).alloc _).alloc _).alloc _).alloc _)))).mono ?_; rintro e w9 ⟨rfl, hx⟩; have HBo : Sid (BagsR (fun _ => True) w9 (.slice (some ⟨w8.heap.size + 1 + 1, 0, none⟩) 1 1) [⟨[0, 1, 2], [0, 1], -1⟩]) := ⟨BagsR.no (bagsR_lit (b := w8.heap.size + 1 + 1) (b1 := w8.heap.size) (b2 := w8.heap.size + 1) (vs := [0, 1, 2]) (es := [0, 1]) (p := -1) (by simp only [alloc_at, World.size_alloc]; simp [Nat.add_assoc]) (by simp only [alloc_at, World.size_alloc]; simp [Nat.add_assoc]) (by simp only [alloc_at, World.size_alloc]; simp [Nat.add_assoc]) (by simp) (by simp) trivial trivial trivial) hx⟩; have HBb : Sid (BagsR (fun _ => True) w9 (.slice (some ⟨w8.heap.size + 1 + 1 + 1 + 1 + 1, 0, none⟩) 1 1) [⟨[0, 1, 2], [0], -1⟩]) := ⟨BagsR.no (bagsR_lit (b := w8.heap.size + 1 + 1 + 1 + 1 + 1) (b1 := w8.heap.size + 1 + 1 + 1) (b2 := w8.heap.size + 1 + 1 + 1 + 1) (vs := [0, 1, 2]) (es := [0]) (p := -1) (by simp only [alloc_at, World.size_alloc]; simp [Nat.add_assoc]) (by simp only [alloc_at, World.size_alloc]; simp [Nat.add_assoc]) (by simp only [alloc_at, World.size_alloc]; simp [Nat.add_assoc]) (by simp) (by simp) trivial trivial trivial) hx⟩; have hwl := HL6.out; have HE9 : Sid (Ext No w8 w9) := ⟨Ext.trans (by first | exact Ext.refl _ _ | exact (Ext.refl No _).alloc _ | exact ((Ext.refl No _).alloc _).alloc _ | exact (((((Ext.refl No _).alloc _).alloc _).alloc _).alloc _).alloc _ | exact ((((((Ext.refl No _).alloc _).alloc _).alloc _).alloc _).alloc _).alloc _) hx⟩; clear hx; clear K9; have K10 := trivial)
    | (have := K10; go_at_call 15; refine (Equal_any (P1 := fun _ => True) _ _ [0, 1] [0, 1] _ (HC8.out.no ((HE9.out).trans (by first | exact Ext.refl _ _ | exact (Ext.refl No _).alloc _ | exact ((Ext.refl No _).alloc _).alloc _ | exact (((((Ext.refl No _).alloc _).alloc _).alloc _).alloc _).alloc _ | exact ((((((Ext.refl No _).alloc _).alloc _).alloc _).alloc _).alloc _).alloc _))) (intsR_lit [0, 1] (alloc_new _ _) (by simp) trivial)).mono ?_; rintro e w10 ⟨rfl, n, hw⟩; rw [show eqB [0, 1] [0, 1] = true from by decide]; have hx : Ext No _ w10 := hw ▸ (Ext.refl No _).drewN n; clear hw; have HE10 : Sid (Ext No w9 w10) := ⟨Ext.trans (by first | exact Ext.refl _ _ | exact (Ext.refl No _).alloc _ | exact ((Ext.refl No _).alloc _).alloc _ | exact (((((Ext.refl No _).alloc _).alloc _).alloc _).alloc _).alloc _ | exact ((((((Ext.refl No _).alloc _).alloc _).alloc _).alloc _).alloc _).alloc _) hx⟩; clear hx; clear K10; have K11 := trivial)
    | (have := K11; go_at_call 31; refine (ring_any _).mono ?_; rintro e w11 ⟨ev11, rfl, hr, hx⟩; obtain ⟨A11, c11, rfl, _⟩ := hr.at; have HR11 : Sid (RowsR (fun _ => True) w11 (.slice A11 3 c11) ringE) := ⟨hr.imp (fun _ _ _ => trivial)⟩; clear hr; have HE11 : Sid (Ext No w10 w11) := ⟨Ext.trans (by first | exact Ext.refl _ _ | exact (Ext.refl No _).alloc _ | exact ((Ext.refl No _).alloc _).alloc _ | exact (((((Ext.refl No _).alloc _).alloc _).alloc _).alloc _).alloc _ | exact ((((((Ext.refl No _).alloc _).alloc _).alloc _).alloc _).alloc _).alloc _) hx⟩; clear hx; clear K11; have K12 := trivial)
    | (have := K12; go_at_call 23; refine (Check_any 3 _ _ ringE [⟨[0, 1, 2], [0, 1], -1⟩] _ (HR11.out.no (by first | exact Ext.refl _ _ | exact (Ext.refl No _).alloc _ | exact ((Ext.refl No _).alloc _).alloc _ | exact (((((Ext.refl No _).alloc _).alloc _).alloc _).alloc _).alloc _ | exact ((((((Ext.refl No _).alloc _).alloc _).alloc _).alloc _).alloc _).alloc _)) (HBo.out.no (((HE10.out).trans HE11.out).trans (by first | exact Ext.refl _ _ | exact (Ext.refl No _).alloc _ | exact ((Ext.refl No _).alloc _).alloc _ | exact (((((Ext.refl No _).alloc _).alloc _).alloc _).alloc _).alloc _ | exact ((((((Ext.refl No _).alloc _).alloc _).alloc _).alloc _).alloc _).alloc _)))).mono ?_; rintro e w12 ⟨rfl, hx⟩; rw [ring_one]; have HE12 : Sid (Ext No w11 w12) := ⟨Ext.trans (by first | exact Ext.refl _ _ | exact (Ext.refl No _).alloc _ | exact ((Ext.refl No _).alloc _).alloc _ | exact (((((Ext.refl No _).alloc _).alloc _).alloc _).alloc _).alloc _ | exact ((((((Ext.refl No _).alloc _).alloc _).alloc _).alloc _).alloc _).alloc _) hx⟩; clear hx; clear K12; have K13 := trivial)
    | (have := K13; go_at_call 31; refine (ring_any _).mono ?_; rintro e w13 ⟨ev13, rfl, hr, hx⟩; obtain ⟨A13, c13, rfl, _⟩ := hr.at; have HR13 : Sid (RowsR (fun _ => True) w13 (.slice A13 3 c13) ringE) := ⟨hr.imp (fun _ _ _ => trivial)⟩; clear hr; have HE13 : Sid (Ext No w12 w13) := ⟨Ext.trans (by first | exact Ext.refl _ _ | exact (Ext.refl No _).alloc _ | exact ((Ext.refl No _).alloc _).alloc _ | exact (((((Ext.refl No _).alloc _).alloc _).alloc _).alloc _).alloc _ | exact ((((((Ext.refl No _).alloc _).alloc _).alloc _).alloc _).alloc _).alloc _) hx⟩; clear hx; clear K13; have K14 := trivial)
    | (have := K14; go_at_call 23; refine (Check_any 3 _ _ ringE [⟨[0, 1, 2], [0], -1⟩] _ (HR13.out.no (by first | exact Ext.refl _ _ | exact (Ext.refl No _).alloc _ | exact ((Ext.refl No _).alloc _).alloc _ | exact (((((Ext.refl No _).alloc _).alloc _).alloc _).alloc _).alloc _ | exact ((((((Ext.refl No _).alloc _).alloc _).alloc _).alloc _).alloc _).alloc _)) (HBb.out.no (((((HE10.out).trans HE11.out).trans HE12.out).trans HE13.out).trans (by first | exact Ext.refl _ _ | exact (Ext.refl No _).alloc _ | exact ((Ext.refl No _).alloc _).alloc _ | exact (((((Ext.refl No _).alloc _).alloc _).alloc _).alloc _).alloc _ | exact ((((((Ext.refl No _).alloc _).alloc _).alloc _).alloc _).alloc _).alloc _)))).mono ?_; rintro e w14 ⟨rfl, hx⟩; rw [ring_bad]; have HE14 : Sid (Ext No w13 w14) := ⟨Ext.trans (by first | exact Ext.refl _ _ | exact (Ext.refl No _).alloc _ | exact ((Ext.refl No _).alloc _).alloc _ | exact (((((Ext.refl No _).alloc _).alloc _).alloc _).alloc _).alloc _ | exact ((((((Ext.refl No _).alloc _).alloc _).alloc _).alloc _).alloc _).alloc _) hx⟩; clear hx; clear K14; have K15 := trivial))
  go_ret
  exact ⟨rfl, ((((((((((((((HE1.out).trans HE2.out).trans HE3.out).trans HE4.out).trans HE5.out).trans HE6.out).trans HE7.out).trans HE8.out).trans HE9.out).trans HE10.out).trans HE11.out).trans HE12.out).trans HE13.out).trans HE14.out)⟩
end Go.Proofs.YtceiaekkfabeaaaDoor

/- A row's arguments, opened: rows of numbers, rows of rows, hypergraphs, bags. -/
namespace Go.Proofs.YtceiaekkfabeaaaDoor
open Go.ChangeShapes Go.WideShapes Go.ChangeAt Go.RowKit Go.Deep Pl

theorem cells3 : Tryd.prog.cellsOf 3 = 1 := by kernel_rfl
theorem cells28 : Tryd.prog.cellsOf 28 = 1 := by kernel_rfl
theorem cells22 : Tryd.prog.cellsOf 22 = 1 := by kernel_rfl
theorem cells24 : Tryd.prog.cellsOf 24 = 2 := by kernel_rfl
theorem cells51 : Tryd.prog.cellsOf 51 = 3 := by kernel_rfl
theorem bytes3 : Tryd.prog.bytesOf 3 = 8 := by kernel_rfl
theorem bytes28 : Tryd.prog.bytesOf 28 = 24 := by kernel_rfl
theorem bytes51 : Tryd.prog.bytesOf 51 = 56 := by kernel_rfl

theorem weights_all {H : Type} {Pg : Program} {e : TypeId} {d : DataW H} : ∀ {l : List (DataW H)}, d ∈ l → ∀ x ∈ d.weights Pg e, x ∈ DataW.weightsAll Pg e l
  | [], h, _, _ => by simp at h
  | d' :: l, h, x, hx => by
    rw [DataW.weightsAll, List.mem_append]
    rcases List.mem_cons.1 h with rfl | h
    · exact Or.inl hx
    · exact Or.inr (weights_all h x hx)

section
variable {H : Type} {enc : TypeId × Value → H} {w : World}
theorem slice_len {t e : TypeId} (ht : Tryd.prog.underlying t = some (.slice e)) {elems spare : List (DataW H)} (hz : ∀ x ∈ (DataW.slice elems spare).weights Tryd.prog t, x ≤ reachBytes) : (elems.length + spare.length) * Tryd.prog.bytesOf e ≤ reachBytes := by
  refine hz _ ?_
  simp [DataW.weights, ht]
theorem slice_elem {t e : TypeId} (ht : Tryd.prog.underlying t = some (.slice e)) {elems spare : List (DataW H)} (hz : ∀ x ∈ (DataW.slice elems spare).weights Tryd.prog t, x ≤ reachBytes) {d : DataW H} (hd : d ∈ elems) : ∀ x ∈ d.weights Tryd.prog e, x ≤ reachBytes := by
  intro x hx
  refine hz _ ?_
  simp only [DataW.weights, ht, List.mem_cons, List.mem_append]
  exact Or.inr (Or.inl (weights_all hd x hx))

/-- A row of numbers that came in. -/
theorem ints_opened {n : Nat} {v : Value} {y : DataW H × List MemPlace} (h : DataW.trod enc Tryd.prog w 0 (fun _ => true) true n 28 [v] = some y) (hz : ∀ x ∈ y.1.weights Tryd.prog 28, x ≤ reachBytes) : ∃ xs, IntsR .i64 (fun _ => True) w v xs := by
  rcases open_ints Tryd.underlying28 Tryd.underlying3 cells3 h with ⟨hcs, _⟩ | ⟨a, len, cap, zs, hcs, hb, hl, hm, hzl, hy, hcell, hwz⟩
  · simp only [List.cons.injEq, and_true] at hcs
    subst hcs
    exact ⟨[], ints_nil _ _ _⟩
  · simp only [List.cons.injEq, and_true] at hcs
    subst hcs
    simp only [if_true] at hzl
    rw [hy] at hz
    have hlen := slice_len Tryd.underlying28 hz
    rw [bytes3] at hlen
    simp only [lits, List.length_map, List.length_take, List.length_drop, reachBytes] at hlen
    have htl : (zs.take len).length = len := by rw [List.length_take]; omega
    refine ⟨zs.take len, some a, cap, by rw [htl], ⟨by omega, fun hh => by cases hh⟩, by omega, fun hp => ?_⟩
    have hc0 := hcell 0 (by omega)
    obtain ⟨b, off, sp⟩ := a
    have hsp : sp = none := by simpa [Addr.add] using World.cell?_spot hc0
    subst hsp
    refine ⟨_, rfl, trivial, rfl, fun j hj => ⟨_, rfl, rfl, fun i u hu => ?_⟩⟩
    have hi0 : i = 0 := by have := (List.getElem?_eq_some_iff.1 hu).1; simpa using this
    subst hi0
    have := hcell j (by omega)
    rw [addr_add] at this
    simp only [List.getElem?_cons_zero, Option.some.injEq] at hu
    subst hu
    simp only [Nat.mul_one, Nat.add_zero]
    rw [this, List.getElem_take]
    congr 2
    rw [List.getD_eq_getElem?_getD, List.getElem?_eq_getElem (by omega)]; rfl
/-- A row of rows that came in. -/
theorem rows_opened {n : Nat} {v : Value} {y : DataW H × List MemPlace} (h : DataW.trod enc Tryd.prog w 0 (fun _ => true) true n 22 [v] = some y) (hz : ∀ x ∈ y.1.weights Tryd.prog 22, x ≤ reachBytes) : ∃ xss, RowsR (fun _ => True) w v xss := by
  rcases open_slice1 Tryd.underlying22 cells28 h with ⟨hcs, _⟩ | ⟨a, len, cap, m, n', V, D, Pl, hcs, hb, hl, hm, hmm, hy, hx⟩
  · simp only [List.cons.injEq, and_true] at hcs
    subst hcs
    exact ⟨[], none, 0, rfl, ⟨Nat.le_refl _, fun _ => rfl⟩, by simp, fun hp => by simp at hp⟩
  · simp only [List.cons.injEq, and_true] at hcs
    subst hcs
    simp only [if_true] at hmm
    rw [hy] at hz
    have hlen := slice_len Tryd.underlying22 hz
    rw [bytes28] at hlen
    simp only [List.length_map, List.length_range, reachBytes] at hlen
    have hch : ∀ i : Nat, ∃ xs : List Int, i < len → IntsR .i64 (fun _ => True) w (V i) xs := fun i => by
      by_cases hi : i < len
      · obtain ⟨xs, hxs⟩ := ints_opened (hx i (by omega)).2 (slice_elem Tryd.underlying22 hz (List.mem_map.2 ⟨i, List.mem_range.2 hi, rfl⟩))
        exact ⟨xs, fun _ => hxs⟩
      · exact ⟨[], fun hh => absurd hh hi⟩
    obtain ⟨f, hf⟩ := Classical.axiomOfChoice hch
    refine ⟨(List.range len).map f, some a, cap, by simp, ⟨by simpa using hl, fun hh => by cases hh⟩, by simp; omega, fun hp => ?_⟩
    have hp' : 0 < len := by simpa using hp
    have hc0 := (hx 0 (by omega)).1
    obtain ⟨b, off, sp⟩ := a
    have hsp : sp = none := by simpa [Addr.add] using World.cell?_spot hc0
    subst hsp
    refine ⟨_, rfl, trivial, rfl, fun j hj => ?_⟩
    have hj' : j < len := by simpa using hj
    have hi := hf j hj'
    obtain ⟨A', c', he, _⟩ := hi.at
    refine ⟨[V j], ⟨V j, rfl, by rw [he]; rfl, by simpa using hi⟩, rfl, fun i u hu => ?_⟩
    have hi0 : i = 0 := by have := (List.getElem?_eq_some_iff.1 hu).1; simpa using this
    subst hi0
    have := (hx j (by omega)).1
    rw [addr_add] at this
    simp only [List.getElem?_cons_zero, Option.some.injEq] at hu
    subst hu
    simpa using this
set_option maxRecDepth 100000 in
/-- A hypergraph that came in. -/
theorem hyper_opened {r : Reach} {b0 : Nat} {v : Value} {d : DataW H} {ps : List MemPlace} (hval : Value.okWide Tryd.prog w r b0 24 v) (h : DataW.Trod enc Tryd.prog w 0 (fun _ => true) true 24 v d ps) (hz : ∀ x ∈ d.weights Tryd.prog 24, x ≤ reachBytes) :
    ∃ (many : Int) (ev : Value) (es : List (List Int)), v = .agg #[.int .i64 many, ev] ∧ RowsR (fun _ => True) w ev es := by
  obtain ⟨cs, rfl, hcs⟩ := okWide_struct Tryd.underlying24 hval
  rw [cells24] at hcs
  obtain ⟨n, hn⟩ := h
  obtain ⟨y0, y1, n', hd, _, h0, h1⟩ := trod_struct2 Tryd.underlying24 hn
  match cs, hcs with
  | ⟨[a, b]⟩, _ =>
    simp only [Value.cells, cells3, cells22, List.drop_zero, List.take_succ_cons, List.take_zero, List.drop_succ_cons] at h0 h1
    obtain ⟨many, ha, _, _⟩ := DataW.trod_int Tryd.underlying3 h0
    simp only [List.cons.injEq, and_true] at ha
    subst ha
    simp only [Prod.mk.injEq] at hd
    obtain ⟨hd, _⟩ := hd
    rw [hd] at hz
    obtain ⟨es, hes⟩ := rows_opened (y := y1) h1 (fun x hx => hz x (by
      simp only [DataW.weights, Tryd.underlying24, DataW.weightsEach, List.map_cons, List.map_nil, List.mem_append]
      exact Or.inr (Or.inl hx)))
    exact ⟨many, b, es, rfl, hes⟩
end
end Go.Proofs.YtceiaekkfabeaaaDoor

/- What a law's row wants of the laws: the library's table, the arguments read behind the call as before. -/
namespace Go.Proofs.YtceiaekkfabeaaaDoor
open Go.ChangeShapes Go.WideShapes Go.ChangeAt Go.RowKit Go.Deep Pl

theorem ownKnob_none : ownKnob Tryd.prog.godebug = none := by kernel_rfl
theorem gTab : Tryd.prog.globalNamed "math/bits.deBruijn64tab" = some 0 := by kernel_rfl
theorem gTabType : (Tryd.prog.globals[0]?).map (·.type) = some 128 := by kernel_rfl
theorem cells128 : Tryd.prog.cellsOf 128 = 64 := by kernel_rfl
theorem cells5 : Tryd.prog.cellsOf 5 = 1 := by kernel_rfl
theorem laidOutT : laidOutB Tryd.prog = true := by kernel_rfl
theorem tab_same : (Lib.deBruijn64tab.map fun (n : Nat) => (n : Int)).length = 64 := by decide

/-- What the row lists: the library's table. -/
theorem tabW_of {W : World} (h : laidMetH Tryd.prog [("math/bits.deBruijn64tab", Rows.laid_math_bits_deBruijn64tab)] W) : TabW W := by
  have hT : Lib.TabIs Tryd.prog W "math/bits.deBruijn64tab" .u8 (Lib.deBruijn64tab.map fun (n : Nat) => (n : Int)) :=
    Lib.tabIs_of_head (rest := []) gTab gTabType Tryd.underlying128 Tryd.underlying5 cells5 cells128 h
  intro j hj
  have hj' : j < (Lib.deBruijn64tab.map fun (n : Nat) => (n : Int)).length := by rw [List.length_map]; exact hj
  have := hT.cell gTab j hj'
  rw [this]
  congr 2
  rw [List.getD_eq_getElem?_getD, List.getD_eq_getElem?_getD, List.getElem?_map, List.getElem?_eq_getElem hj]; rfl

section
variable {H : Type} {enc : TypeId × Value → H} {W W' : World}
/-- All arguments read as they did. -/
theorem trodAll_below : ∀ {ts : List TypeId} {vs : List Value} {ds : List (DataW H)} {ps : List MemPlace}, (∀ t ∈ ts, Tryd.prog.readableRec t = true ∧ t < Tryd.prog.types.size) → DataW.TrodAll enc Tryd.prog W 0 (fun _ => true) true ts vs ds ps →
    Below W.heap.size W W' → (∀ x ∈ ps, x.block < W.heap.size) → DataW.TrodAll enc Tryd.prog W' 0 (fun b => decide (b < W.heap.size)) true ts vs ds ps
  | [], [], [], _, _, h, _, _ => h
  | t :: ts, v :: vs, d :: ds, ps, ht, ⟨p, q, h1, h2, h3⟩, hb, hlt => by
    subst h3
    exact ⟨p, q, Below.trod laidOutT (ht t (by simp)).1 (ht t (by simp)).2 h1 hb (fun x hx => hlt x (by simp [hx])), trodAll_below (fun t' ht' => ht t' (by simp [ht'])) h2 hb (fun x hx => hlt x (by simp [hx])), rfl⟩
  | [], [], _ :: _, _, _, h, _, _ => h.elim
  | [], _ :: _, _, _, _, h, _, _ => h.elim
  | _ :: _, [], _, _, _, h, _, _ => h.elim
  | _ :: _, _ :: _, [], _, _, h, _, _ => h.elim
/-- A law that answers true, and turns nothing that was there. -/
theorem law_post {f : Func} {s : ChangeSpec} {args : Array Value} {ds gs : List (DataW H)} {before : List MemPlace} (hr : f.resultTypes = #[4]) (hs : s.vars = []) (hfn : s.fn H (ds ++ gs) = { results := [.lit (.bool true)], args := ds })
    (hp : ∀ t ∈ f.params.toList, Tryd.prog.readableRec t = true ∧ t < Tryd.prog.types.size) (hW : DataW.Whole enc Tryd.prog f.params.toList s.vars false W args.toList ds gs before) (hx : Ext No W W') :
    s.post enc Tryd.prog f false true false false W args (.bool true) W' := by
  have hlt := fun p hp => hW.lt p hp
  have hW2 := hW
  obtain ⟨p, q, hA, hV, hb, _, _⟩ := hW2
  have hq : gs = [] ∧ q = [] := by
    rw [hs] at hV
    match gs, q, hV with
    | [], [], _ => exact ⟨rfl, rfl⟩
    | [], _ :: _, h => exact absurd h (by simp [DataW.TrodVars])
    | _ :: _, _, h => exact absurd h (by simp [DataW.TrodVars])
  obtain ⟨hgs, hq⟩ := hq
  subst hq
  rw [List.append_nil] at hb
  refine ⟨ds, gs, before, [], p, [], hW, ?_, ?_, ?_, (hx.below).frame _, fun h => by cases h⟩
  · rw [hfn, hr]
    exact trodAll_cons_mk (shut_bool Tryd.underlying4 _) trodAll_mk0
  · rw [hfn]
    exact trodAll_below hp hA hx.below (fun x hx => by simpa using hlt x (hb ▸ hx))
  · rw [hs, hfn]
    simp [DataW.TrodVars]
end

/-- A world for the witness: the settled one, the library's table lying in block 0. -/
noncomputable def laidWorld (os : Os) : World :=
  { World.holding Tryd.prog os ⟨#[], #[], []⟩ with heap := (World.holding Tryd.prog os ⟨#[], #[], []⟩).heap.modify 0 fun
      | .cells _ t frozen => .cells (Lib.deBruijn64tab.map fun (n : Nat) => Value.int .u8 (n : Int)).toArray t frozen
      | o => o }
end Go.Proofs.YtceiaekkfabeaaaDoor

/- The fewest edges that have vertices: what decomp finds is what the document says. -/
namespace Go.Proofs.YtceiaekkfabeaaaDoor
open Go.RowKit Pl

theorem byS_testBit (S : List Nat) (i : Nat) : ∀ (l : List Int), (byS S l).testBit i = l.any (fun e => (S.getD e.toNat 0).testBit i) := by
  have key : ∀ (l : List Int) (s : Nat), (l.foldl (fun s e => s ||| S.getD e.toNat 0) s).testBit i = (s.testBit i || l.any (fun e => (S.getD e.toNat 0).testBit i)) := by
    intro l
    induction l with
    | nil => intro s; simp
    | cons x l ih => intro s; rw [List.foldl_cons, ih, Nat.testBit_or, List.any_cons, Bool.or_assoc]
  intro l
  rw [byS, key]; simp
/-- Rows of places have all of a set. -/
def covP (S : List Nat) (want : Nat) (row : List Int) : Bool := sdn want (byS S row) == 0
theorem covP_iff {S : List Nat} {want : Nat} {row : List Int} : covP S want row = true ↔ ∀ i, want.testBit i = true → row.any (fun e => (S.getD e.toNat 0).testBit i) = true := by
  rw [covP, beq_iff_eq, sdn_zero]
  exact ⟨fun h i hi => by rw [← byS_testBit]; exact h i hi, fun h i hi => by rw [byS_testBit]; exact h i hi⟩
theorem covP_cons (S : List Nat) (want : Nat) (x : Int) (row : List Int) : covP S want (x :: row) = covP S (sdn want (S.getD x.toNat 0)) row := by
  rw [Bool.eq_iff_iff, covP_iff, covP_iff]
  constructor
  · intro h i hi
    rw [sdn_testBit, Bool.and_eq_true, Bool.not_eq_true'] at hi
    have := h i hi.1
    rw [List.any_cons, hi.2, Bool.false_or] at this
    exact this
  · intro h i hi
    rw [List.any_cons]
    cases hx : (S.getD x.toNat 0).testBit i with
    | true => rfl
    | false => rw [Bool.false_or]; exact h i (by rw [sdn_testBit, hi, hx]; rfl)
theorem covP_nil (S : List Nat) (want : Nat) : covP S want [] = (want == 0) := by
  have : byS S [] = 0 := rfl
  rw [covP, this]
  simp [sdn]
theorem find_flatMap {α β : Type} {p : β → Bool} {f : α → List β} : ∀ (l : List α), (l.flatMap f).find? p = l.findSome? fun x => (f x).find? p
  | [] => rfl
  | x :: l => by
    rw [List.flatMap_cons, List.find?_append, List.findSome?_cons, find_flatMap l]
    cases (f x).find? p <;> rfl
theorem find_map' {α β : Type} {p : β → Bool} {f : α → β} : ∀ (l : List α), (l.map f).find? p = (l.find? (fun x => p (f x))).map f
  | [] => rfl
  | x :: l => by
    rw [List.map_cons, List.find?_cons, List.find?_cons, find_map' l]
    cases p (f x) <;> rfl
theorem find_cons_rows (S : List Nat) (want : Nat) (x : Int) (l : List (List Int)) : (l.map (x :: ·)).find? (covP S want) = (l.find? (covP S (sdn want (S.getD x.toNat 0)))).map (x :: ·) := by
  rw [find_map']
  congr 2
  funext r
  exact covP_cons S want x r
theorem findSome_map {α β γ : Type} {f : α → β} {g : β → Option γ} : ∀ (l : List α), (l.map f).findSome? g = l.findSome? fun x => g (f x)
  | [] => rfl
  | x :: l => by rw [List.map_cons, List.findSome?_cons, List.findSome?_cons, findSome_map l]
theorem findSome_congr2 {α β : Type} {f g : α → Option β} : ∀ {L : List α}, (∀ x ∈ L, f x = g x) → L.findSome? f = L.findSome? g
  | [], _ => rfl
  | x :: l, h => by rw [List.findSome?_cons, List.findSome?_cons, h x (by simp), findSome_congr2 (fun y hy => h y (by simp [hy]))]

/-- What is tried with so many edges is the first row of so many, where no fewer do. -/
theorem tries_rows {S : List Nat} : ∀ (m want lo : Nat), lo ≤ S.length → (∀ m', m' < m → (rowsL (S.length : Int) m' (lo : Int)).find? (covP S want) = none) → triesF S m want lo = (rowsL (S.length : Int) m (lo : Int)).find? (covP S want)
  | 0, want, lo, _, _ => by
    simp only [triesF, rowsL, List.find?_cons, covP_nil]
    by_cases h : want = 0
    · subst h; rfl
    · have : (want == 0) = false := by rw [beq_eq_false_iff_ne]; exact h
      rw [this, if_neg h]; rfl
  | m + 1, want, lo, hlo, h => by
    have h0 := h 0 (by omega)
    have hne : want ≠ 0 := fun hw => by subst hw; simp [rowsL, covP_nil] at h0
    rw [triesF, if_neg hne, rowsL, find_flatMap]
    have hR : rangeL (lo : Int) (S.length : Int) = (List.range' lo (S.length - lo)).map (fun (e : Nat) => (e : Int)) := by
      rw [rangeL, show ((S.length : Int) - (lo : Int)).toNat = S.length - lo by omega, List.range'_eq_map_range, List.map_map]
      exact List.map_congr_left fun i _ => by simp
    rw [hR, findSome_map]
    refine findSome_congr2 fun e he => ?_
    obtain ⟨he1, he2⟩ := List.mem_range'_1.1 he
    have hgd : (S[e]?).getD 0 = S.getD (e : Int).toNat 0 := by rw [Int.toNat_natCast, List.getD_eq_getElem?_getD]
    rw [find_cons_rows, ← hgd]
    have ih := tries_rows (S := S) m (sdn want ((S[e]?).getD 0)) (e + 1) (by omega) (fun m' hm' => by
      have h1 := h (m' + 1) (by omega)
      rw [rowsL, find_flatMap, hR, findSome_map, List.findSome?_eq_none_iff] at h1
      have h2 := h1 e he
      rw [find_cons_rows, ← hgd, Option.map_eq_none_iff] at h2
      rw [show ((e + 1 : Nat) : Int) = (e : Int) + 1 by omega]; exact h2)
    rw [ih, show ((e + 1 : Nat) : Int) = (e : Int) + 1 by omega]
theorem first_eq {α : Type} {a b : Nat → Option α} (h : ∀ k, (∀ j, j < k → b j = none) → a k = b k) : ∀ K, (List.range K).findSome? a = (List.range K).findSome? b
  | 0 => rfl
  | K + 1 => by
    rw [List.range_succ, List.findSome?_append, List.findSome?_append, first_eq h K]
    cases hb : (List.range K).findSome? b with
    | some x => rfl
    | none =>
      rw [List.findSome?_eq_none_iff] at hb
      have := h K (fun j hj => hb j (List.mem_range.2 hj))
      simp [this]
theorem first_at {α : Type} {b : Nat → Option α} {x : α} {k : Nat} (hk : b k = some x) (h : ∀ j, j < k → b j = none) : ∀ K, k < K → (List.range K).findSome? b = some x
  | 0, hK => by omega
  | K + 1, hK => by
    rw [List.range_succ, List.findSome?_append]
    by_cases hkK : k < K
    · rw [first_at hk h K hkK]; rfl
    · obtain rfl : k = K := by omega
      have : (List.range k).findSome? b = none := by rw [List.findSome?_eq_none_iff]; exact fun j hj => h j (List.mem_range.1 hj)
      rw [this]; simp [hk]
theorem min_some {α : Type} {b : Nat → Option α} : ∀ (K : Nat), b K ≠ none → ∃ k x, k ≤ K ∧ b k = some x ∧ ∀ j, j < k → b j = none := by
  intro K
  induction K using Nat.strongRecOn with
  | _ K ih =>
    intro h
    by_cases hj : ∃ j, j < K ∧ b j ≠ none
    · obtain ⟨j, hj1, hj2⟩ := hj
      obtain ⟨k, x, h1, h2, h3⟩ := ih j hj1 hj2
      exact ⟨k, x, by omega, h2, h3⟩
    · cases hb : b K with
      | none => exact absurd hb h
      | some x => exact ⟨K, x, Nat.le_refl _, hb, fun j hjk => Classical.byContradiction fun hh => hj ⟨j, hjk, hh⟩⟩
/-- As many edges do as there are vertices. -/
theorem tries_few {S : List Nat} : ∀ (n lo want m : Nat), S.length = lo + n → want < 4294967296 → (membersN want).length ≤ m → (∀ i, want.testBit i = true → ∃ j s, lo ≤ j ∧ S[j]? = some s ∧ s.testBit i = true) → triesF S m want lo ≠ none
  | 0, lo, want, m, hn, hl, hm, h => by
    have : want = 0 := by
      apply Nat.eq_of_testBit_eq
      intro i
      rw [Nat.zero_testBit, Bool.eq_false_iff]
      intro hi
      obtain ⟨j, s, h1, h2, _⟩ := h i hi
      have := (List.getElem?_eq_some_iff.1 h2).1
      omega
    subst this
    cases m <;> simp [triesF]
  | n + 1, lo, want, m, hn, hl, hm, h => by
    by_cases hw : want = 0
    · subst hw; cases m <;> simp [triesF]
    · have hpos : 0 < (membersN want).length := by rw [membersN_step hw hl]; simp
      obtain ⟨m, rfl⟩ : ∃ q, m = q + 1 := ⟨m - 1, by omega⟩
      have hlo : lo < S.length := by omega
      have hS : S[lo]? = some S[lo] := List.getElem?_eq_getElem hlo
      have hrest : ∀ i, (sdn want ((S[lo]?).getD 0)).testBit i = true → ∃ j s, lo + 1 ≤ j ∧ S[j]? = some s ∧ s.testBit i = true := fun i hi => by
        rw [sdn_testBit, Bool.and_eq_true, Bool.not_eq_true'] at hi
        obtain ⟨j, s, h1, h2, h3⟩ := h i hi.1
        refine ⟨j, s, ?_, h2, h3⟩
        rcases Nat.lt_or_ge lo j with hj | hj
        · omega
        · obtain rfl : j = lo := by omega
          rw [h2] at hi
          simp [h3] at hi
      rw [triesF, if_neg hw]
      intro hh
      rw [List.findSome?_eq_none_iff] at hh
      by_cases hs : sdn want ((S[lo]?).getD 0) = want
      · rw [hs] at hrest
        have ih := tries_few (S := S) n (lo + 1) want (m + 1) (by omega) hl hm hrest
        rw [triesF, if_neg hw] at ih
        refine ih ?_
        rw [List.findSome?_eq_none_iff]
        intro e he
        obtain ⟨h1, h2⟩ := List.mem_range'_1.1 he
        exact hh e (List.mem_range'_1.2 ⟨by omega, by omega⟩)
      · obtain ⟨i, hi⟩ : ∃ i, want.testBit i = true ∧ ((S[lo]?).getD 0).testBit i = true := Classical.byContradiction fun hno => hs (by
          apply Nat.eq_of_testBit_eq
          intro i
          rw [sdn_testBit]
          cases hwi : want.testBit i with
          | false => rfl
          | true =>
            cases hsi : ((S[lo]?).getD 0).testBit i with
            | false => rfl
            | true => exact absurd ⟨i, hwi, hsi⟩ hno)
        have h32 : i < 32 := Classical.byContradiction fun hh => by
          rw [Nat.testBit_lt_two_pow (Nat.lt_of_lt_of_le hl (by simpa using Nat.pow_le_pow_right (n := 2) (by omega) (by omega : 32 ≤ i)))] at hi
          exact absurd hi.1 (by simp)
        have h1 := membersN_drop (membersN_mem.2 ⟨h32, hi.1⟩)
        have h2 : (membersN (sdn want ((S[lo]?).getD 0))).length ≤ (membersN (sdn want (2 ^ i))).length := members_sub_len fun j _ hj => by
          rw [sdn_testBit, Bool.and_eq_true, Bool.not_eq_true'] at hj
          rw [sdn_testBit, hj.1, Nat.testBit_two_pow]
          by_cases hij : i = j
          · subst hij; rw [hi.2] at hj; exact absurd hj.2 (by simp)
          · simp [hij]
        have ih := tries_few (S := S) n (lo + 1) (sdn want ((S[lo]?).getD 0)) m (by omega) (sdn_lt' hl) (by omega) hrest
        have := hh lo (List.mem_range'_1.2 ⟨Nat.le_refl _, by omega⟩)
        rw [Option.map_eq_none_iff] at this
        exact ih this
end Go.Proofs.YtceiaekkfabeaaaDoor

/- The fewest edges that have vertices: Cover's answer is the document's. -/
namespace Go.Proofs.YtceiaekkfabeaaaDoor
open Go.RowKit Pl

theorem covO_rows (S : List Nat) (want : Nat) : covO S want = (List.range (S.length + 1)).findSome? fun k => (rowsL (S.length : Int) k 0).find? (covP S want) := by
  rw [covO]
  exact first_eq (fun k h => tries_rows k want 0 (Nat.zero_le _) h) _
theorem cov_bad {S : List Nat} {want : Nat} (h : sdn want (orTo S) ≠ 0) (row : List Int) : covP S want row = false := by
  rw [Bool.eq_false_iff]
  intro hc
  rw [covP_iff] at hc
  refine h (sdn_zero.2 fun i hi => ?_)
  have := hc i hi
  rw [List.any_eq_true] at this
  obtain ⟨e, _, he⟩ := this
  rw [orTo_testBit, List.any_eq_true]
  rw [List.getD_eq_getElem?_getD] at he
  cases hs : S[e.toNat]? with
  | none => rw [hs] at he; simp at he
  | some s => rw [hs] at he; exact ⟨s, List.mem_of_getElem? hs, he⟩
theorem cov_none {S : List Nat} {want : Nat} (h : sdn want (orTo S) ≠ 0) (K : Nat) : (List.range K).findSome? (fun k => (rowsL (S.length : Int) k 0).find? (covP S want)) = none := by
  rw [List.findSome?_eq_none_iff]
  intro k _
  rw [List.find?_eq_none]
  intro r _
  simp [cov_bad h r]
theorem sdn_cover {S : List Nat} {want : Nat} (h : sdn want (orTo S) = 0) : ∀ i, want.testBit i = true → ∃ j s, 0 ≤ j ∧ S[j]? = some s ∧ s.testBit i = true := fun i hi => by
  have := sdn_zero.1 h i hi
  rw [orTo_testBit, List.any_eq_true] at this
  obtain ⟨s, hs, hb⟩ := this
  obtain ⟨j, hj⟩ := List.mem_iff_getElem?.1 hs
  exact ⟨j, s, Nat.zero_le _, hj, hb⟩
theorem cov_upto {S : List Nat} {want p : Nat} (hw : want < 4294967296) (hp : (membersN want).length ≤ p) : covO S want = (List.range (p + 1)).findSome? fun k => (rowsL (S.length : Int) k 0).find? (covP S want) := by
  by_cases h : sdn want (orTo S) = 0
  · have key : ∀ K, triesF S K want 0 ≠ none → ∃ k x, k ≤ K ∧ (rowsL (S.length : Int) k 0).find? (covP S want) = some x ∧ ∀ j, j < k → (rowsL (S.length : Int) j 0).find? (covP S want) = none := fun K hK => by
      by_cases hb : (rowsL (S.length : Int) K 0).find? (covP S want) = none
      · by_cases hj : ∃ j, j < K ∧ (rowsL (S.length : Int) j 0).find? (covP S want) ≠ none
        · obtain ⟨j, hj1, hj2⟩ := hj
          obtain ⟨k, x, h1, h2, h3⟩ := min_some (b := fun k => (rowsL (S.length : Int) k 0).find? (covP S want)) j hj2
          exact ⟨k, x, by omega, h2, h3⟩
        · exact absurd ((tries_rows K want 0 (Nat.zero_le _) (fun m' hm' => Classical.byContradiction fun hh => hj ⟨m', hm', hh⟩)).trans hb) hK
      · exact min_some (b := fun k => (rowsL (S.length : Int) k 0).find? (covP S want)) K hb
    obtain ⟨k1, x1, a1, a2, a3⟩ := key S.length (tries_all S.length 0 want (by omega) (sdn_cover h))
    obtain ⟨k2, x2, b1, b2, b3⟩ := key p (tries_few S.length 0 want p (by omega) hw hp (sdn_cover h))
    rw [covO_rows, first_at (b := fun k => (rowsL (S.length : Int) k 0).find? (covP S want)) a2 a3 _ (by omega), first_at (b := fun k => (rowsL (S.length : Int) k 0).find? (covP S want)) b2 b3 _ (by omega)]
    have : k1 = k2 := by
      rcases Nat.lt_trichotomy k1 k2 with hlt | heq | hgt
      · have := b3 k1 hlt; rw [a2] at this; cases this
      · exact heq
      · have := a3 k2 hgt; rw [b2] at this; cases this
    subst this
    rw [a2] at b2; exact b2
  · rw [covO_rows, cov_none h, cov_none h]

theorem ofTo_testBit (l : List Int) (i : Nat) : (ofTo l).testBit i = l.any (fun v => v.toNat == i) := by rw [ofTo, foldl_pow_testBit]; simp
theorem members_or_one (x v : Nat) : (membersN (x ||| 2 ^ v)).length ≤ (membersN x).length + 1 := by
  by_cases h : v ∈ membersN (x ||| 2 ^ v)
  · have h1 := membersN_drop h
    have h2 : (membersN (sdn (x ||| 2 ^ v) (2 ^ v))).length ≤ (membersN x).length := members_sub_len fun j _ hj => by
      rw [sdn_testBit, Nat.testBit_or, Nat.testBit_two_pow, Bool.and_eq_true, Bool.or_eq_true, Bool.not_eq_true'] at hj
      rcases hj with ⟨hj | hj, hn⟩
      · exact hj
      · rw [hj] at hn; cases hn
    omega
  · have h2 : (membersN (x ||| 2 ^ v)).length ≤ (membersN x).length := members_sub_len fun j hj32 hj => by
      rw [Nat.testBit_or, Nat.testBit_two_pow, Bool.or_eq_true, decide_eq_true_eq] at hj
      rcases hj with hj | rfl
      · exact hj
      · exact absurd (membersN_mem.2 ⟨hj32, by simp⟩) h
    omega
theorem members_ofTo_len (l : List Int) : (membersN (ofTo l)).length ≤ l.length := by
  have key : ∀ (l : List Int) (s : Nat), (membersN (l.foldl (fun s v => s ||| 2 ^ v.toNat) s)).length ≤ (membersN s).length + l.length := by
    intro l
    induction l with
    | nil => intro s; simp
    | cons x l ih =>
      intro s
      have h1 := ih (s ||| 2 ^ x.toNat)
      have h2 := members_or_one s x.toNat
      simp only [List.foldl_cons, List.length_cons]
      omega
  have := key l 0
  rw [membersN_zero] at this
  simpa [ofTo] using this
/-- Rows have vertices, said of lists and of sets. -/
theorem covers_covP {es : List (List Int)} {vs row : List Int} (he : ∀ e ∈ es, ∀ v ∈ e, 0 ≤ v) (hv : ∀ v ∈ vs, 0 ≤ v) : coversB es row vs = covP (es.map ofTo) (ofTo vs) row := by
  have hg : ∀ (e : Int) (v : Int), 0 ≤ v → (((es.map ofTo).getD e.toNat 0).testBit v.toNat = true ↔ hasB (edgeAt es e) v = true) := fun e v hv0 => by
    rw [hasB_iff, edgeAt, List.getD_eq_getElem?_getD, List.getD_eq_getElem?_getD, List.getElem?_map]
    cases hs : es[e.toNat]? with
    | none => simp
    | some r =>
      simp only [Option.map_some, Option.getD_some, ofTo_testBit, List.any_eq_true, beq_iff_eq]
      constructor
      · rintro ⟨x, hx, hxe⟩
        have := he r (List.mem_of_getElem? hs) x hx
        obtain rfl : x = v := by omega
        exact hx
      · exact fun h => ⟨v, h, rfl⟩
  rw [Bool.eq_iff_iff, covP_iff, coversB, allB, List.all_eq_true]
  constructor
  · intro h i hi
    rw [ofTo_testBit, List.any_eq_true] at hi
    obtain ⟨v, hvm, hvi⟩ := hi
    rw [beq_iff_eq] at hvi
    subst hvi
    have := h v hvm
    rw [anyB, List.any_eq_true] at this
    obtain ⟨e, hem, hee⟩ := this
    rw [List.any_eq_true]
    exact ⟨e, hem, (hg e v (hv v hvm)).2 hee⟩
  · intro h v hvm
    have := h v.toNat (by rw [ofTo_testBit, List.any_eq_true]; exact ⟨v, hvm, by simp⟩)
    rw [List.any_eq_true] at this
    obtain ⟨e, hem, hee⟩ := this
    rw [anyB, List.any_eq_true]
    exact ⟨e, hem, (hg e v (hv v hvm)).1 hee⟩
theorem find_congr {α : Type} {p q : α → Bool} : ∀ {l : List α}, (∀ x ∈ l, p x = q x) → l.find? p = l.find? q
  | [], _ => rfl
  | x :: l, h => by rw [List.find?_cons, List.find?_cons, h x (by simp), find_congr (fun y hy => h y (by simp [hy]))]
/-- THE LAW: the document's cover is decomp's. -/
theorem refCover_covO {es : List (List Int)} {vs : List Int} (he : ∀ e ∈ es, ∀ v ∈ e, 0 ≤ v) (hv : smallL vs) : refCover es vs = covO (es.map ofTo) (ofTo vs) := by
  rw [cov_upto (ofTo_lt hv) (members_ofTo_len vs), refCover, allRows, find_flatMap, List.length_map]
  refine findSome_congr2 fun k _ => find_congr fun r _ => covers_covP he (fun v hvm => (hv v hvm).1)
theorem hyper_nonneg {many : Int} {es : List (List Int)} (h : hyperB many es = true) : ∀ e ∈ es, ∀ v ∈ e, 0 ≤ v := fun e he v hv => by
  obtain ⟨_, _, _, h4⟩ := hyperB_parts h
  have := risesB_iff.1 (h4 e he)
  obtain ⟨i, hi⟩ := List.mem_iff_getElem?.1 hv
  exact (this i v hi).1
theorem cover_law {many : Int} {es : List (List Int)} {vs : List Int} (h : hyperB many es = true) (hr : risesB vs many = true) :
    coverA many es vs = match refCover es vs with | some r => (0, some r) | none => (4, none) := by
  have hs := risesB_small hr (hyperB_parts h).2.1
  rw [refCover_covO (hyper_nonneg h) hs, coverA, if_neg (by simp [h]), if_neg (by simp [hr])]
  by_cases hc : sdn (ofTo vs) (orTo (es.map ofTo)) = 0
  · rw [if_neg (by simpa using hc)]
    obtain ⟨r, hrr⟩ := covO_some hc
    rw [hrr]
  · rw [if_pos (by simpa using hc), covO_rows, cov_none hc]
end Go.Proofs.YtceiaekkfabeaaaDoor

/- What is around a vertex when others are gone: ways through those that are gone. -/
namespace Go.Proofs.YtceiaekkfabeaaaDoor
open Go.RowKit Pl

/-- Two share an edge. -/
def Adj (S : List Nat) (u w : Nat) : Prop := ∃ e ∈ S, e.testBit u = true ∧ e.testBit w = true
/-- One comes from one to the other over those that are gone. -/
inductive Con (S : List Nat) (gone : Nat) : Nat → Nat → Prop
  | one {u w : Nat} : Adj S u w → Con S gone u w
  | step {u x w : Nat} : Con S gone u x → gone.testBit x = true → Adj S x w → Con S gone u w
theorem Adj.symm {S : List Nat} {u w : Nat} (h : Adj S u w) : Adj S w u := by
  obtain ⟨e, he, h1, h2⟩ := h
  exact ⟨e, he, h2, h1⟩
theorem Con.trans {S : List Nat} {gone u x w : Nat} (h : Con S gone u x) (hx : gone.testBit x = true) (k : Con S gone x w) : Con S gone u w := by
  induction k with
  | one k => exact .step h hx k
  | step _ hy k ih => exact .step ih hy k
theorem Con.symm {S : List Nat} {gone u w : Nat} (h : Con S gone u w) : Con S gone w u := by
  induction h with
  | one h => exact .one h.symm
  | step h hx k ih => exact Con.trans (.one k.symm) hx ih
theorem Con.mono {S : List Nat} {g g' u w : Nat} (hg : ∀ i, g.testBit i = true → g'.testBit i = true) (h : Con S g u w) : Con S g' u w := by
  induction h with
  | one h => exact .one h
  | step _ hx k ih => exact .step ih (hg _ hx) k
theorem Con.add {S : List Nat} {gone v u w : Nat} : Con S (gone ||| 2 ^ v) u w ↔ Con S gone u w ∨ (Con S gone u v ∧ Con S gone v w) := by
  constructor
  · intro h
    induction h with
    | one h => exact Or.inl (.one h)
    | @step x w _ hx k ih =>
      rw [Nat.testBit_or, Nat.testBit_two_pow, Bool.or_eq_true, decide_eq_true_eq] at hx
      by_cases hxv : v = x
      · subst hxv
        have huv : Con S gone u v := by
          rcases ih with h | h
          · exact h
          · exact h.1
        exact Or.inr ⟨huv, .one k⟩
      · have hxg : gone.testBit x = true := by
          rcases hx with h | h
          · exact h
          · exact absurd h hxv
        rcases ih with h | ⟨h1, h2⟩
        · exact Or.inl (.step h hxg k)
        · exact Or.inr ⟨h1, .step h2 hxg k⟩
  · have hm : ∀ i, gone.testBit i = true → (gone ||| 2 ^ v).testBit i = true := fun i hi => by rw [Nat.testBit_or, hi]; rfl
    rintro (h | ⟨h1, h2⟩)
    · exact h.mono hm
    · exact (h1.mono hm).trans (by simp) (h2.mono hm)

theorem and_ne {a b : Nat} : a &&& b ≠ 0 ↔ ∃ i, a.testBit i = true ∧ b.testBit i = true := by
  constructor
  · intro h
    obtain ⟨i, hi⟩ := Nat.exists_testBit_of_ne_zero h
    rw [Nat.testBit_and, Bool.and_eq_true] at hi
    exact ⟨i, hi⟩
  · rintro ⟨i, h1, h2⟩ h0
    have := congrArg (fun x => x.testBit i) h0
    simp [h1, h2] at this
theorem lookE_cons (e : Nat) (S : List Nat) (gone : Nat) (mo : Nat × Nat) : lookE (e :: S) gone mo = lookE S gone (if e &&& mo.1 ≠ 0 then (mo.1 ||| (e &&& gone), mo.2 ||| e) else mo) := rfl
theorem lookE_grows (gone i : Nat) : ∀ (S : List Nat) (mo : Nat × Nat), (mo.1.testBit i = true → (lookE S gone mo).1.testBit i = true) ∧ (mo.2.testBit i = true → (lookE S gone mo).2.testBit i = true)
  | [], mo => ⟨id, id⟩
  | e :: S, mo => by
    rw [lookE_cons]
    obtain ⟨h1, h2⟩ := lookE_grows gone i S (if e &&& mo.1 ≠ 0 then (mo.1 ||| (e &&& gone), mo.2 ||| e) else mo)
    refine ⟨fun h => h1 ?_, fun h => h2 ?_⟩
    · split
      · rw [Nat.testBit_or, h]; rfl
      · exact h
    · split
      · rw [Nat.testBit_or, h]; rfl
      · exact h
/-- What is met and what is around is come to. -/
def SndL (T : List Nat) (v gone : Nat) (mo : Nat × Nat) : Prop := (∀ x, mo.1.testBit x = true → x = v ∨ (gone.testBit x = true ∧ Con T gone v x)) ∧ (∀ w, mo.2.testBit w = true → Con T gone v w)
theorem lookE_sound {T : List Nat} {v gone : Nat} : ∀ (S : List Nat) (mo : Nat × Nat), (∀ e ∈ S, e ∈ T) → SndL T v gone mo → SndL T v gone (lookE S gone mo)
  | [], mo, _, h => h
  | e :: S, mo, hS, h => by
    rw [lookE_cons]
    refine lookE_sound S _ (fun x hx => hS x (by simp [hx])) ?_
    split
    · rename_i hne
      obtain ⟨x, hx1, hx2⟩ := and_ne.1 hne
      have hcon : ∀ w, e.testBit w = true → Con T gone v w := fun w hw => by
        have hadj : Adj T x w := ⟨e, hS e (by simp), hx1, hw⟩
        rcases h.1 x hx2 with rfl | ⟨hg, hc⟩
        · exact .one hadj
        · exact .step hc hg hadj
      refine ⟨fun y hy => ?_, fun w hw => ?_⟩
      · rw [Nat.testBit_or, Bool.or_eq_true, Nat.testBit_and, Bool.and_eq_true] at hy
        rcases hy with hy | ⟨h1, h2⟩
        · exact h.1 y hy
        · exact Or.inr ⟨h2, hcon y h1⟩
      · rw [Nat.testBit_or, Bool.or_eq_true] at hw
        rcases hw with hw | hw
        · exact h.2 w hw
        · exact hcon w hw
    · exact h
/-- Nothing more is met: all edges that meet it are around. -/
theorem lookE_full {gone : Nat} : ∀ (S : List Nat) (mo : Nat × Nat), (lookE S gone mo).1 = mo.1 → ∀ e ∈ S, e &&& mo.1 ≠ 0 → ∀ w, e.testBit w = true → (lookE S gone mo).2.testBit w = true ∧ (gone.testBit w = true → mo.1.testBit w = true)
  | [], _, _, e, he, _, _, _ => by simp at he
  | e0 :: S, mo, h, e, he, hne, w, hw => by
    rw [lookE_cons] at h ⊢
    by_cases h0 : e0 &&& mo.1 ≠ 0
    · rw [if_pos h0] at h ⊢
      have hsame : mo.1 ||| (e0 &&& gone) = mo.1 := by
        apply Nat.eq_of_testBit_eq
        intro i
        cases hi : mo.1.testBit i with
        | true => rw [Nat.testBit_or, hi]; rfl
        | false =>
          rw [Bool.eq_false_iff]
          intro hh
          have := (lookE_grows gone i S (mo.1 ||| (e0 &&& gone), mo.2 ||| e0)).1 hh
          rw [h, hi] at this; cases this
      rcases List.mem_cons.1 he with rfl | he
      · refine ⟨(lookE_grows gone w S _).2 (by rw [Nat.testBit_or, hw, Bool.or_true]), fun hg => ?_⟩
        rw [← hsame, Nat.testBit_or, Nat.testBit_and, hw, hg]; simp
      · have := lookE_full S (mo.1 ||| (e0 &&& gone), mo.2 ||| e0) (by rw [h]; exact hsame.symm) e he (by rw [hsame]; exact hne) w hw
        exact ⟨this.1, fun hg => by have := this.2 hg; rwa [hsame] at this⟩
    · rw [if_neg h0] at h ⊢
      rcases List.mem_cons.1 he with rfl | he
      · exact absurd hne h0
      · exact lookE_full S mo h e he hne w hw
theorem lookN_fix {S : List Nat} (hS : smallS S) {v gone : Nat} : ∀ (f : Nat) (mo : Nat × Nat), mo.1 < 4294967296 → mo.2 < 4294967296 → 33 ≤ (membersN mo.1).length + f → mo.1.testBit v = true → SndL S v gone mo →
    ∃ mo', lookN S gone f mo = lookE S gone mo' ∧ (lookE S gone mo').1 = mo'.1 ∧ mo'.1.testBit v = true ∧ SndL S v gone mo'
  | 0, mo, h1, _, hf, _, _ => by have := membersN_len mo.1; omega
  | f + 1, mo, h1, h2, hf, hv, hs => by
    rw [lookN]
    by_cases hfix : (lookE S gone mo).1 = mo.1
    · rw [if_pos hfix]; exact ⟨mo, rfl, hfix, hv, hs⟩
    · rw [if_neg hfix]
      obtain ⟨l1, l2⟩ := lookE_lt hS gone mo h1 h2
      refine lookN_fix hS f _ l1 l2 ?_ ((lookE_grows gone v S mo).1 hv) (lookE_sound S mo (fun _ h => h) hs)
      have hsub : ∀ i, mo.1.testBit i = true → (lookE S gone mo).1.testBit i = true := fun i => (lookE_grows gone i S mo).1
      obtain ⟨i, hi⟩ : ∃ i, (lookE S gone mo).1.testBit i = true ∧ mo.1.testBit i = false := Classical.byContradiction fun hno => hfix (by
        apply Nat.eq_of_testBit_eq
        intro i
        cases ha : mo.1.testBit i with
        | true => exact hsub i ha
        | false =>
          rw [Bool.eq_false_iff]
          exact fun hh => hno ⟨i, hh, ha⟩)
      have h32 : i < 32 := Classical.byContradiction fun hh => by
        rw [Nat.testBit_lt_two_pow (Nat.lt_of_lt_of_le l1 (by simpa using Nat.pow_le_pow_right (n := 2) (by omega) (by omega : 32 ≤ i)))] at hi
        exact absurd hi.1 (by simp)
      have hd := membersN_drop (membersN_mem.2 ⟨h32, hi.1⟩)
      have hle : (membersN mo.1).length ≤ (membersN (sdn (lookE S gone mo).1 (2 ^ i))).length := members_sub_len fun j _ hj => by
        rw [sdn_testBit, hsub j hj, Nat.testBit_two_pow]
        by_cases hij : i = j
        · subst hij; rw [hi.2] at hj; cases hj
        · simp [hij]
      omega
/-- THE MEANING of what is around. -/
theorem arF_iff {S : List Nat} (hS : smallS S) {v gone w : Nat} (hv : v < 32) : (arF S v gone).testBit w = true ↔ w = v ∨ (gone.testBit w = false ∧ Con S gone v w) := by
  obtain ⟨mo', h1, h2, h3, h4⟩ := lookN_fix hS (v := v) (gone := gone) 4294967296 (2 ^ v, 0) (pow_lt_32 hv) (by show (0 : Nat) < _; omega) (by omega) (by simp) ⟨fun x hx => Or.inl (by
    simp only [Nat.testBit_two_pow, decide_eq_true_eq] at hx; exact hx.symm), fun w hw => by simp at hw⟩
  have hsnd := lookE_sound S mo' (fun _ h => h) h4
  rw [arF, h1, Nat.testBit_or, Bool.or_eq_true, Nat.testBit_two_pow, decide_eq_true_eq, sdn_testBit, Bool.and_eq_true, Bool.not_eq_true']
  constructor
  · rintro (⟨ha, hb⟩ | rfl)
    · exact Or.inr ⟨hb, hsnd.2 w ha⟩
    · exact Or.inl rfl
  · rintro (rfl | ⟨hg, hc⟩)
    · exact Or.inr rfl
    · refine Or.inl ⟨?_, hg⟩
      have key : ∀ w, Con S gone v w → (lookE S gone mo').2.testBit w = true ∧ (gone.testBit w = true → mo'.1.testBit w = true) := by
        intro w hc
        induction hc with
        | one h =>
          obtain ⟨e, he, e1, e2⟩ := h
          exact lookE_full S mo' h2 e he (and_ne.2 ⟨v, e1, h3⟩) _ e2
        | step _ hx h ih =>
          obtain ⟨e, he, e1, e2⟩ := h
          exact lookE_full S mo' h2 e he (and_ne.2 ⟨_, e1, ih.2 hx⟩) _ e2
      exact (key w hc).1
end Go.Proofs.YtceiaekkfabeaaaDoor
