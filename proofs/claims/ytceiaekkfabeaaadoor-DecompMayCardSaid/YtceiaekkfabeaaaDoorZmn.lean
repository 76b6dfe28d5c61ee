/- Words and contracts for: DecompMay: whatever hypergraph, bags and numbers are given, the law answers true, and its arguments read as before -/
import Derived.StillTailTactics
import Derived.Test.YtceiaekkfabeaaaDoorZmm
namespace Go.Proofs.YtceiaekkfabeaaaDoor
open Go.RowKit Pl

set_option maxHeartbeats 800000 in
theorem tops_any {P : Nat → Prop} (v : Value) (bs : List Bag) (x : Int) (w : World) (hv : BagsR P w v bs) (hp : ∀ b ∈ bs, b.parent < bs.length) :
    Calls Tryd.prog 47 #[v, .int .i64 x] w fun e w' => e = .returned (.int .i64 (topsN bs x bs)) ∧ Ext No w w' := by
  obtain ⟨A, c, rfl, hc, hm, hat⟩ := hv.at
  have HAT := Sid.mk hat
  have HV := Sid.mk hv
  have HP := Sid.mk hp
  clear hat hv hp
  go_enter Tryd.func47, Tryd.ntmps47
  go_wp2
  go_loopw [5, 10] (fun m i wr => ∃ (k : Nat) (t : Int), k ≤ bs.length ∧ i = .int .i64 k ∧ m = .int .i64 t ∧ 0 ≤ t ∧ t ≤ k ∧ Sid (t = topsN bs x (bs.take k)) ∧ Sid (Ext No w wr)) (fun _ i _ => bs.length - (intOf i).toNat)
  case atStart => exact ⟨0, 0, Nat.zero_le _, rfl, rfl, by omega, by omega, ⟨by simp [topsN]⟩, ⟨Ext.refl _ _⟩⟩
  case round =>
    obtain ⟨k, t, hk, rfl, rfl, ht0, htk, HT, HX⟩ := hrel
    by_cases hlt : k < bs.length
    · obtain ⟨b, off, A1, c1, A2, c2, vs, es, p, rfl, _, e0, e1, e2, HB, H1, H2⟩ := HAT.out k hlt
      replace e0 := HX.out.no e0
      replace e1 := HX.out.no e1
      replace e2 := HX.out.no e2
      have hpl : p < bs.length := HP.out _ (List.mem_of_getElem? HB.out)
      cases hb : hasB vs x with
      | false =>
        have HH := Sid.mk hb
        clear hb
        go_wp2_with (go_at_call 40; refine (has_any _ vs _ _ (H1.out.no (HX.out.alloc _))).mono ?_; rintro e w' ⟨rfl, rfl⟩; rw [HH.out])
        go_roundw
        case rel => exact ⟨k+1, t, by omega, by go_num, rfl, by omega, by omega, ⟨by rw [topsN_no HB.out (by simp [topB, HH.out])]; exact HT.out⟩, ⟨HX.out.alloc _⟩⟩
        case measure => simp [intOf]; omega
      | true =>
        have HH := Sid.mk hb
        clear hb
        by_cases hp0 : p < 0
        · go_wp2_with (go_at_call 40; refine (has_any _ vs _ _ (H1.out.no (HX.out.alloc _))).mono ?_; rintro e w' ⟨rfl, rfl⟩; rw [HH.out])
          go_roundw
          case rel => exact ⟨k+1, t+1, by omega, by go_num, by go_num, by omega, by omega, ⟨by rw [topsN_yes HB.out (by simp [topB, HH.out, hp0]), ← HT.out]⟩, ⟨HX.out.alloc _⟩⟩
          case measure => simp [intOf]; omega
        · obtain ⟨q, rfl⟩ := Int.eq_ofNat_of_zero_le (show 0 ≤ p by omega)
          obtain ⟨b', off', A1', c1', A2', c2', vs', es', p', hb', _, e0', _, _, HB', H1', _⟩ := HAT.out q (by omega)
          cases hb'
          replace e0' := fun o => (HX.out.alloc o).no e0'
          cases hb : hasB vs' x with
          | false =>
            have HH' := Sid.mk hb
            clear hb
            go_wp2_with (go_at_call 40; first | (with_reducible refine (has_any _ vs _ _ (H1.out.no (HX.out.alloc _))).mono ?_; rintro e w' ⟨rfl, rfl⟩; rw [HH.out]) | (refine (has_any _ vs' _ _ (H1'.out.no (HX.out.alloc _))).mono ?_; rintro e w' ⟨rfl, rfl⟩; rw [HH'.out]))
            go_roundw
            case rel => exact ⟨k+1, t+1, by omega, by go_num, by go_num, by omega, by omega, ⟨by rw [topsN_yes HB.out (by simp [topB, HH.out, HB'.out, HH'.out]), ← HT.out]⟩, ⟨HX.out.alloc _⟩⟩
            case measure => simp [intOf]; omega
          | true =>
            have HH' := Sid.mk hb
            clear hb
            go_wp2_with (go_at_call 40; first | (with_reducible refine (has_any _ vs _ _ (H1.out.no (HX.out.alloc _))).mono ?_; rintro e w' ⟨rfl, rfl⟩; rw [HH.out]) | (refine (has_any _ vs' _ _ (H1'.out.no (HX.out.alloc _))).mono ?_; rintro e w' ⟨rfl, rfl⟩; rw [HH'.out]))
            go_roundw
            case rel => exact ⟨k+1, t, by omega, by go_num, rfl, by omega, by omega, ⟨by rw [topsN_no HB.out (by simp [topB, HH.out, HB'.out, HH'.out])]; exact HT.out⟩, ⟨HX.out.alloc _⟩⟩
            case measure => simp [intOf]; omega
    · go_wp2
      go_ret
      exact ⟨ret_int (by rw [HT.out, List.take_of_length_le (by omega)]), HX.out⟩

theorem vertsTo {f : Int → Bool} {many : Int} {k : Nat} (hs : allB f ((vertsL many).take k) = true) (h : ¬ (k : Int) < many) : allB f (vertsL many) = true :=
  allB_all (by rw [vertsL_len]; omega) hs

set_option maxHeartbeats 2000000 in
theorem Right21_any {P P1 : Nat → Prop} (many : Int) (ev bv : Value) (es : List (List Int)) (bs : List Bag) (w : World) (he : RowsR P w ev es) (hv : BagsR P1 w bv bs) (hm1 : many ≤ 1000) :
    Calls Tryd.prog 20 #[.agg #[.int .i64 many, ev], bv] w fun e w' => e = .returned (.bool (rightB many es bs)) ∧ Ext No w w' := by
  obtain ⟨A, c, rfl, hc, hm, hat⟩ := hv.at
  obtain ⟨Ae, ce, rfl, hce, hme, hate⟩ := he.at
  have HAT := Sid.mk hat
  have HV := Sid.mk hv
  have HE := Sid.mk hate
  have HEV := Sid.mk he
  clear hat hv hate he
  by_cases h64 : 64 < bs.length
  · go_enter Tryd.func20, Tryd.ntmps20
    go_wp2
    go_ret
    exact ⟨ret_bool (by simp [rightB]; omega), ext_box _⟩
  have hh : rightB many es bs = (allI (fun i b => bagFormB many es.length i b && coversB es b.es b.vs) 0 bs && allB (fun e => anyB (fun b => withinB e b.vs) bs) es && allB (fun v => decide (topsN bs v bs = 1)) (vertsL many)) := by
    simp [rightB, show bs.length ≤ 64 by omega]
  rw [hh]
  clear hh
  go_enter Tryd.func20, Tryd.ntmps20
  go_wp2
  go_loopw [18] (fun i wr => ∃ (k : Nat), k ≤ bs.length ∧ i = .int .i64 k ∧ Sid (∀ i b, i < k → bs[i]? = some b → (bagFormB many es.length i b && coversB es b.es b.vs) = true) ∧ Sid (Ext No w wr) ∧ wr.cell? ⟨w.heap.size, 0, none⟩ = some (.int .i64 many) ∧ wr.cell? ⟨w.heap.size, 1, none⟩ = some (.slice Ae es.length ce)) (fun i _ => bs.length - (intOf i).toNat)
  case atStart => exact ⟨0, Nat.zero_le _, rfl, ⟨by omega⟩, ⟨ext_box _⟩, by simp, by simp⟩
  case round =>
    obtain ⟨k, hk, rfl, HS, HX, hb0, hb1⟩ := hrel
    by_cases hlt : k < bs.length
    · obtain ⟨b, off, A1, c1, A2, c2, vs, es', p, rfl, _, e0, e1, e2, HB, H1, H2⟩ := HAT.out k hlt
      replace e0 := HX.out.no e0
      replace e1 := HX.out.no e1
      replace e2 := HX.out.no e2
      have hb0a := fun o => (ext_box (w := wr) o).no hb0
      have hb1a := fun o => (ext_box (w := wr) o).no hb1
      cases hg1 : risesB vs many with
      | false =>
        have G1 := Sid.mk hg1
        clear hg1
        go_wp2_with (first | (go_at_call 13; first | (with_reducible refine (Rises_any _ vs _ _ (H1.out.no (HX.out.alloc _))).mono ?_; rintro e w' ⟨rfl, rfl⟩; rw [G1.out]) | (refine (Rises_any _ es' _ _ (H2.out.no (HX.out.alloc _))).mono ?_; rintro e w' ⟨rfl, rfl⟩; rw [G2.out])) | (go_at_call 38; refine (covers_any many _ _ _ es es' vs _ (HEV.out.no (HX.out.alloc _)) (H2.out.no (HX.out.alloc _)) (H1.out.no (HX.out.alloc _)) (inB_of_rises G2.out)).mono ?_; rintro e w' ⟨rfl, hx⟩; rw [G3.out]; have HC := Sid.mk hx; clear hx))
        go_ret
        exact ⟨ret_bool (by rw [allI_false HB.out (by simp [bagFormB, G1.out])]; rfl), HX.out.alloc _⟩
      | true =>
      have G1 := Sid.mk hg1
      clear hg1
      cases hg2 : risesB es' (es.length : Int) with
      | false =>
        have G2 := Sid.mk hg2
        clear hg2
        go_wp2_with (first | (go_at_call 13; first | (with_reducible refine (Rises_any _ vs _ _ (H1.out.no (HX.out.alloc _))).mono ?_; rintro e w' ⟨rfl, rfl⟩; rw [G1.out]) | (refine (Rises_any _ es' _ _ (H2.out.no (HX.out.alloc _))).mono ?_; rintro e w' ⟨rfl, rfl⟩; rw [G2.out])) | (go_at_call 38; refine (covers_any many _ _ _ es es' vs _ (HEV.out.no (HX.out.alloc _)) (H2.out.no (HX.out.alloc _)) (H1.out.no (HX.out.alloc _)) (inB_of_rises G2.out)).mono ?_; rintro e w' ⟨rfl, hx⟩; rw [G3.out]; have HC := Sid.mk hx; clear hx))
        go_ret
        exact ⟨ret_bool (by rw [allI_false HB.out (by simp [bagFormB, G2.out])]; rfl), HX.out.alloc _⟩
      | true =>
      have G2 := Sid.mk hg2
      clear hg2
      by_cases hp1 : p < -1
      · have hp1' := hp1
        go_wp2_with (first | (go_at_call 13; first | (with_reducible refine (Rises_any _ vs _ _ (H1.out.no (HX.out.alloc _))).mono ?_; rintro e w' ⟨rfl, rfl⟩; rw [G1.out]) | (refine (Rises_any _ es' _ _ (H2.out.no (HX.out.alloc _))).mono ?_; rintro e w' ⟨rfl, rfl⟩; rw [G2.out])) | (go_at_call 38; refine (covers_any many _ _ _ es es' vs _ (HEV.out.no (HX.out.alloc _)) (H2.out.no (HX.out.alloc _)) (H1.out.no (HX.out.alloc _)) (inB_of_rises G2.out)).mono ?_; rintro e w' ⟨rfl, hx⟩; rw [G3.out]; have HC := Sid.mk hx; clear hx))
        go_ret
        exact ⟨ret_bool (by rw [allI_false HB.out (by simp [bagFormB]; omega)]; rfl), HX.out.alloc _⟩
      by_cases hp2 : (k : Int) ≤ p
      · have hp2' := hp2
        go_wp2_with (first | (go_at_call 13; first | (with_reducible refine (Rises_any _ vs _ _ (H1.out.no (HX.out.alloc _))).mono ?_; rintro e w' ⟨rfl, rfl⟩; rw [G1.out]) | (refine (Rises_any _ es' _ _ (H2.out.no (HX.out.alloc _))).mono ?_; rintro e w' ⟨rfl, rfl⟩; rw [G2.out])) | (go_at_call 38; refine (covers_any many _ _ _ es es' vs _ (HEV.out.no (HX.out.alloc _)) (H2.out.no (HX.out.alloc _)) (H1.out.no (HX.out.alloc _)) (inB_of_rises G2.out)).mono ?_; rintro e w' ⟨rfl, hx⟩; rw [G3.out]; have HC := Sid.mk hx; clear hx))
        go_ret
        exact ⟨ret_bool (by rw [allI_false HB.out (by simp [bagFormB]; omega)]; rfl), HX.out.alloc _⟩
      cases hg3 : coversB es es' vs with
      | false =>
        have G3 := Sid.mk hg3
        clear hg3
        go_wp2_with (first | (go_at_call 13; first | (with_reducible refine (Rises_any _ vs _ _ (H1.out.no (HX.out.alloc _))).mono ?_; rintro e w' ⟨rfl, rfl⟩; rw [G1.out]) | (refine (Rises_any _ es' _ _ (H2.out.no (HX.out.alloc _))).mono ?_; rintro e w' ⟨rfl, rfl⟩; rw [G2.out])) | (go_at_call 38; refine (covers_any many _ _ _ es es' vs _ (HEV.out.no (HX.out.alloc _)) (H2.out.no (HX.out.alloc _)) (H1.out.no (HX.out.alloc _)) (inB_of_rises G2.out)).mono ?_; rintro e w' ⟨rfl, hx⟩; rw [G3.out]; have HC := Sid.mk hx; clear hx))
        go_ret
        exact ⟨ret_bool (by rw [allI_false HB.out (by simp [G3.out])]; rfl), (HX.out.alloc _).trans HC.out⟩
      | true =>
        have G3 := Sid.mk hg3
        clear hg3
        go_wp2_with (first | (go_at_call 13; first | (with_reducible refine (Rises_any _ vs _ _ (H1.out.no (HX.out.alloc _))).mono ?_; rintro e w' ⟨rfl, rfl⟩; rw [G1.out]) | (refine (Rises_any _ es' _ _ (H2.out.no (HX.out.alloc _))).mono ?_; rintro e w' ⟨rfl, rfl⟩; rw [G2.out])) | (go_at_call 38; refine (covers_any many _ _ _ es es' vs _ (HEV.out.no (HX.out.alloc _)) (H2.out.no (HX.out.alloc _)) (H1.out.no (HX.out.alloc _)) (inB_of_rises G2.out)).mono ?_; rintro e w' ⟨rfl, hx⟩; rw [G3.out]; have HC := Sid.mk hx; clear hx))
        go_roundw
        case rel => exact ⟨k+1, by omega, by go_num, ⟨fun i b hi hbi => by
              by_cases hik : i < k
              · exact HS.out i b hik hbi
              · obtain rfl : i = k := by omega
                rw [HB.out] at hbi; cases hbi
                simp [bagFormB, G1.out, G2.out, G3.out]; omega⟩, ⟨(HX.out.alloc _).trans HC.out⟩, HC.out.no ((ext_box _).no hb0), HC.out.no ((ext_box _).no hb1)⟩
        case measure => simp [intOf]; omega
    · have GA := Sid.mk (allI_of (f := fun i b => bagFormB many es.length i b && coversB es b.es b.vs) hlt HS.out)
      have HP : Sid (∀ b ∈ bs, b.parent < bs.length) := ⟨fun b hb => by
        obtain ⟨i, hi⟩ := List.mem_iff_getElem?.1 hb
        have h1 := allI_iff.1 GA.out i b hi
        have h2 := (List.getElem?_eq_some_iff.1 hi).1
        simp [bagFormB] at h1; omega⟩
      clear HS
      go_wp2
      go_loopw [62] (fun i wr => ∃ (k : Nat), k ≤ es.length ∧ i = .int .i64 k ∧ Sid (allB (fun e => anyB (fun b => withinB e b.vs) bs) (es.take k) = true) ∧ Sid (Ext No w wr) ∧ wr.cell? ⟨w.heap.size, 0, none⟩ = some (.int .i64 many)) (fun i _ => es.length - (intOf i).toNat)
      case atStart => exact ⟨0, Nat.zero_le _, rfl, ⟨by simp [allB]⟩, HX, hb0⟩
      case round =>
        clear hb0 hb1 HX
        obtain ⟨k, hk, rfl, HS, HX, hb0⟩ := hrel
        by_cases hlt : k < es.length
        · obtain ⟨be, offe, A', c', r, rfl, _, hcelle, HR', HI'⟩ := HE.out k hlt
          replace hcelle := HX.out.no hcelle
          go_wp2
          go_loopw [9, 68] (fun h i wr => ∃ (j : Nat), j ≤ bs.length ∧ i = .int .i64 j ∧ h = .bool (anyB (fun b => withinB r b.vs) (bs.take j)) ∧ Sid (Ext No w wr) ∧ wr.cell? ⟨w.heap.size, 0, none⟩ = some (.int .i64 many)) (fun _ i _ => bs.length - (intOf i).toNat)
          case atStart => exact ⟨0, Nat.zero_le _, rfl, by simp [anyB], HX, hb0⟩
          case round =>
            clear hb0 HX hcelle
            obtain ⟨j, hj, rfl, rfl, HX, hb0⟩ := hrel
            by_cases hjt : j < bs.length
            · obtain ⟨b, off, A1, c1, A2, c2, vs, es', p, rfl, _, e0, e1, e2, HB, H1, H2⟩ := HAT.out j hjt
              replace e0 := HX.out.no e0
              replace e1 := HX.out.no e1
              replace e2 := HX.out.no e2
              cases hb : anyB (fun b => withinB r b.vs) (bs.take j) with
              | true =>
                have HH := Sid.mk hb
                clear hb
                go_wp2
                go_roundw
                case rel => exact ⟨j+1, by omega, by go_num, by rw [anyB_succ HB.out, HH.out]; rfl, ⟨HX.out.alloc _⟩, (ext_box _).no hb0⟩
                case measure => simp [intOf]; omega
              | false =>
                have HH := Sid.mk hb
                clear hb
                go_wp2_with (go_at_call 46; refine (within_any _ _ r vs _ (HI'.out.no (HX.out.alloc _)) (H1.out.no (HX.out.alloc _))).mono ?_; rintro e w' ⟨rfl, rfl⟩)
                go_roundw
                case rel => exact ⟨j+1, by omega, by go_num, by rw [anyB_succ HB.out, HH.out]; rfl, ⟨HX.out.alloc _⟩, (ext_box _).no hb0⟩
                case measure => simp [intOf]; omega
            · cases hb : anyB (fun b => withinB r b.vs) (bs.take j) with
              | true =>
                have HH := Sid.mk hb
                clear hb
                go_wp2
                go_roundw
                case rel => exact ⟨k+1, by omega, by go_num, ⟨allB_succ HS.out HR'.out (by have := HH.out; rwa [List.take_of_length_le (by omega)] at this)⟩, HX, hb0⟩
                case measure => simp [intOf]; omega
              | false =>
                have HH := Sid.mk hb
                clear hb
                go_wp2
                go_ret
                exact ⟨ret_bool (by rw [GA.out, allB_false HR'.out (by have := HH.out; rwa [List.take_of_length_le (by omega)] at this)]; rfl), HX.out⟩
        · have GB := Sid.mk (allB_all hlt HS.out)
          clear HS
          go_wp2
          go_loopw [85] (fun i wr => ∃ (k : Nat), (k : Int) ≤ max 0 many ∧ i = .int .i64 k ∧ Sid (allB (fun v => decide (topsN bs v bs = 1)) ((vertsL many).take k) = true) ∧ Sid (Ext No w wr)) (fun i _ => many.toNat - (intOf i).toNat)
          case atStart => exact ⟨0, by omega, rfl, ⟨by simp [allB]⟩, HX⟩
          case round =>
            clear hb0 HX
            obtain ⟨k, hk, rfl, HS, HX⟩ := hrel
            by_cases hlt : (k : Int) < many
            · have HVk := Sid.mk (vertsL_at hlt)
              obtain ⟨t, ht⟩ : ∃ t, topsN bs (k : Int) bs = t := ⟨_, rfl⟩
              have HT := Sid.mk ht
              clear ht
              by_cases ht1 : t = 1
              · subst ht1
                go_wp2_with (go_at_call 47; refine (tops_any _ bs _ _ (HV.out.no HX.out) HP.out).mono ?_; rintro e w' ⟨rfl, hx⟩; rw [HT.out]; have HC := Sid.mk hx; clear hx)
                go_roundw
                case rel => exact ⟨k+1, by omega, by go_num, ⟨allB_succ HS.out HVk.out (by simp [HT.out])⟩, ⟨HX.out.trans HC.out⟩⟩
                case measure => simp [intOf]; omega
              · go_wp2_with (go_at_call 47; refine (tops_any _ bs _ _ (HV.out.no HX.out) HP.out).mono ?_; rintro e w' ⟨rfl, hx⟩; rw [HT.out]; have HC := Sid.mk hx; clear hx)
                go_ret
                exact ⟨ret_bool (by rw [GA.out, GB.out, allB_false HVk.out (by simp [HT.out, ht1])]; rfl), HX.out.trans HC.out⟩
            · go_wp2
              go_ret
              exact ⟨ret_bool (by rw [GA.out, GB.out, vertsTo HS.out (by omega)]; rfl), HX.out⟩
end Go.Proofs.YtceiaekkfabeaaaDoor

/- DecompMay: the walk over the law. -/
namespace Go.Proofs.YtceiaekkfabeaaaDoor
open Go.RowKit Go.Shelf Pl

theorem home_eq {r : List Int} {b : Bag} (hr : ∀ v ∈ r, 0 ≤ v) (hb : ∀ v ∈ b.vs, 0 ≤ v) : homeB (ofTo r) b = withinB r b.vs := sub_within hr hb
theorem home_law {many : Int} {es : List (List Int)} {L : List Bag} (h : checkE many es L = 0) {n : Nat} {r : List Int} (hr : es[n]? = some r) {j : Nat} (hj : j ≤ L.length) (h1 : ∀ (i : Nat) (b : Bag), i < j → L[i]? = some b → withinB r b.vs = false) (h2 : ∀ b, L[j]? = some b → withinB r b.vs = true) :
    idxF (homeB (ofTo r)) L = (j : Int) := by
  obtain ⟨g1, g2, g3⟩ := checkE_ok h
  have hlaw := check_law (bs := L) g1
  have hR : rightB many es L = true := by
    cases hb : rightB many es L with
    | true => rfl
    | false => rw [hb, h] at hlaw; cases hlaw
  have hr0 := hyper_nonneg g1 r (List.mem_of_getElem? hr)
  obtain ⟨_, hs⟩ := shaped_bags g2
  have hjl : j < L.length := Classical.byContradiction fun hh => by
    simp only [rightB, Bool.and_eq_true] at hR
    have := hR.1.2
    rw [allB, List.all_eq_true] at this
    have := this r (List.mem_of_getElem? hr)
    rw [anyB, List.any_eq_true] at this
    obtain ⟨b, hb, hw⟩ := this
    obtain ⟨i, hi⟩ := List.mem_iff_getElem?.1 hb
    have hil := (List.getElem?_eq_some_iff.1 hi).1
    rw [h1 i b (by omega) hi] at hw; cases hw
  have hx := List.getElem?_eq_getElem hjl
  refine idxF_at (fun i b hi hb => ?_) hx ?_
  · rw [home_eq hr0 (rises_nonneg (hs i b hb).1)]; exact h1 i b hi hb
  · rw [home_eq hr0 (rises_nonneg (hs j _ hx).1)]; exact h2 _ hx

set_option maxHeartbeats 4000000 in
set_option maxRecDepth 100000 in
theorem may_law_any {P P1 P2 : Nat → Prop} (many : Int) (ev lv nv : Value) (es : List (List Int)) (bs : List Bag) (ns : List Int) (w : World) (he : RowsR P w ev es) (hb : BagsR P1 w lv bs) (hn : IntsR .i64 P2 w nv ns) (hT : TabW w) :
    Calls Tryd.prog 5 #[.agg #[.int .i64 many, ev], lv, nv] w fun e w' => e = .returned (.bool true) ∧ Ext No w w' := by
  obtain ⟨Ae, ce, rfl, _⟩ := he.at
  obtain ⟨Al, cl, rfl, _⟩ := hb.at
  obtain ⟨An, cn, rfl, _, hmn, hatn⟩ := hn.at
  have HE := Sid.mk he
  have HBG := Sid.mk hb
  have HATN := Sid.mk hatn
  have HT := Sid.mk hT
  clear he hb hn hatn hT
  have HB0 : Sid (∀ w', Ext No (w.alloc (.cells #[.int .i64 many, .slice Ae es.length ce] 24)) w' → w'.cell? ⟨w.heap.size, 0, none⟩ = some (.int .i64 many) ∧ w'.cell? ⟨w.heap.size, 1, none⟩ = some (.slice Ae es.length ce)) := ⟨fun w' hx => ⟨hx.no (by simp), hx.no (by simp)⟩⟩
  cases hob : ownB many es with
  | false =>
    have HOB := Sid.mk hob
    clear hob
    go_enter Tryd.func5, Tryd.ntmps5
    go_wp2_with (first
      | (go_at_call 8; refine (wakes_any _ (HT.out.no (ext_box _))).mono ?_; rintro e w1 ⟨rfl, hx1⟩; have h0 := (HB0.out _ hx1).1; have h1 := (HB0.out _ hx1).2; have HX1 := Sid.mk hx1; clear hx1)
      | (go_at_call 9; refine (own_any many _ es _ (HE.out.no ((ext_box _).trans HX1.out))).mono ?_; rintro e w2 ⟨hx2, hif⟩; rw [HOB.out] at hif; simp only [Bool.false_eq_true, if_false] at hif; subst hif; have HX2 := Sid.mk hx2; clear hx2))
    go_ret
    exact ⟨rfl, (((ext_box _).trans HX1.out).trans HX2.out).alloc _⟩
  | true =>
    have HOB := Sid.mk hob
    have h8 : es.length ≤ 7 ∧ many ≤ 6 := by simp only [ownB, Bool.and_eq_true, decide_eq_true_eq] at hob; exact hob.1
    clear hob
    obtain ⟨L, hL⟩ : ∃ L, L = fewL bs := ⟨_, rfl⟩
    have HLE := Sid.mk hL
    clear hL
    obtain ⟨N, hN⟩ : ∃ N, N = checkE many es L := ⟨_, rfl⟩
    have HNE := Sid.mk hN
    clear hN
    obtain ⟨M, hM⟩ : ∃ M, M = widthTo 0 L := ⟨_, rfl⟩
    have HME := Sid.mk hM
    clear hM
    cases hg1 : hyperB many es with
    | false =>
      have hN3 : N = 300 := by rw [HNE.out, checkE, if_pos hg1]
      subst hN3
      have G1 := Sid.mk hg1
      clear hg1
      go_enter Tryd.func5, Tryd.ntmps5
      go_wp2_with (first
        | (go_at_call 8; refine (wakes_any _ (HT.out.no (ext_box _))).mono ?_; rintro e w1 ⟨rfl, hx1⟩; have h0 := (HB0.out _ hx1).1; have h1 := (HB0.out _ hx1).2; have HX1 := Sid.mk hx1; clear hx1)
        | (go_at_call 9; refine (own_any many _ es _ (HE.out.no ((ext_box _).trans HX1.out))).mono ?_; rintro e w2 ⟨hx2, hif⟩; rw [HOB.out] at hif; simp only [if_true] at hif; obtain ⟨v2, rfl, hr2⟩ := hif; obtain ⟨A2, c2, rfl, _⟩ := hr2.at; have HR2 := Sid.mk hr2; have HX2 := Sid.mk hx2; clear hr2 hx2)
        | (go_at_call 22; refine (few_any _ bs _ (HBG.out.no (((ext_box _).trans (HX1.out.trans HX2.out)).alloc _))).mono ?_; rintro e w3 ⟨v3, rfl, hb3, hx3⟩; rw [← HLE.out] at hb3; obtain ⟨A3, c3, rfl, _⟩ := hb3.at; have HB3 := Sid.mk hb3; have hg0 := hx3.no (p := ⟨w2.heap.size, 0, none⟩) (v := .int .i64 many) (by simp); have hg1 := hx3.no (p := ⟨w2.heap.size, 1, none⟩) (v := .slice A2 es.length c2) (by simp); have HX3 := Sid.mk hx3; clear hb3 hx3)
        | (go_at_call 23; refine (Check_any many _ _ es L _ (HR2.out.no ((ext_box _).trans HX3.out)) HB3.out).mono ?_; rintro e w4 ⟨rfl, hx4⟩; rw [← HNE.out]; have hg2 := hx4.no hg0; have hg3 := hx4.no hg1; have HX4 := Sid.mk hx4; clear hx4)
        | (go_at_call 12; refine (Right20_any many _ es _ (HR2.out.no ((ext_box _).trans (HX3.out.trans HX4.out)))).mono ?_; rintro e w5 ⟨rfl, hx5⟩; rw [G1.out]; have hg4 := hx5.no hg2; have hg5 := hx5.no hg3; have HX5 := Sid.mk hx5; clear hx5))
      obtain ⟨W, hW⟩ : ∃ W : World, W = w5 := ⟨_, rfl⟩
      have HXW : Sid (Ext No w W) := ⟨by rw [hW]; exact ((ext_box _).trans (HX1.out.trans HX2.out)).trans ((ext_box _).trans (HX3.out.trans (HX4.out.trans HX5.out)))⟩
      have HRW : Sid (RowsR (fun k => w1.heap.size ≤ k) W (.slice A2 es.length c2) es) := ⟨by rw [hW]; exact HR2.out.no ((ext_box _).trans (HX3.out.trans (HX4.out.trans HX5.out)))⟩
      have HBW : Sid (BagsR (fun k => (w2.alloc (.cells #[.int .i64 many, .slice A2 es.length c2] 24)).heap.size ≤ k) W (.slice A3 L.length c3) L) := ⟨by rw [hW]; exact HB3.out.no (HX4.out.trans HX5.out)⟩
      have HCW : Sid (∀ w', Ext No W w' → w'.cell? ⟨w2.heap.size, 0, none⟩ = some (.int .i64 many) ∧ w'.cell? ⟨w2.heap.size, 1, none⟩ = some (.slice A2 es.length c2)) := ⟨fun w' hx => ⟨hx.no (by rw [hW]; exact hg4), hx.no (by rw [hW]; exact hg5)⟩⟩
      obtain ⟨A9, c9, e9, _, _, hatl⟩ := HBW.out.at
      simp only [Value.slice.injEq, true_and] at e9
      obtain ⟨rfl, rfl⟩ := e9
      have HATL := Sid.mk hatl
      rw [← hW]
      clear hW hg0 hg1 hg2 hg3 hg4 hg5 h0 h1 hatl
      go_loopw [12, 42] (fun m i wr => ∃ k : Nat, k ≤ L.length ∧ i = .int .i64 (k : Int) ∧ m = .int .i64 (widthTo 0 (L.take k)) ∧ Sid (Ext No W wr)) (fun _ i _ => L.length - (intOf i).toNat)
      case atStart => exact ⟨0, Nat.zero_le _, rfl, by simp [widthTo], ⟨Ext.refl _ _⟩⟩
      case round =>
        obtain ⟨k, hk, rfl, rfl, HX⟩ := hrel
        obtain ⟨wo, rfl⟩ : ∃ wo : World, wo = wr := ⟨_, rfl⟩
        by_cases hlt : k < L.length
        · obtain ⟨b, off, A1, c1, A2', c2', vs, es1, p, rfl, _, q0, q1, q2, HB, _, _⟩ := HATL.out k hlt
          replace q0 := HX.out.no q0
          replace q1 := HX.out.no q1
          replace q2 := HX.out.no q2
          go_wp2
          go_roundw
          case rel => exact ⟨k + 1, by omega, by go_num, congrArg _ (by rw [widthTo_succ HB.out]; simp only; split <;> omega), ⟨HX.out.alloc _⟩⟩
          case measure => simp [intOf]; omega
        · obtain rfl : k = L.length := by omega
          rw [show widthTo 0 (L.take L.length) = M from by rw [List.take_length, HME.out]]
          go_wp2_with (go_at_call 21; refine (Width_any _ L _ (HBW.out.no HX.out)).mono ?_; rintro e w7 ⟨rfl, hx7⟩; rw [← HME.out]; have HX7 : Sid (Ext No W w7) := ⟨HX.out.trans hx7⟩; clear hx7)
          go_loopw [63] (fun i wr => ∃ k : Nat, k ≤ ns.length ∧ i = .int .i64 (k : Int) ∧ Sid (Ext No W wr)) (fun i _ => ns.length - (intOf i).toNat)
          case atStart => exact ⟨0, Nat.zero_le _, rfl, HX7⟩
          case round =>
            obtain ⟨k, hk, rfl, HX8⟩ := hrel
            obtain ⟨wq, rfl⟩ : ∃ wq : World, wq = wr := ⟨_, rfl⟩
            have hg8 := (HCW.out _ HX8.out).1
            have hg9 := (HCW.out _ HX8.out).2
            by_cases hlt : k < ns.length
            · obtain ⟨b, off, n, rfl, _, hcell0, HNV⟩ := HATN.out k hlt
              have hcell := (HXW.out.trans HX8.out).no hcell0
              clear hcell0
              by_cases h6 : k = 6
              · have h6' : ((k : Int) == 6) = true := by simp [h6]
                clear h6
                go_wp2
                go_ret
                exact ⟨rfl, HXW.out.trans HX8.out⟩
              · have h6' : ((k : Int) == 6) = false := by rw [beq_eq_false_iff_ne]; omega
                clear h6
                have HHA : Sid (homeA many es L n = (0, 300)) := ⟨by rw [homeA, if_pos (by rw [← HNE.out]; decide), ← HNE.out]⟩
                go_wp2_with (go_at_call 24; refine (Home_any many _ _ es L n _ (HRW.out.no HX8.out) (HBW.out.no HX8.out)).mono ?_; rintro e w9 ⟨rfl, hx9⟩; rw [HHA.out]; have hga := hx9.no hg8; have hgb := hx9.no hg9; have HX9 : Sid (Ext No W w9) := ⟨HX8.out.trans hx9⟩; clear hx9)
                go_roundw
                case rel => exact ⟨k + 1, by omega, by go_num, HX9⟩
                case measure => simp [intOf]; omega
            · go_wp2
              go_ret
              exact ⟨rfl, HXW.out.trans HX8.out⟩
    | true =>
      have hlaw := check_law (bs := L) hg1
      have G1 := Sid.mk hg1
      cases hg2 : rightB many es L with
      | false =>
        have hN3 : N = 310 := by rw [HNE.out, hlaw, hg2]; rfl
        subst hN3
        have G2 := Sid.mk hg2
        clear hg1 hg2 hlaw
        go_enter Tryd.func5, Tryd.ntmps5
        go_wp2_with (first
          | (go_at_call 8; refine (wakes_any _ (HT.out.no (ext_box _))).mono ?_; rintro e w1 ⟨rfl, hx1⟩; have h0 := (HB0.out _ hx1).1; have h1 := (HB0.out _ hx1).2; have HX1 := Sid.mk hx1; clear hx1)
          | (go_at_call 9; refine (own_any many _ es _ (HE.out.no ((ext_box _).trans HX1.out))).mono ?_; rintro e w2 ⟨hx2, hif⟩; rw [HOB.out] at hif; simp only [if_true] at hif; obtain ⟨v2, rfl, hr2⟩ := hif; obtain ⟨A2, c2, rfl, _⟩ := hr2.at; have HR2 := Sid.mk hr2; have HX2 := Sid.mk hx2; clear hr2 hx2)
          | (go_at_call 22; refine (few_any _ bs _ (HBG.out.no (((ext_box _).trans (HX1.out.trans HX2.out)).alloc _))).mono ?_; rintro e w3 ⟨v3, rfl, hb3, hx3⟩; rw [← HLE.out] at hb3; obtain ⟨A3, c3, rfl, _⟩ := hb3.at; have HB3 := Sid.mk hb3; have hg0 := hx3.no (p := ⟨w2.heap.size, 0, none⟩) (v := .int .i64 many) (by simp); have hg1 := hx3.no (p := ⟨w2.heap.size, 1, none⟩) (v := .slice A2 es.length c2) (by simp); have HX3 := Sid.mk hx3; clear hb3 hx3)
          | (go_at_call 23; refine (Check_any many _ _ es L _ (HR2.out.no ((ext_box _).trans HX3.out)) HB3.out).mono ?_; rintro e w4 ⟨rfl, hx4⟩; rw [← HNE.out]; have hg2 := hx4.no hg0; have hg3 := hx4.no hg1; have HX4 := Sid.mk hx4; clear hx4)
          | (go_at_call 12; refine (Right20_any many _ es _ (HR2.out.no ((ext_box _).trans (HX3.out.trans HX4.out)))).mono ?_; rintro e w5 ⟨rfl, hx5⟩; rw [G1.out]; have hg4 := hx5.no hg2; have hg5 := hx5.no hg3; have HX5 := Sid.mk hx5; clear hx5)
          | (go_at_call 20; refine (Right21_any many _ _ es L _ (HR2.out.no ((ext_box _).trans (HX3.out.trans (HX4.out.trans HX5.out)))) (HB3.out.no (HX4.out.trans HX5.out)) (by omega)).mono ?_; rintro e w6 ⟨rfl, hx6⟩; rw [G2.out]; have hg6 := hx6.no hg4; have hg7 := hx6.no hg5; have HX6 := Sid.mk hx6; clear hx6))
        obtain ⟨W, hW⟩ : ∃ W : World, W = w6 := ⟨_, rfl⟩
        have HXW : Sid (Ext No w W) := ⟨by rw [hW]; exact ((ext_box _).trans (HX1.out.trans HX2.out)).trans ((ext_box _).trans (HX3.out.trans (HX4.out.trans (HX5.out.trans HX6.out))))⟩
        have HRW : Sid (RowsR (fun k => w1.heap.size ≤ k) W (.slice A2 es.length c2) es) := ⟨by rw [hW]; exact HR2.out.no ((ext_box _).trans (HX3.out.trans (HX4.out.trans (HX5.out.trans HX6.out))))⟩
        have HBW : Sid (BagsR (fun k => (w2.alloc (.cells #[.int .i64 many, .slice A2 es.length c2] 24)).heap.size ≤ k) W (.slice A3 L.length c3) L) := ⟨by rw [hW]; exact HB3.out.no (HX4.out.trans (HX5.out.trans HX6.out))⟩
        have HCW : Sid (∀ w', Ext No W w' → w'.cell? ⟨w2.heap.size, 0, none⟩ = some (.int .i64 many) ∧ w'.cell? ⟨w2.heap.size, 1, none⟩ = some (.slice A2 es.length c2)) := ⟨fun w' hx => ⟨hx.no (by rw [hW]; exact hg6), hx.no (by rw [hW]; exact hg7)⟩⟩
        obtain ⟨A9, c9, e9, _, _, hatl⟩ := HBW.out.at
        simp only [Value.slice.injEq, true_and] at e9
        obtain ⟨rfl, rfl⟩ := e9
        have HATL := Sid.mk hatl
        rw [← hW]
        clear hW hg0 hg1 hg2 hg3 hg4 hg5 hg6 hg7 h0 h1 hatl
        go_loopw [12, 42] (fun m i wr => ∃ k : Nat, k ≤ L.length ∧ i = .int .i64 (k : Int) ∧ m = .int .i64 (widthTo 0 (L.take k)) ∧ Sid (Ext No W wr)) (fun _ i _ => L.length - (intOf i).toNat)
        case atStart => exact ⟨0, Nat.zero_le _, rfl, by simp [widthTo], ⟨Ext.refl _ _⟩⟩
        case round =>
          obtain ⟨k, hk, rfl, rfl, HX⟩ := hrel
          obtain ⟨wo, rfl⟩ : ∃ wo : World, wo = wr := ⟨_, rfl⟩
          by_cases hlt : k < L.length
          · obtain ⟨b, off, A1, c1, A2', c2', vs, es1, p, rfl, _, q0, q1, q2, HB, _, _⟩ := HATL.out k hlt
            replace q0 := HX.out.no q0
            replace q1 := HX.out.no q1
            replace q2 := HX.out.no q2
            go_wp2
            go_roundw
            case rel => exact ⟨k + 1, by omega, by go_num, congrArg _ (by rw [widthTo_succ HB.out]; simp only; split <;> omega), ⟨HX.out.alloc _⟩⟩
            case measure => simp [intOf]; omega
          · obtain rfl : k = L.length := by omega
            rw [show widthTo 0 (L.take L.length) = M from by rw [List.take_length, HME.out]]
            go_wp2_with (go_at_call 21; refine (Width_any _ L _ (HBW.out.no HX.out)).mono ?_; rintro e w7 ⟨rfl, hx7⟩; rw [← HME.out]; have HX7 : Sid (Ext No W w7) := ⟨HX.out.trans hx7⟩; clear hx7)
            go_loopw [63] (fun i wr => ∃ k : Nat, k ≤ ns.length ∧ i = .int .i64 (k : Int) ∧ Sid (Ext No W wr)) (fun i _ => ns.length - (intOf i).toNat)
            case atStart => exact ⟨0, Nat.zero_le _, rfl, HX7⟩
            case round =>
              obtain ⟨k, hk, rfl, HX8⟩ := hrel
              obtain ⟨wq, rfl⟩ : ∃ wq : World, wq = wr := ⟨_, rfl⟩
              have hg8 := (HCW.out _ HX8.out).1
              have hg9 := (HCW.out _ HX8.out).2
              by_cases hlt : k < ns.length
              · obtain ⟨b, off, n, rfl, _, hcell0, HNV⟩ := HATN.out k hlt
                have hcell := (HXW.out.trans HX8.out).no hcell0
                clear hcell0
                by_cases h6 : k = 6
                · have h6' : ((k : Int) == 6) = true := by simp [h6]
                  clear h6
                  go_wp2
                  go_ret
                  exact ⟨rfl, HXW.out.trans HX8.out⟩
                · have h6' : ((k : Int) == 6) = false := by rw [beq_eq_false_iff_ne]; omega
                  clear h6
                  have HHA : Sid (homeA many es L n = (0, 310)) := ⟨by rw [homeA, if_pos (by rw [← HNE.out]; decide), ← HNE.out]⟩
                  go_wp2_with (go_at_call 24; refine (Home_any many _ _ es L n _ (HRW.out.no HX8.out) (HBW.out.no HX8.out)).mono ?_; rintro e w9 ⟨rfl, hx9⟩; rw [HHA.out]; have hga := hx9.no hg8; have hgb := hx9.no hg9; have HX9 : Sid (Ext No W w9) := ⟨HX8.out.trans hx9⟩; clear hx9)
                  go_roundw
                  case rel => exact ⟨k + 1, by omega, by go_num, HX9⟩
                  case measure => simp [intOf]; omega
              · go_wp2
                go_ret
                exact ⟨rfl, HXW.out.trans HX8.out⟩
      | true =>
        have hN3 : N = 0 := by rw [HNE.out, hlaw, hg2]; rfl
        subst hN3
        have G2 := Sid.mk hg2
        clear hg1 hg2 hlaw
        go_enter Tryd.func5, Tryd.ntmps5
        go_wp2_with (first
          | (go_at_call 8; refine (wakes_any _ (HT.out.no (ext_box _))).mono ?_; rintro e w1 ⟨rfl, hx1⟩; have h0 := (HB0.out _ hx1).1; have h1 := (HB0.out _ hx1).2; have HX1 := Sid.mk hx1; clear hx1)
          | (go_at_call 9; refine (own_any many _ es _ (HE.out.no ((ext_box _).trans HX1.out))).mono ?_; rintro e w2 ⟨hx2, hif⟩; rw [HOB.out] at hif; simp only [if_true] at hif; obtain ⟨v2, rfl, hr2⟩ := hif; obtain ⟨A2, c2, rfl, _⟩ := hr2.at; have HR2 := Sid.mk hr2; have HX2 := Sid.mk hx2; clear hr2 hx2)
          | (go_at_call 22; refine (few_any _ bs _ (HBG.out.no (((ext_box _).trans (HX1.out.trans HX2.out)).alloc _))).mono ?_; rintro e w3 ⟨v3, rfl, hb3, hx3⟩; rw [← HLE.out] at hb3; obtain ⟨A3, c3, rfl, _⟩ := hb3.at; have HB3 := Sid.mk hb3; have hg0 := hx3.no (p := ⟨w2.heap.size, 0, none⟩) (v := .int .i64 many) (by simp); have hg1 := hx3.no (p := ⟨w2.heap.size, 1, none⟩) (v := .slice A2 es.length c2) (by simp); have HX3 := Sid.mk hx3; clear hb3 hx3)
          | (go_at_call 23; refine (Check_any many _ _ es L _ (HR2.out.no ((ext_box _).trans HX3.out)) HB3.out).mono ?_; rintro e w4 ⟨rfl, hx4⟩; rw [← HNE.out]; have hg2 := hx4.no hg0; have hg3 := hx4.no hg1; have HX4 := Sid.mk hx4; clear hx4)
          | (go_at_call 12; refine (Right20_any many _ es _ (HR2.out.no ((ext_box _).trans (HX3.out.trans HX4.out)))).mono ?_; rintro e w5 ⟨rfl, hx5⟩; rw [G1.out]; have hg4 := hx5.no hg2; have hg5 := hx5.no hg3; have HX5 := Sid.mk hx5; clear hx5)
          | (go_at_call 20; refine (Right21_any many _ _ es L _ (HR2.out.no ((ext_box _).trans (HX3.out.trans (HX4.out.trans HX5.out)))) (HB3.out.no (HX4.out.trans HX5.out)) (by omega)).mono ?_; rintro e w6 ⟨rfl, hx6⟩; rw [G2.out]; have hg6 := hx6.no hg4; have hg7 := hx6.no hg5; have HX6 := Sid.mk hx6; clear hx6))
        obtain ⟨W, hW⟩ : ∃ W : World, W = w6 := ⟨_, rfl⟩
        have HXW : Sid (Ext No w W) := ⟨by rw [hW]; exact ((ext_box _).trans (HX1.out.trans HX2.out)).trans ((ext_box _).trans (HX3.out.trans (HX4.out.trans (HX5.out.trans HX6.out))))⟩
        have HRW : Sid (RowsR (fun k => w1.heap.size ≤ k) W (.slice A2 es.length c2) es) := ⟨by rw [hW]; exact HR2.out.no ((ext_box _).trans (HX3.out.trans (HX4.out.trans (HX5.out.trans HX6.out))))⟩
        have HBW : Sid (BagsR (fun k => (w2.alloc (.cells #[.int .i64 many, .slice A2 es.length c2] 24)).heap.size ≤ k) W (.slice A3 L.length c3) L) := ⟨by rw [hW]; exact HB3.out.no (HX4.out.trans (HX5.out.trans HX6.out))⟩
        have HCW : Sid (∀ w', Ext No W w' → w'.cell? ⟨w2.heap.size, 0, none⟩ = some (.int .i64 many) ∧ w'.cell? ⟨w2.heap.size, 1, none⟩ = some (.slice A2 es.length c2)) := ⟨fun w' hx => ⟨hx.no (by rw [hW]; exact hg6), hx.no (by rw [hW]; exact hg7)⟩⟩
        obtain ⟨A9, c9, e9, _, _, hatl⟩ := HBW.out.at
        simp only [Value.slice.injEq, true_and] at e9
        obtain ⟨rfl, rfl⟩ := e9
        have HATL := Sid.mk hatl
        rw [← hW]
        clear hW hg0 hg1 hg2 hg3 hg4 hg5 hg6 hg7 h0 h1 hatl
        go_loopw [12, 42] (fun m i wr => ∃ k : Nat, k ≤ L.length ∧ i = .int .i64 (k : Int) ∧ m = .int .i64 (widthTo 0 (L.take k)) ∧ Sid (Ext No W wr)) (fun _ i _ => L.length - (intOf i).toNat)
        case atStart => exact ⟨0, Nat.zero_le _, rfl, by simp [widthTo], ⟨Ext.refl _ _⟩⟩
        case round =>
          obtain ⟨k, hk, rfl, rfl, HX⟩ := hrel
          obtain ⟨wo, rfl⟩ : ∃ wo : World, wo = wr := ⟨_, rfl⟩
          by_cases hlt : k < L.length
          · obtain ⟨b, off, A1, c1, A2', c2', vs, es1, p, rfl, _, q0, q1, q2, HB, _, _⟩ := HATL.out k hlt
            replace q0 := HX.out.no q0
            replace q1 := HX.out.no q1
            replace q2 := HX.out.no q2
            go_wp2
            go_roundw
            case rel => exact ⟨k + 1, by omega, by go_num, congrArg _ (by rw [widthTo_succ HB.out]; simp only; split <;> omega), ⟨HX.out.alloc _⟩⟩
            case measure => simp [intOf]; omega
          · obtain rfl : k = L.length := by omega
            rw [show widthTo 0 (L.take L.length) = M from by rw [List.take_length, HME.out]]
            go_wp2_with (go_at_call 21; refine (Width_any _ L _ (HBW.out.no HX.out)).mono ?_; rintro e w7 ⟨rfl, hx7⟩; rw [← HME.out]; have HX7 : Sid (Ext No W w7) := ⟨HX.out.trans hx7⟩; clear hx7)
            go_loopw [63] (fun i wr => ∃ k : Nat, k ≤ ns.length ∧ i = .int .i64 (k : Int) ∧ Sid (Ext No W wr)) (fun i _ => ns.length - (intOf i).toNat)
            case atStart => exact ⟨0, Nat.zero_le _, rfl, HX7⟩
            case round =>
              obtain ⟨k, hk, rfl, HX8⟩ := hrel
              obtain ⟨wq, rfl⟩ : ∃ wq : World, wq = wr := ⟨_, rfl⟩
              have hg8 := (HCW.out _ HX8.out).1
              have hg9 := (HCW.out _ HX8.out).2
              by_cases hlt : k < ns.length
              · obtain ⟨b, off, n, rfl, _, hcell0, HNV⟩ := HATN.out k hlt
                have hcell := (HXW.out.trans HX8.out).no hcell0
                clear hcell0
                by_cases h6 : k = 6
                · have h6' : ((k : Int) == 6) = true := by simp [h6]
                  clear h6
                  go_wp2
                  go_ret
                  exact ⟨rfl, HXW.out.trans HX8.out⟩
                · have h6' : ((k : Int) == 6) = false := by rw [beq_eq_false_iff_ne]; omega
                  clear h6
                  by_cases hn0 : n < 0
                  · have HHA : Sid (homeA many es L n = (0, 2)) := ⟨by rw [homeA, if_neg (by rw [← HNE.out]; decide), if_pos (Or.inl hn0)]⟩
                    go_wp2_with (go_at_call 24; refine (Home_any many _ _ es L n _ (HRW.out.no HX8.out) (HBW.out.no HX8.out)).mono ?_; rintro e w9 ⟨rfl, hx9⟩; rw [HHA.out]; have hga := hx9.no hg8; have hgb := hx9.no hg9; have HX9 : Sid (Ext No W w9) := ⟨HX8.out.trans hx9⟩; clear hx9)
                    go_roundw
                    case rel => exact ⟨k + 1, by omega, by go_num, HX9⟩
                    case measure => simp [intOf]; omega
                  · by_cases hn1 : (es.length : Int) ≤ n
                    · have HHA : Sid (homeA many es L n = (0, 2)) := ⟨by rw [homeA, if_neg (by rw [← HNE.out]; decide), if_pos (Or.inr hn1)]⟩
                      go_wp2_with (go_at_call 24; refine (Home_any many _ _ es L n _ (HRW.out.no HX8.out) (HBW.out.no HX8.out)).mono ?_; rintro e w9 ⟨rfl, hx9⟩; rw [HHA.out]; have hga := hx9.no hg8; have hgb := hx9.no hg9; have HX9 : Sid (Ext No W w9) := ⟨HX8.out.trans hx9⟩; clear hx9)
                      go_roundw
                      case rel => exact ⟨k + 1, by omega, by go_num, HX9⟩
                      case measure => simp [intOf]; omega
                    · obtain ⟨nn, rfl⟩ := Int.eq_ofNat_of_zero_le (by omega : 0 ≤ n)
                      have hnl : nn < es.length := by omega
                      obtain ⟨r, hr⟩ : ∃ r, es[nn]? = some r := ⟨_, List.getElem?_eq_getElem hnl⟩
                      have HRR := Sid.mk hr
                      obtain ⟨J, hJ⟩ : ∃ J, J = idxF (homeB (ofTo r)) L := ⟨_, rfl⟩
                      have HJ := Sid.mk hJ
                      have HHA : Sid (homeA many es L (nn : Int) = (J, 0)) := ⟨by rw [homeA, if_neg (by rw [← HNE.out]; decide), if_neg (by omega), edgeAt_of rfl hr, hJ]⟩
                      obtain ⟨Aq, cq, eq9, _, _, hatr⟩ := HRW.out.at
                      simp only [Value.slice.injEq, true_and] at eq9
                      obtain ⟨rfl, rfl⟩ := eq9
                      obtain ⟨bq, offq, Ar, cr, r9, rfl, _, hcr0, HR9, HIR⟩ := hatr nn hnl
                      obtain rfl : r9 = r := by have h := HR9.out; rw [hr] at h; cases h; rfl
                      have HCR := Sid.mk hcr0
                      clear hr hJ hatr hcr0
                      go_wp2_with (go_at_call 24; refine (Home_any many _ _ es L (nn : Int) _ (HRW.out.no HX8.out) (HBW.out.no HX8.out)).mono ?_; rintro e w9 ⟨rfl, hx9⟩; rw [HHA.out]; have hga := hx9.no hg8; have hgb := hx9.no hg9; have HX9 : Sid (Ext No W w9) := ⟨HX8.out.trans hx9⟩; clear hx9)
                      go_loopw [19] (fun tv wr => ∃ j : Nat, j ≤ L.length ∧ tv = .int .i64 (j : Int) ∧ Sid (∀ (i : Nat) (b : Bag), i < j → L[i]? = some b → withinB r9 b.vs = false) ∧ Sid (Ext No W wr)) (fun tv _ => L.length - (intOf tv).toNat)
                      case atStart => exact ⟨0, Nat.zero_le _, rfl, ⟨fun i b hi => by omega⟩, HX9⟩
                      case round =>
                        obtain ⟨j, hj, rfl, HNB, HXa⟩ := hrel
                        obtain ⟨wz, rfl⟩ : ∃ wz : World, wz = wr := ⟨_, rfl⟩
                        have hgc := (HCW.out _ HXa.out).1
                        have hgd := (HCW.out _ HXa.out).2
                        have hcr := HXa.out.no HCR.out
                        by_cases hjl : j < L.length
                        · obtain ⟨b4, off4, A4, c4, A5, c5, vs, es1, p, rfl, _, q0, q1, q2, HB, HI1, HI2⟩ := HATL.out j hjl
                          replace q0 := HXa.out.no q0
                          have HD1 : Sid (Ext No W wz.drew) := ⟨HXa.out.drew⟩
                          cases hwi : withinB r9 vs with
                          | false =>
                            have HWI := Sid.mk hwi
                            clear hwi
                            go_wp2
                            go_still_tail 15, (by kernel_rfl)
                            change wpList _ _ _ _ _ wz.drew
                            go_wp2_with (go_at_call 25; refine (all_any _ _ r9 vs _ (HIR.out.no HD1.out) (HI1.out.no HD1.out)).mono ?_; rintro e wb ⟨rfl, hxb⟩; rw [HWI.out]; have HXb : Sid (Ext No W wb) := ⟨HD1.out.trans hxb⟩; clear hxb)
                            go_roundw
                            case rel => exact ⟨j + 1, by omega, by go_num, ⟨fun i b hi hb => by
                              by_cases hij : i = j
                              · subst hij; rw [HB.out] at hb; cases hb; exact HWI.out
                              · exact HNB.out i b (by omega) hb⟩, HXb⟩
                            case measure => simp [intOf]; omega
                          | true =>
                            have HWI := Sid.mk hwi
                            have hJj : J = (j : Int) := by rw [HJ.out]; exact home_law HNE.out.symm HRR.out (by omega) HNB.out (fun b hb => by rw [HB.out] at hb; cases hb; exact hwi)
                            clear hwi
                            subst hJj
                            go_wp2
                            go_still_tail 15, (by kernel_rfl)
                            change wpList _ _ _ _ _ wz.drew
                            go_wp2_with (go_at_call 25; refine (all_any _ _ r9 vs _ (HIR.out.no HD1.out) (HI1.out.no HD1.out)).mono ?_; rintro e wb ⟨rfl, hxb⟩; rw [HWI.out]; have HXb : Sid (Ext No W wb) := ⟨HD1.out.trans hxb⟩; clear hxb)
                            go_roundw
                            case rel => exact ⟨k + 1, by omega, by go_num, HXb⟩
                            case measure => simp [intOf]; omega
                        · obtain rfl : j = L.length := by omega
                          have hJj : J = (L.length : Int) := by rw [HJ.out]; exact home_law HNE.out.symm HRR.out (Nat.le_refl _) HNB.out (fun b hb => by simp at hb)
                          subst hJj
                          go_wp2
                          go_quiet (fail)
                          go_wp2
                          go_roundw
                          case rel => exact ⟨k + 1, by omega, by go_num, ⟨HXa.out.drewN _⟩⟩
                          case measure => simp [intOf]; omega
              · go_wp2
                go_ret
                exact ⟨rfl, HXW.out.trans HX8.out⟩
end Go.Proofs.YtceiaekkfabeaaaDoor
