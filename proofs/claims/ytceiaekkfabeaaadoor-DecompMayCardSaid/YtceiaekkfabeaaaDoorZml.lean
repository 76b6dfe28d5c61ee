/- Words and contracts for: DecompMay: whatever hypergraph, bags and numbers are given, the law answers true, and its arguments read as before -/
import Derived.Test.YtceiaekkfabeaaaDoorZmk
/- DecompCovers: the walk over the law. -/
namespace Go.Proofs.YtceiaekkfabeaaaDoor
open Go.RowKit Go.Shelf Pl

theorem IntsR.takes {k : IntKind} {P : Nat → Prop} {w : World} {A : Option Addr} {n c : Nat} {xs : List Int} (h : IntsR k P w (.slice A n c) xs) (m : Nat) (hm : m ≤ n) : IntsR k P w (.slice A m c) (xs.take m) := by
  obtain ⟨A', c', hv, hc, hmx, hn⟩ := h
  simp only [Value.slice.injEq] at hv
  obtain ⟨rfl, rfl, rfl⟩ := hv
  have hl : (xs.take m).length = m := by rw [List.length_take]; omega
  refine ⟨A, c, by rw [hl], ⟨by omega, hc.2⟩, by omega, fun hp => ?_⟩
  obtain ⟨ad, ha, hpa, hs, hj⟩ := hn (by omega)
  refine ⟨ad, ha, hpa, hs, fun j hjl => ?_⟩
  obtain ⟨cs, h1, h2, h3⟩ := hj j (by omega)
  exact ⟨cs, by rw [h1]; simp, h2, h3⟩

set_option maxHeartbeats 4000000 in
set_option maxRecDepth 100000 in
theorem covers_law_any {P P1 : Nat → Prop} (many : Int) (ev rv : Value) (es rows : List (List Int)) (w : World) (he : RowsR P w ev es) (hr : RowsR P1 w rv rows) (hT : TabW w) :
    Calls Tryd.prog 3 #[.agg #[.int .i64 many, ev], rv] w fun e w' => e = .returned (.bool true) ∧ Ext No w w' := by
  obtain ⟨Ae, ce, rfl, _⟩ := he.at
  obtain ⟨Ar, cr, rfl, _, hmr, hat⟩ := hr.at
  have HE := Sid.mk he
  have HR := Sid.mk hr
  have HAT := Sid.mk hat
  have HT := Sid.mk hT
  clear he hr hat hT
  have HB0 : Sid (∀ w', Ext No (w.alloc (.cells #[.int .i64 many, .slice Ae es.length ce] 24)) w' → w'.cell? ⟨w.heap.size, 0, none⟩ = some (.int .i64 many) ∧ w'.cell? ⟨w.heap.size, 1, none⟩ = some (.slice Ae es.length ce)) := ⟨fun w' hx => ⟨hx.no (by simp), hx.no (by simp)⟩⟩
  cases hob : ownB many es with
  | false =>
    have HOB := Sid.mk hob
    clear hob
    go_enter Tryd.func3, Tryd.ntmps3
    go_wp2_with (first
      | (go_at_call 8; refine (wakes_any _ (HT.out.no (ext_box _))).mono ?_; rintro e w1 ⟨rfl, hx1⟩; have h0 := (HB0.out _ hx1).1; have h1 := (HB0.out _ hx1).2; have HX1 := Sid.mk hx1; clear hx1)
      | (go_at_call 9; refine (own_any many _ es _ (HE.out.no ((ext_box _).trans HX1.out))).mono ?_; rintro e w2 ⟨hx2, hif⟩; rw [HOB.out] at hif; simp only [Bool.false_eq_true, if_false] at hif; subst hif; have HX2 := Sid.mk hx2; clear hx2))
    go_ret
    exact ⟨rfl, (((ext_box _).trans HX1.out).trans HX2.out).alloc _⟩
  | true =>
    have HOB := Sid.mk hob
    have h8 : es.length ≤ 7 ∧ many ≤ 6 := by simp only [ownB, Bool.and_eq_true, decide_eq_true_eq] at hob; exact hob.1
    clear hob
    go_enter Tryd.func3, Tryd.ntmps3
    go_wp2_with (first
      | (go_at_call 8; refine (wakes_any _ (HT.out.no (ext_box _))).mono ?_; rintro e w1 ⟨rfl, hx1⟩; have h0 := (HB0.out _ hx1).1; have h1 := (HB0.out _ hx1).2; have HX1 := Sid.mk hx1; clear hx1)
      | (go_at_call 9; refine (own_any many _ es _ (HE.out.no ((ext_box _).trans HX1.out))).mono ?_; rintro e w2 ⟨hx2, hif⟩; rw [HOB.out] at hif; simp only [if_true] at hif; obtain ⟨v2, rfl, hr2⟩ := hif; obtain ⟨A2, c2, rfl, _⟩ := hr2.at; have HR2 := Sid.mk hr2; have HX2 := Sid.mk hx2; clear hr2 hx2))
    obtain ⟨W, hW⟩ : ∃ W, W = w2.alloc (.cells #[.int .i64 many, .slice A2 es.length c2] 24) := ⟨_, rfl⟩
    have HXW : Sid (Ext No w W) := ⟨by rw [hW]; exact (((ext_box _).trans HX1.out).trans HX2.out).alloc _⟩
    have HRW : Sid (RowsR (fun k => w1.heap.size ≤ k) W (.slice A2 es.length c2) es) := ⟨by rw [hW]; exact HR2.out.no (ext_box _)⟩
    have HCW : Sid (∀ w', Ext No W w' → w'.cell? ⟨w2.heap.size, 0, none⟩ = some (.int .i64 many) ∧ w'.cell? ⟨w2.heap.size, 1, none⟩ = some (.slice A2 es.length c2)) := ⟨fun w' hx => ⟨hx.no (by rw [hW]; simp), hx.no (by rw [hW]; simp)⟩⟩
    rw [← hW]
    clear hW h0 h1
    go_loopw [25] (fun i wr => ∃ k : Nat, k ≤ rows.length ∧ i = .int .i64 (k : Int) ∧ Sid (Ext No W wr)) (fun i _ => rows.length - (intOf i).toNat)
    case atStart => exact ⟨0, Nat.zero_le _, rfl, ⟨Ext.refl _ _⟩⟩
    case round =>
      obtain ⟨k, hk, rfl, HX⟩ := hrel
      obtain ⟨wo, rfl⟩ : ∃ wo : World, wo = wr := ⟨_, rfl⟩
      by_cases hlt : k < rows.length
      · obtain ⟨b, off, A', c', r, rfl, _, hcell0, HR', HI'⟩ := HAT.out k hlt
        have hcell := (HXW.out.trans HX.out).no hcell0
        have HIR : Sid (IntsR .i64 P1 wo (.slice A' r.length c') r) := ⟨HI'.out.no (HXW.out.trans HX.out)⟩
        have hg0 := (HCW.out _ HX.out).1
        have hg1 := (HCW.out _ HX.out).2
        clear hcell0 HI' HR'
        by_cases h5 : k = 5
        · have h5' : ((k : Int) == 5) = true := by simp [h5]
          clear h5
          go_wp2
          go_ret
          exact ⟨rfl, HXW.out.trans HX.out⟩
        · have h5' : ((k : Int) == 5) = false := by rw [beq_eq_false_iff_ne]; omega
          clear h5
          have hcr : r.length ≤ c' := by
            obtain ⟨A9, c9, e9, hcr, _⟩ := HIR.out.at
            simp only [Value.slice.injEq] at e9
            rw [e9.2.2]; exact hcr
          by_cases h7 : r.length ≤ 7
          · obtain ⟨r2, hr2⟩ : ∃ r2, r2 = r := ⟨_, rfl⟩
            have HI2 : Sid (IntsR .i64 P1 wo (.slice A' r.length c') r2) := ⟨by rw [hr2]; exact HIR.out⟩
            have HL7 : Sid (r2.length ≤ 7) := ⟨by rw [hr2]; exact h7⟩
            have h7' : (r.length : Int) ≤ 7 := by omega
            clear hr2 h7
            cases hg1b : hyperB many es with
            | false =>
              have HCA : Sid (coverA many es r2 = (300, none)) := ⟨by rw [coverA, if_pos hg1b]⟩
              have G1 := Sid.mk hg1b
              clear hg1b
              go_wp2_with (first
                | (go_at_call 10; refine (Clone_any _ r2 _ HI2.out (by have := HL7.out; omega)).mono ?_; rintro e w3 ⟨v3, rfl, hi3, hx3⟩; obtain ⟨A3, c3, rfl, _⟩ := hi3.at; have hg0' := hx3.no hg0; have hg1' := hx3.no hg1; have HI3 := Sid.mk hi3; have HX3 := Sid.mk hx3; clear hi3 hx3)
                | (go_at_call 11; refine (Cover_any many _ _ es r2 _ (HRW.out.no (HX.out.trans HX3.out)) HI3.out).mono ?_; rintro e w4 ⟨v4, rfl, ho4, hx4⟩; rw [HCA.out] at ho4 ⊢; have hg2 := hx4.no hg0'; have hg3 := hx4.no hg1'; obtain rfl := ho4; have HX4 := Sid.mk hx4; clear hx4)
                | (go_at_call 12; refine (Right20_any many _ es _ (HRW.out.no (HX.out.trans (HX3.out.trans HX4.out)))).mono ?_; rintro e w5 ⟨rfl, hx5⟩; rw [G1.out]; have hg4 := hx5.no hg2; have hg5 := hx5.no hg3; have HX5 := Sid.mk hx5; clear hx5)
                | (go_at_call 15; refine (Equal_any _ _ ([] : List Int) ([] : List Int) _ (ints_nil _ _ _ : IntsR .i64 (fun _ => True) _ _ []) (ints_nil _ _ _ : IntsR .i64 (fun _ => True) _ _ [])).mono ?_; rintro e w7 ⟨rfl, n7, hw7⟩; rw [show eqB ([] : List Int) ([] : List Int) = true from by simp [eqB]]; have HX7 : Sid (Ext No w5 w7) := ⟨hw7 ▸ (Ext.refl No _).drewN n7⟩; clear hw7))
              go_roundw
              case rel => exact ⟨k + 1, by omega, by go_num, ⟨HX.out.trans (HX3.out.trans (HX4.out.trans (HX5.out.trans HX7.out)))⟩⟩
              case measure => simp [intOf]; omega
            | true =>
              have G1 := Sid.mk hg1b
              cases hg2b : risesB r2 many with
              | false =>
                have HCA : Sid (coverA many es r2 = (2, none)) := ⟨by rw [coverA, if_neg (by simp [hg1b]), if_pos hg2b]⟩
                have G2 := Sid.mk hg2b
                clear hg1b hg2b
                go_wp2_with (first
                  | (go_at_call 10; refine (Clone_any _ r2 _ HI2.out (by have := HL7.out; omega)).mono ?_; rintro e w3 ⟨v3, rfl, hi3, hx3⟩; obtain ⟨A3, c3, rfl, _⟩ := hi3.at; have hg0' := hx3.no hg0; have hg1' := hx3.no hg1; have HI3 := Sid.mk hi3; have HX3 := Sid.mk hx3; clear hi3 hx3)
                  | (go_at_call 11; refine (Cover_any many _ _ es r2 _ (HRW.out.no (HX.out.trans HX3.out)) HI3.out).mono ?_; rintro e w4 ⟨v4, rfl, ho4, hx4⟩; rw [HCA.out] at ho4 ⊢; have hg2 := hx4.no hg0'; have hg3 := hx4.no hg1'; obtain rfl := ho4; have HX4 := Sid.mk hx4; clear hx4)
                  | (go_at_call 12; refine (Right20_any many _ es _ (HRW.out.no (HX.out.trans (HX3.out.trans HX4.out)))).mono ?_; rintro e w5 ⟨rfl, hx5⟩; rw [G1.out]; have hg4 := hx5.no hg2; have hg5 := hx5.no hg3; have HX5 := Sid.mk hx5; clear hx5)
                  | (go_at_call 13; refine (Rises_any _ r2 many _ (HI3.out.no (HX4.out.trans HX5.out))).mono ?_; rintro e w6 ⟨rfl, rfl⟩; rw [G2.out])
                  | (go_at_call 15; refine (Equal_any _ _ ([] : List Int) ([] : List Int) _ (ints_nil _ _ _ : IntsR .i64 (fun _ => True) _ _ []) (ints_nil _ _ _ : IntsR .i64 (fun _ => True) _ _ [])).mono ?_; rintro e w7 ⟨rfl, n7, hw7⟩; rw [show eqB ([] : List Int) ([] : List Int) = true from by simp [eqB]]; have HX7 : Sid (Ext No w5 w7) := ⟨hw7 ▸ (Ext.refl No _).drewN n7⟩; clear hw7))
                go_roundw
                case rel => exact ⟨k + 1, by omega, by go_num, ⟨HX.out.trans (HX3.out.trans (HX4.out.trans (HX5.out.trans HX7.out)))⟩⟩
                case measure => simp [intOf]; omega
              | true =>
                have G2 := Sid.mk hg2b
                have hlaw := cover_law hg1b hg2b
                cases hrc : refCover es r2 with
                | none =>
                  have HCA : Sid (coverA many es r2 = (4, none)) := ⟨by rw [hlaw, hrc]⟩
                  have HRC := Sid.mk hrc
                  clear hg1b hg2b hlaw hrc
                  go_wp2_with (first
                    | (go_at_call 10; refine (Clone_any _ r2 _ HI2.out (by have := HL7.out; omega)).mono ?_; rintro e w3 ⟨v3, rfl, hi3, hx3⟩; obtain ⟨A3, c3, rfl, _⟩ := hi3.at; have hg0' := hx3.no hg0; have hg1' := hx3.no hg1; have HI3 := Sid.mk hi3; have HX3 := Sid.mk hx3; clear hi3 hx3)
                    | (go_at_call 11; refine (Cover_any many _ _ es r2 _ (HRW.out.no (HX.out.trans HX3.out)) HI3.out).mono ?_; rintro e w4 ⟨v4, rfl, ho4, hx4⟩; rw [HCA.out] at ho4 ⊢; have hg2 := hx4.no hg0'; have hg3 := hx4.no hg1'; obtain rfl := ho4; have HX4 := Sid.mk hx4; clear hx4)
                    | (go_at_call 12; refine (Right20_any many _ es _ (HRW.out.no (HX.out.trans (HX3.out.trans HX4.out)))).mono ?_; rintro e w5 ⟨rfl, hx5⟩; rw [G1.out]; have hg4 := hx5.no hg2; have hg5 := hx5.no hg3; have HX5 := Sid.mk hx5; clear hx5)
                    | (go_at_call 13; refine (Rises_any _ r2 many _ (HI3.out.no (HX4.out.trans HX5.out))).mono ?_; rintro e w6 ⟨rfl, rfl⟩; rw [G2.out])
                    | (go_at_call 14; refine (refCover_any many _ _ es r2 _ (HRW.out.no (HX.out.trans (HX3.out.trans (HX4.out.trans HX5.out)))) (HI3.out.no (HX4.out.trans HX5.out)) (by omega) (by have := HL7.out; omega)).mono ?_; rintro e w6 ⟨v6, b6, rfl, ho6, hx6⟩; rw [HRC.out] at ho6; obtain ⟨rfl, rfl⟩ := ho6; have HX6 := Sid.mk hx6; clear hx6)
                    | (go_at_call 15; refine (Equal_any _ _ ([] : List Int) ([] : List Int) _ (ints_nil _ _ _ : IntsR .i64 (fun _ => True) _ _ []) (ints_nil _ _ _ : IntsR .i64 (fun _ => True) _ _ [])).mono ?_; rintro e w7 ⟨rfl, n7, hw7⟩; rw [show eqB ([] : List Int) ([] : List Int) = true from by simp [eqB]]; have HX7 : Sid (Ext No w6 w7) := ⟨hw7 ▸ (Ext.refl No _).drewN n7⟩; clear hw7))
                  go_roundw
                  case rel => exact ⟨k + 1, by omega, by go_num, ⟨HX.out.trans (HX3.out.trans (HX4.out.trans (HX5.out.trans (HX6.out.trans HX7.out))))⟩⟩
                  case measure => simp [intOf]; omega
                | some rr =>
                  have HCA : Sid (coverA many es r2 = (0, some rr)) := ⟨by rw [hlaw, hrc]⟩
                  have HRC := Sid.mk hrc
                  clear hg1b hg2b hlaw hrc
                  go_wp2_with (first
                    | (go_at_call 10; refine (Clone_any _ r2 _ HI2.out (by have := HL7.out; omega)).mono ?_; rintro e w3 ⟨v3, rfl, hi3, hx3⟩; obtain ⟨A3, c3, rfl, _⟩ := hi3.at; have hg0' := hx3.no hg0; have hg1' := hx3.no hg1; have HI3 := Sid.mk hi3; have HX3 := Sid.mk hx3; clear hi3 hx3)
                    | (go_at_call 11; refine (Cover_any many _ _ es r2 _ (HRW.out.no (HX.out.trans HX3.out)) HI3.out).mono ?_; rintro e w4 ⟨v4, rfl, ho4, hx4⟩; rw [HCA.out] at ho4 ⊢; have hg2 := hx4.no hg0'; have hg3 := hx4.no hg1'; obtain ⟨A4, c4, rfl, _⟩ := IntsR.at (xs := rr) ho4; have HO4 : Sid (IntsR .i64 (fun k => w3.heap.size ≤ k) w4 (.slice A4 rr.length c4) rr) := ⟨ho4⟩; clear ho4; have HX4 := Sid.mk hx4; clear hx4)
                    | (go_at_call 12; refine (Right20_any many _ es _ (HRW.out.no (HX.out.trans (HX3.out.trans HX4.out)))).mono ?_; rintro e w5 ⟨rfl, hx5⟩; rw [G1.out]; have hg4 := hx5.no hg2; have hg5 := hx5.no hg3; have HX5 := Sid.mk hx5; clear hx5)
                    | (go_at_call 13; refine (Rises_any _ r2 many _ (HI3.out.no (HX4.out.trans HX5.out))).mono ?_; rintro e w6 ⟨rfl, rfl⟩; rw [G2.out])
                    | (go_at_call 14; refine (refCover_any many _ _ es r2 _ (HRW.out.no (HX.out.trans (HX3.out.trans (HX4.out.trans HX5.out)))) (HI3.out.no (HX4.out.trans HX5.out)) (by omega) (by have := HL7.out; omega)).mono ?_; rintro e w6 ⟨v6, b6, rfl, ho6, hx6⟩; rw [HRC.out] at ho6; obtain ⟨rfl, ho6⟩ := ho6; obtain ⟨A6, c6, rfl, _⟩ := IntsR.at (xs := rr) ho6; have HO6 : Sid (IntsR .i64 (fun k => w5.heap.size ≤ k) w6 (.slice A6 rr.length c6) rr) := ⟨ho6⟩; clear ho6; have HX6 := Sid.mk hx6; clear hx6)
                    | (go_at_call 15; refine (Equal_any _ _ rr rr _ (HO4.out.no (HX5.out.trans HX6.out)) HO6.out).mono ?_; rintro e w7 ⟨rfl, n7, hw7⟩; rw [show eqB rr rr = true from by simp [eqB]]; have HX7 : Sid (Ext No w6 w7) := ⟨hw7 ▸ (Ext.refl No _).drewN n7⟩; clear hw7))
                  go_roundw
                  case rel => exact ⟨k + 1, by omega, by go_num, ⟨HX.out.trans (HX3.out.trans (HX4.out.trans (HX5.out.trans (HX6.out.trans HX7.out))))⟩⟩
                  case measure => simp [intOf]; omega
          · obtain ⟨r2, hr2⟩ : ∃ r2, r2 = r.take 7 := ⟨_, rfl⟩
            have HI2 : Sid (IntsR .i64 P1 wo (.slice A' 7 c') r2) := ⟨by rw [hr2]; exact HIR.out.takes 7 (by omega)⟩
            have HL7 : Sid (r2.length ≤ 7) := ⟨by rw [hr2, List.length_take]; omega⟩
            have h7' : (7 : Int) < (r.length : Int) := by omega
            have hc7 : (7 : Int) ≤ (c' : Int) := by omega
            clear hr2 h7
            cases hg1b : hyperB many es with
            | false =>
              have HCA : Sid (coverA many es r2 = (300, none)) := ⟨by rw [coverA, if_pos hg1b]⟩
              have G1 := Sid.mk hg1b
              clear hg1b
              go_wp2_with (first
                | (go_at_call 10; refine (Clone_any _ r2 _ HI2.out (by have := HL7.out; omega)).mono ?_; rintro e w3 ⟨v3, rfl, hi3, hx3⟩; obtain ⟨A3, c3, rfl, _⟩ := hi3.at; have hg0' := hx3.no hg0; have hg1' := hx3.no hg1; have HI3 := Sid.mk hi3; have HX3 := Sid.mk hx3; clear hi3 hx3)
                | (go_at_call 11; refine (Cover_any many _ _ es r2 _ (HRW.out.no (HX.out.trans HX3.out)) HI3.out).mono ?_; rintro e w4 ⟨v4, rfl, ho4, hx4⟩; rw [HCA.out] at ho4 ⊢; have hg2 := hx4.no hg0'; have hg3 := hx4.no hg1'; obtain rfl := ho4; have HX4 := Sid.mk hx4; clear hx4)
                | (go_at_call 12; refine (Right20_any many _ es _ (HRW.out.no (HX.out.trans (HX3.out.trans HX4.out)))).mono ?_; rintro e w5 ⟨rfl, hx5⟩; rw [G1.out]; have hg4 := hx5.no hg2; have hg5 := hx5.no hg3; have HX5 := Sid.mk hx5; clear hx5)
                | (go_at_call 15; refine (Equal_any _ _ ([] : List Int) ([] : List Int) _ (ints_nil _ _ _ : IntsR .i64 (fun _ => True) _ _ []) (ints_nil _ _ _ : IntsR .i64 (fun _ => True) _ _ [])).mono ?_; rintro e w7 ⟨rfl, n7, hw7⟩; rw [show eqB ([] : List Int) ([] : List Int) = true from by simp [eqB]]; have HX7 : Sid (Ext No w5 w7) := ⟨hw7 ▸ (Ext.refl No _).drewN n7⟩; clear hw7))
              go_roundw
              case rel => exact ⟨k + 1, by omega, by go_num, ⟨HX.out.trans (HX3.out.trans (HX4.out.trans (HX5.out.trans HX7.out)))⟩⟩
              case measure => simp [intOf]; omega
            | true =>
              have G1 := Sid.mk hg1b
              cases hg2b : risesB r2 many with
              | false =>
                have HCA : Sid (coverA many es r2 = (2, none)) := ⟨by rw [coverA, if_neg (by simp [hg1b]), if_pos hg2b]⟩
                have G2 := Sid.mk hg2b
                clear hg1b hg2b
                go_wp2_with (first
                  | (go_at_call 10; refine (Clone_any _ r2 _ HI2.out (by have := HL7.out; omega)).mono ?_; rintro e w3 ⟨v3, rfl, hi3, hx3⟩; obtain ⟨A3, c3, rfl, _⟩ := hi3.at; have hg0' := hx3.no hg0; have hg1' := hx3.no hg1; have HI3 := Sid.mk hi3; have HX3 := Sid.mk hx3; clear hi3 hx3)
                  | (go_at_call 11; refine (Cover_any many _ _ es r2 _ (HRW.out.no (HX.out.trans HX3.out)) HI3.out).mono ?_; rintro e w4 ⟨v4, rfl, ho4, hx4⟩; rw [HCA.out] at ho4 ⊢; have hg2 := hx4.no hg0'; have hg3 := hx4.no hg1'; obtain rfl := ho4; have HX4 := Sid.mk hx4; clear hx4)
                  | (go_at_call 12; refine (Right20_any many _ es _ (HRW.out.no (HX.out.trans (HX3.out.trans HX4.out)))).mono ?_; rintro e w5 ⟨rfl, hx5⟩; rw [G1.out]; have hg4 := hx5.no hg2; have hg5 := hx5.no hg3; have HX5 := Sid.mk hx5; clear hx5)
                  | (go_at_call 13; refine (Rises_any _ r2 many _ (HI3.out.no (HX4.out.trans HX5.out))).mono ?_; rintro e w6 ⟨rfl, rfl⟩; rw [G2.out])
                  | (go_at_call 15; refine (Equal_any _ _ ([] : List Int) ([] : List Int) _ (ints_nil _ _ _ : IntsR .i64 (fun _ => True) _ _ []) (ints_nil _ _ _ : IntsR .i64 (fun _ => True) _ _ [])).mono ?_; rintro e w7 ⟨rfl, n7, hw7⟩; rw [show eqB ([] : List Int) ([] : List Int) = true from by simp [eqB]]; have HX7 : Sid (Ext No w5 w7) := ⟨hw7 ▸ (Ext.refl No _).drewN n7⟩; clear hw7))
                go_roundw
                case rel => exact ⟨k + 1, by omega, by go_num, ⟨HX.out.trans (HX3.out.trans (HX4.out.trans (HX5.out.trans HX7.out)))⟩⟩
                case measure => simp [intOf]; omega
              | true =>
                have G2 := Sid.mk hg2b
                have hlaw := cover_law hg1b hg2b
                cases hrc : refCover es r2 with
                | none =>
                  have HCA : Sid (coverA many es r2 = (4, none)) := ⟨by rw [hlaw, hrc]⟩
                  have HRC := Sid.mk hrc
                  clear hg1b hg2b hlaw hrc
                  go_wp2_with (first
                    | (go_at_call 10; refine (Clone_any _ r2 _ HI2.out (by have := HL7.out; omega)).mono ?_; rintro e w3 ⟨v3, rfl, hi3, hx3⟩; obtain ⟨A3, c3, rfl, _⟩ := hi3.at; have hg0' := hx3.no hg0; have hg1' := hx3.no hg1; have HI3 := Sid.mk hi3; have HX3 := Sid.mk hx3; clear hi3 hx3)
                    | (go_at_call 11; refine (Cover_any many _ _ es r2 _ (HRW.out.no (HX.out.trans HX3.out)) HI3.out).mono ?_; rintro e w4 ⟨v4, rfl, ho4, hx4⟩; rw [HCA.out] at ho4 ⊢; have hg2 := hx4.no hg0'; have hg3 := hx4.no hg1'; obtain rfl := ho4; have HX4 := Sid.mk hx4; clear hx4)
                    | (go_at_call 12; refine (Right20_any many _ es _ (HRW.out.no (HX.out.trans (HX3.out.trans HX4.out)))).mono ?_; rintro e w5 ⟨rfl, hx5⟩; rw [G1.out]; have hg4 := hx5.no hg2; have hg5 := hx5.no hg3; have HX5 := Sid.mk hx5; clear hx5)
                    | (go_at_call 13; refine (Rises_any _ r2 many _ (HI3.out.no (HX4.out.trans HX5.out))).mono ?_; rintro e w6 ⟨rfl, rfl⟩; rw [G2.out])
                    | (go_at_call 14; refine (refCover_any many _ _ es r2 _ (HRW.out.no (HX.out.trans (HX3.out.trans (HX4.out.trans HX5.out)))) (HI3.out.no (HX4.out.trans HX5.out)) (by omega) (by have := HL7.out; omega)).mono ?_; rintro e w6 ⟨v6, b6, rfl, ho6, hx6⟩; rw [HRC.out] at ho6; obtain ⟨rfl, rfl⟩ := ho6; have HX6 := Sid.mk hx6; clear hx6)
                    | (go_at_call 15; refine (Equal_any _ _ ([] : List Int) ([] : List Int) _ (ints_nil _ _ _ : IntsR .i64 (fun _ => True) _ _ []) (ints_nil _ _ _ : IntsR .i64 (fun _ => True) _ _ [])).mono ?_; rintro e w7 ⟨rfl, n7, hw7⟩; rw [show eqB ([] : List Int) ([] : List Int) = true from by simp [eqB]]; have HX7 : Sid (Ext No w6 w7) := ⟨hw7 ▸ (Ext.refl No _).drewN n7⟩; clear hw7))
                  go_roundw
                  case rel => exact ⟨k + 1, by omega, by go_num, ⟨HX.out.trans (HX3.out.trans (HX4.out.trans (HX5.out.trans (HX6.out.trans HX7.out))))⟩⟩
                  case measure => simp [intOf]; omega
                | some rr =>
                  have HCA : Sid (coverA many es r2 = (0, some rr)) := ⟨by rw [hlaw, hrc]⟩
                  have HRC := Sid.mk hrc
                  clear hg1b hg2b hlaw hrc
                  go_wp2_with (first
                    | (go_at_call 10; refine (Clone_any _ r2 _ HI2.out (by have := HL7.out; omega)).mono ?_; rintro e w3 ⟨v3, rfl, hi3, hx3⟩; obtain ⟨A3, c3, rfl, _⟩ := hi3.at; have hg0' := hx3.no hg0; have hg1' := hx3.no hg1; have HI3 := Sid.mk hi3; have HX3 := Sid.mk hx3; clear hi3 hx3)
                    | (go_at_call 11; refine (Cover_any many _ _ es r2 _ (HRW.out.no (HX.out.trans HX3.out)) HI3.out).mono ?_; rintro e w4 ⟨v4, rfl, ho4, hx4⟩; rw [HCA.out] at ho4 ⊢; have hg2 := hx4.no hg0'; have hg3 := hx4.no hg1'; obtain ⟨A4, c4, rfl, _⟩ := IntsR.at (xs := rr) ho4; have HO4 : Sid (IntsR .i64 (fun k => w3.heap.size ≤ k) w4 (.slice A4 rr.length c4) rr) := ⟨ho4⟩; clear ho4; have HX4 := Sid.mk hx4; clear hx4)
                    | (go_at_call 12; refine (Right20_any many _ es _ (HRW.out.no (HX.out.trans (HX3.out.trans HX4.out)))).mono ?_; rintro e w5 ⟨rfl, hx5⟩; rw [G1.out]; have hg4 := hx5.no hg2; have hg5 := hx5.no hg3; have HX5 := Sid.mk hx5; clear hx5)
                    | (go_at_call 13; refine (Rises_any _ r2 many _ (HI3.out.no (HX4.out.trans HX5.out))).mono ?_; rintro e w6 ⟨rfl, rfl⟩; rw [G2.out])
                    | (go_at_call 14; refine (refCover_any many _ _ es r2 _ (HRW.out.no (HX.out.trans (HX3.out.trans (HX4.out.trans HX5.out)))) (HI3.out.no (HX4.out.trans HX5.out)) (by omega) (by have := HL7.out; omega)).mono ?_; rintro e w6 ⟨v6, b6, rfl, ho6, hx6⟩; rw [HRC.out] at ho6; obtain ⟨rfl, ho6⟩ := ho6; obtain ⟨A6, c6, rfl, _⟩ := IntsR.at (xs := rr) ho6; have HO6 : Sid (IntsR .i64 (fun k => w5.heap.size ≤ k) w6 (.slice A6 rr.length c6) rr) := ⟨ho6⟩; clear ho6; have HX6 := Sid.mk hx6; clear hx6)
                    | (go_at_call 15; refine (Equal_any _ _ rr rr _ (HO4.out.no (HX5.out.trans HX6.out)) HO6.out).mono ?_; rintro e w7 ⟨rfl, n7, hw7⟩; rw [show eqB rr rr = true from by simp [eqB]]; have HX7 : Sid (Ext No w6 w7) := ⟨hw7 ▸ (Ext.refl No _).drewN n7⟩; clear hw7))
                  go_roundw
                  case rel => exact ⟨k + 1, by omega, by go_num, ⟨HX.out.trans (HX3.out.trans (HX4.out.trans (HX5.out.trans (HX6.out.trans HX7.out))))⟩⟩
                  case measure => simp [intOf]; omega
      · go_wp2
        go_ret
        exact ⟨rfl, HXW.out.trans HX.out⟩
end Go.Proofs.YtceiaekkfabeaaaDoor
