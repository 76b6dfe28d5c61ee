/- Words and contracts for: DecompOf: for every hypergraph, and row of widths, the law answers true, and its arguments read as before. No condition; the library's table math/bits.deBruijn64tab is laid by its text. -/
import Derived.Test.YtceiaekkfabeaaaDoorZom
/- DecompCovers: the walk over the law. -/
namespace Go.Proofs.YtceiaekkfabeaaaDoor
open Go.RowKit Go.Shelf Pl

theorem IntsR.takes {k : IntKind} {P : Nat → Prop} {w : World} {A : Option Addr} {n c : Nat} {xs : List Int} (h : IntsR k P w (.slice A n c) xs) (m : Nat) (hm : m ≤ n) : IntsR k P w (.slice A m c) (xs.take m) := by
  obtain ⟨A', c', hv, hc, hmx, hn⟩ := h
  simp only [Value.slice.injEq] at hv
  obtain ⟨rfl, rfl, rfl⟩ := hv
  have hl : (xs.take m).length = m := by rw [List.length_take]; omega
  refine ⟨A, c, by rw [hl], ⟨by omega, hc.2⟩, by omega, fun hp => ?_⟩
  obtain ⟨ad, ha, hpa, hs, hj⟩ := hn (by omega)
  refine ⟨ad, ha, hpa, hs, fun j hjl => ?_⟩
  obtain ⟨cs, h1, h2, h3⟩ := hj j (by omega)
  exact ⟨cs, by rw [h1]; simp, h2, h3⟩

set_option maxHeartbeats 4000000 in
set_option maxRecDepth 100000 in
theorem covers_law_any {P P1 : Nat → Prop} (many : Int) (ev rv : Value) (es rows : List (List Int)) (w : World) (he : RowsR P w ev es) (hr : RowsR P1 w rv rows) (hT : TabW w) :
    Calls Tryd.prog 3 #[.agg #[.int .i64 many, ev], rv] w fun e w' => e = .returned (.bool true) ∧ Ext No w w' := by
  obtain ⟨Ae, ce, rfl, _⟩ := he.at
  obtain ⟨Ar, cr, rfl, _, hmr, hat⟩ := hr.at
  have HE := Sid.mk he
  have HR := Sid.mk hr
  have HAT := Sid.mk hat
  have HT := Sid.mk hT
  clear he hr hat hT
  have HB0 : Sid (∀ w', Ext No (w.alloc (.cells #[.int .i64 many, .slice Ae es.length ce] 24)) w' → w'.cell? ⟨w.heap.size, 0, none⟩ = some (.int .i64 many) ∧ w'.cell? ⟨w.heap.size, 1, none⟩ = some (.slice Ae es.length ce)) := ⟨fun w' hx => ⟨hx.no (by simp), hx.no (by simp)⟩⟩
  cases hob : ownB many es with
  | false =>
    have HOB := Sid.mk hob
    clear hob
    go_enter Tryd.func3, Tryd.ntmps3
    go_wp2_with (first
      | (go_at_call 8; refine (wakes_any _ (HT.out.no (ext_box _))).mono ?_; rintro e w1 ⟨rfl, hx1⟩; have h0 := (HB0.out _ hx1).1; have h1 := (HB0.out _ hx1).2; have HX1 := Sid.mk hx1; clear hx1)
      | (go_at_call 9; refine (own_any many _ es _ (HE.out.no ((ext_box _).trans HX1.out))).mono ?_; rintro e w2 ⟨hx2, hif⟩; rw [HOB.out] at hif; simp only [Bool.false_eq_true, if_false] at hif; subst hif; have HX2 := Sid.mk hx2; clear hx2))
    go_ret
    exact ⟨rfl, (((ext_box _).trans HX1.out).trans HX2.out).alloc _⟩
  | true =>
    have HOB := Sid.mk hob
    have h8 : es.length ≤ 7 ∧ many ≤ 6 := by simp only [ownB, Bool.and_eq_true, decide_eq_true_eq] at hob; exact hob.1
    clear hob
    go_enter Tryd.func3, Tryd.ntmps3
    go_wp2_with (first
      | (go_at_call 8; refine (wakes_any _ (HT.out.no (ext_box _))).mono ?_; rintro e w1 ⟨rfl, hx1⟩; have h0 := (HB0.out _ hx1).1; have h1 := (HB0.out _ hx1).2; have HX1 := Sid.mk hx1; clear hx1)
      | (go_at_call 9; refine (own_any many _ es _ (HE.out.no ((ext_box _).trans HX1.out))).mono ?_; rintro e w2 ⟨hx2, hif⟩; rw [HOB.out] at hif; simp only [if_true] at hif; obtain ⟨v2, rfl, hr2⟩ := hif; obtain ⟨A2, c2, rfl, _⟩ := hr2.at; have HR2 := Sid.mk hr2; have HX2 := Sid.mk hx2; clear hr2 hx2))
    obtain ⟨W, hW⟩ : ∃ W, W = w2.alloc (.cells #[.int .i64 many, .slice A2 es.length c2] 24) := ⟨_, rfl⟩
    have HXW : Sid (Ext No w W) := ⟨by rw [hW]; exact (((ext_box _).trans HX1.out).trans HX2.out).alloc _⟩
    have HRW : Sid (RowsR (fun k => w1.heap.size ≤ k) W (.slice A2 es.length c2) es) := ⟨by rw [hW]; exact HR2.out.no (ext_box _)⟩
    have HCW : Sid (∀ w', Ext No W w' → w'.cell? ⟨w2.heap.size, 0, none⟩ = some (.int .i64 many) ∧ w'.cell? ⟨w2.heap.size, 1, none⟩ = some (.slice A2 es.length c2)) := ⟨fun w' hx => ⟨hx.no (by rw [hW]; simp), hx.no (by rw [hW]; simp)⟩⟩
    rw [← hW]
    clear hW h0 h1
    go_loopw [25] (fun i wr => ∃ k : Nat, k ≤ rows.length ∧ i = .int .i64 (k : Int) ∧ Sid (Ext No W wr)) (fun i _ => rows.length - (intOf i).toNat)
    case atStart => exact ⟨0, Nat.zero_le _, rfl, ⟨Ext.refl _ _⟩⟩
    case round =>
      obtain ⟨k, hk, rfl, HX⟩ := hrel
      obtain ⟨wo, rfl⟩ : ∃ wo : World, wo = wr := ⟨_, rfl⟩
      by_cases hlt : k < rows.length
      · obtain ⟨b, off, A', c', r, rfl, _, hcell0, HR', HI'⟩ := HAT.out k hlt
        have hcell := (HXW.out.trans HX.out).no hcell0
        have HIR : Sid (IntsR .i64 P1 wo (.slice A' r.length c') r) := ⟨HI'.out.no (HXW.out.trans HX.out)⟩
        have hg0 := (HCW.out _ HX.out).1
        have hg1 := (HCW.out _ HX.out).2
        clear hcell0 HI' HR'
        by_cases h5 : k = 5
        · have h5' : ((k : Int) == 5) = true := by simp [h5]
          clear h5
          go_wp2
          go_ret
          exact ⟨rfl, HXW.out.trans HX.out⟩
        · have h5' : ((k : Int) == 5) = false := by rw [beq_eq_false_iff_ne]; omega
          clear h5
          have hcr : r.length ≤ c' := by
            obtain ⟨A9, c9, e9, hcr, _⟩ := HIR.out.at
            simp only [Value.slice.injEq] at e9
            rw [e9.2.2]; exact hcr
          by_cases h7 : r.length ≤ 7
          · obtain ⟨r2, hr2⟩ : ∃ r2, r2 = r := ⟨_, rfl⟩
            have HI2 : Sid (IntsR .i64 P1 wo (.slice A' r.length c') r2) := ⟨by rw [hr2]; exact HIR.out⟩
            have HL7 : Sid (r2.length ≤ 7) := ⟨by rw [hr2]; exact h7⟩
            have h7' : (r.length : Int) ≤ 7 := by omega
            clear hr2 h7
            cases hg1b : hyperB many es with
            | false =>
              have HCA : Sid (coverA many es r2 = (300, none)) := ⟨by rw [coverA, if_pos hg1b]⟩
              have G1 := Sid.mk hg1b
              clear hg1b
              go_wp2_with (first
                | (go_at_call 10; refine (Clone_any _ r2 _ HI2.out (by have := HL7.out; omega)).mono ?_; rintro e w3 ⟨v3, rfl, hi3, hx3⟩; obtain ⟨A3, c3, rfl, _⟩ := hi3.at; have hg0' := hx3.no hg0; have hg1' := hx3.no hg1; have HI3 := Sid.mk hi3; have HX3 := Sid.mk hx3; clear hi3 hx3)
                | (go_at_call 11; refine (Cover_any many _ _ es r2 _ (HRW.out.no (HX.out.trans HX3.out)) HI3.out).mono ?_; rintro e w4 ⟨v4, rfl, ho4, hx4⟩; rw [HCA.out] at ho4 ⊢; have hg2 := hx4.no hg0'; have hg3 := hx4.no hg1'; obtain rfl := ho4; have HX4 := Sid.mk hx4; clear hx4)
                | (go_at_call 12; refine (Right20_any many _ es _ (HRW.out.no (HX.out.trans (HX3.out.trans HX4.out)))).mono ?_; rintro e w5 ⟨rfl, hx5⟩; rw [G1.out]; have hg4 := hx5.no hg2; have hg5 := hx5.no hg3; have HX5 := Sid.mk hx5; clear hx5)
                | (go_at_call 15; refine (Equal_any _ _ ([] : List Int) ([] : List Int) _ (ints_nil _ _ _ : IntsR .i64 (fun _ => True) _ _ []) (ints_nil _ _ _ : IntsR .i64 (fun _ => True) _ _ [])).mono ?_; rintro e w7 ⟨rfl, n7, hw7⟩; rw [show eqB ([] : List Int) ([] : List Int) = true from by simp [eqB]]; have HX7 : Sid (Ext No w5 w7) := ⟨hw7 ▸ (Ext.refl No _).drewN n7⟩; clear hw7))
              go_roundw
              case rel => exact ⟨k + 1, by omega, by go_num, ⟨HX.out.trans (HX3.out.trans (HX4.out.trans (HX5.out.trans HX7.out)))⟩⟩
              case measure => simp [intOf]; omega
            | true =>
              have G1 := Sid.mk hg1b
              cases hg2b : risesB r2 many with
              | false =>
                have HCA : Sid (coverA many es r2 = (2, none)) := ⟨by rw [coverA, if_neg (by simp [hg1b]), if_pos hg2b]⟩
                have G2 := Sid.mk hg2b
                clear hg1b hg2b
                go_wp2_with (first
                  | (go_at_call 10; refine (Clone_any _ r2 _ HI2.out (by have := HL7.out; omega)).mono ?_; rintro e w3 ⟨v3, rfl, hi3, hx3⟩; obtain ⟨A3, c3, rfl, _⟩ := hi3.at; have hg0' := hx3.no hg0; have hg1' := hx3.no hg1; have HI3 := Sid.mk hi3; have HX3 := Sid.mk hx3; clear hi3 hx3)
                  | (go_at_call 11; refine (Cover_any many _ _ es r2 _ (HRW.out.no (HX.out.trans HX3.out)) HI3.out).mono ?_; rintro e w4 ⟨v4, rfl, ho4, hx4⟩; rw [HCA.out] at ho4 ⊢; have hg2 := hx4.no hg0'; have hg3 := hx4.no hg1'; obtain rfl := ho4; have HX4 := Sid.mk hx4; clear hx4)
                  | (go_at_call 12; refine (Right20_any many _ es _ (HRW.out.no (HX.out.trans (HX3.out.trans HX4.out)))).mono ?_; rintro e w5 ⟨rfl, hx5⟩; rw [G1.out]; have hg4 := hx5.no hg2; have hg5 := hx5.no hg3; have HX5 := Sid.mk hx5; clear hx5)
                  | (go_at_call 13; refine (Rises_any _ r2 many _ (HI3.out.no (HX4.out.trans HX5.out))).mono ?_; rintro e w6 ⟨rfl, rfl⟩; rw [G2.out])
                  | (go_at_call 15; refine (Equal_any _ _ ([] : List Int) ([] : List Int) _ (ints_nil _ _ _ : IntsR .i64 (fun _ => True) _ _ []) (ints_nil _ _ _ : IntsR .i64 (fun _ => True) _ _ [])).mono ?_; rintro e w7 ⟨rfl, n7, hw7⟩; rw [show eqB ([] : List Int) ([] : List Int) = true from by simp [eqB]]; have HX7 : Sid (Ext No w5 w7) := ⟨hw7 ▸ (Ext.refl No _).drewN n7⟩; clear hw7))
                go_roundw
                case rel => exact ⟨k + 1, by omega, by go_num, ⟨HX.out.trans (HX3.out.trans (HX4.out.trans (HX5.out.trans HX7.out)))⟩⟩
                case measure => simp [intOf]; omega
              | true =>
                have G2 := Sid.mk hg2b
                have hlaw := cover_law hg1b hg2b
                cases hrc : refCover es r2 with
                | none =>
                  have HCA : Sid (coverA many es r2 = (4, none)) := ⟨by rw [hlaw, hrc]⟩
                  have HRC := Sid.mk hrc
                  clear hg1b hg2b hlaw hrc
                  go_wp2_with (first
                    | (go_at_call 10; refine (Clone_any _ r2 _ HI2.out (by have := HL7.out; omega)).mono ?_; rintro e w3 ⟨v3, rfl, hi3, hx3⟩; obtain ⟨A3, c3, rfl, _⟩ := hi3.at; have hg0' := hx3.no hg0; have hg1' := hx3.no hg1; have HI3 := Sid.mk hi3; have HX3 := Sid.mk hx3; clear hi3 hx3)
                    | (go_at_call 11; refine (Cover_any many _ _ es r2 _ (HRW.out.no (HX.out.trans HX3.out)) HI3.out).mono ?_; rintro e w4 ⟨v4, rfl, ho4, hx4⟩; rw [HCA.out] at ho4 ⊢; have hg2 := hx4.no hg0'; have hg3 := hx4.no hg1'; obtain rfl := ho4; have HX4 := Sid.mk hx4; clear hx4)
                    | (go_at_call 12; refine (Right20_any many _ es _ (HRW.out.no (HX.out.trans (HX3.out.trans HX4.out)))).mono ?_; rintro e w5 ⟨rfl, hx5⟩; rw [G1.out]; have hg4 := hx5.no hg2; have hg5 := hx5.no hg3; have HX5 := Sid.mk hx5; clear hx5)
                    | (go_at_call 13; refine (Rises_any _ r2 many _ (HI3.out.no (HX4.out.trans HX5.out))).mono ?_; rintro e w6 ⟨rfl, rfl⟩; rw [G2.out])
                    | (go_at_call 14; refine (refCover_any many _ _ es r2 _ (HRW.out.no (HX.out.trans (HX3.out.trans (HX4.out.trans HX5.out)))) (HI3.out.no (HX4.out.trans HX5.out)) (by omega) (by have := HL7.out; omega)).mono ?_; rintro e w6 ⟨v6, b6, rfl, ho6, hx6⟩; rw [HRC.out] at ho6; obtain ⟨rfl, rfl⟩ := ho6; have HX6 := Sid.mk hx6; clear hx6)
                    | (go_at_call 15; refine (Equal_any _ _ ([] : List Int) ([] : List Int) _ (ints_nil _ _ _ : IntsR .i64 (fun _ => True) _ _ []) (ints_nil _ _ _ : IntsR .i64 (fun _ => True) _ _ [])).mono ?_; rintro e w7 ⟨rfl, n7, hw7⟩; rw [show eqB ([] : List Int) ([] : List Int) = true from by simp [eqB]]; have HX7 : Sid (Ext No w6 w7) := ⟨hw7 ▸ (Ext.refl No _).drewN n7⟩; clear hw7))
                  go_roundw
                  case rel => exact ⟨k + 1, by omega, by go_num, ⟨HX.out.trans (HX3.out.trans (HX4.out.trans (HX5.out.trans (HX6.out.trans HX7.out))))⟩⟩
                  case measure => simp [intOf]; omega
                | some rr =>
                  have HCA : Sid (coverA many es r2 = (0, some rr)) := ⟨by rw [hlaw, hrc]⟩
                  have HRC := Sid.mk hrc
                  clear hg1b hg2b hlaw hrc
                  go_wp2_with (first
                    | (go_at_call 10; refine (Clone_any _ r2 _ HI2.out (by have := HL7.out; omega)).mono ?_; rintro e w3 ⟨v3, rfl, hi3, hx3⟩; obtain ⟨A3, c3, rfl, _⟩ := hi3.at; have hg0' := hx3.no hg0; have hg1' := hx3.no hg1; have HI3 := Sid.mk hi3; have HX3 := Sid.mk hx3; clear hi3 hx3)
                    | (go_at_call 11; refine (Cover_any many _ _ es r2 _ (HRW.out.no (HX.out.trans HX3.out)) HI3.out).mono ?_; rintro e w4 ⟨v4, rfl, ho4, hx4⟩; rw [HCA.out] at ho4 ⊢; have hg2 := hx4.no hg0'; have hg3 := hx4.no hg1'; obtain ⟨A4, c4, rfl, _⟩ := IntsR.at (xs := rr) ho4; have HO4 : Sid (IntsR .i64 (fun k => w3.heap.size ≤ k) w4 (.slice A4 rr.length c4) rr) := ⟨ho4⟩; clear ho4; have HX4 := Sid.mk hx4; clear hx4)
                    | (go_at_call 12; refine (Right20_any many _ es _ (HRW.out.no (HX.out.trans (HX3.out.trans HX4.out)))).mono ?_; rintro e w5 ⟨rfl, hx5⟩; rw [G1.out]; have hg4 := hx5.no hg2; have hg5 := hx5.no hg3; have HX5 := Sid.mk hx5; clear hx5)
                    | (go_at_call 13; refine (Rises_any _ r2 many _ (HI3.out.no (HX4.out.trans HX5.out))).mono ?_; rintro e w6 ⟨rfl, rfl⟩; rw [G2.out])
                    | (go_at_call 14; refine (refCover_any many _ _ es r2 _ (HRW.out.no (HX.out.trans (HX3.out.trans (HX4.out.trans HX5.out)))) (HI3.out.no (HX4.out.trans HX5.out)) (by omega) (by have := HL7.out; omega)).mono ?_; rintro e w6 ⟨v6, b6, rfl, ho6, hx6⟩; rw [HRC.out] at ho6; obtain ⟨rfl, ho6⟩ := ho6; obtain ⟨A6, c6, rfl, _⟩ := IntsR.at (xs := rr) ho6; have HO6 : Sid (IntsR .i64 (fun k => w5.heap.size ≤ k) w6 (.slice A6 rr.length c6) rr) := ⟨ho6⟩; clear ho6; have HX6 := Sid.mk hx6; clear hx6)
                    | (go_at_call 15; refine (Equal_any _ _ rr rr _ (HO4.out.no (HX5.out.trans HX6.out)) HO6.out).mono ?_; rintro e w7 ⟨rfl, n7, hw7⟩; rw [show eqB rr rr = true from by simp [eqB]]; have HX7 : Sid (Ext No w6 w7) := ⟨hw7 ▸ (Ext.refl No _).drewN n7⟩; clear hw7))
                  go_roundw
                  case rel => exact ⟨k + 1, by omega, by go_num, ⟨HX.out.trans (HX3.out.trans (HX4.out.trans (HX5.out.trans (HX6.out.trans HX7.out))))⟩⟩
                  case measure => simp [intOf]; omega
          · obtain ⟨r2, hr2⟩ : ∃ r2, r2 = r.take 7 := ⟨_, rfl⟩
            have HI2 : Sid (IntsR .i64 P1 wo (.slice A' 7 c') r2) := ⟨by rw [hr2]; exact HIR.out.takes 7 (by omega)⟩
            have HL7 : Sid (r2.length ≤ 7) := ⟨by rw [hr2, List.length_take]; omega⟩
            have h7' : (7 : Int) < (r.length : Int) := by omega
            have hc7 : (7 : Int) ≤ (c' : Int) := by omega
            clear hr2 h7
            cases hg1b : hyperB many es with
            | false =>
              have HCA : Sid (coverA many es r2 = (300, none)) := ⟨by rw [coverA, if_pos hg1b]⟩
              have G1 := Sid.mk hg1b
              clear hg1b
              go_wp2_with (first
                | (go_at_call 10; refine (Clone_any _ r2 _ HI2.out (by have := HL7.out; omega)).mono ?_; rintro e w3 ⟨v3, rfl, hi3, hx3⟩; obtain ⟨A3, c3, rfl, _⟩ := hi3.at; have hg0' := hx3.no hg0; have hg1' := hx3.no hg1; have HI3 := Sid.mk hi3; have HX3 := Sid.mk hx3; clear hi3 hx3)
                | (go_at_call 11; refine (Cover_any many _ _ es r2 _ (HRW.out.no (HX.out.trans HX3.out)) HI3.out).mono ?_; rintro e w4 ⟨v4, rfl, ho4, hx4⟩; rw [HCA.out] at ho4 ⊢; have hg2 := hx4.no hg0'; have hg3 := hx4.no hg1'; obtain rfl := ho4; have HX4 := Sid.mk hx4; clear hx4)
                | (go_at_call 12; refine (Right20_any many _ es _ (HRW.out.no (HX.out.trans (HX3.out.trans HX4.out)))).mono ?_; rintro e w5 ⟨rfl, hx5⟩; rw [G1.out]; have hg4 := hx5.no hg2; have hg5 := hx5.no hg3; have HX5 := Sid.mk hx5; clear hx5)
                | (go_at_call 15; refine (Equal_any _ _ ([] : List Int) ([] : List Int) _ (ints_nil _ _ _ : IntsR .i64 (fun _ => True) _ _ []) (ints_nil _ _ _ : IntsR .i64 (fun _ => True) _ _ [])).mono ?_; rintro e w7 ⟨rfl, n7, hw7⟩; rw [show eqB ([] : List Int) ([] : List Int) = true from by simp [eqB]]; have HX7 : Sid (Ext No w5 w7) := ⟨hw7 ▸ (Ext.refl No _).drewN n7⟩; clear hw7))
              go_roundw
              case rel => exact ⟨k + 1, by omega, by go_num, ⟨HX.out.trans (HX3.out.trans (HX4.out.trans (HX5.out.trans HX7.out)))⟩⟩
              case measure => simp [intOf]; omega
            | true =>
              have G1 := Sid.mk hg1b
              cases hg2b : risesB r2 many with
              | false =>
                have HCA : Sid (coverA many es r2 = (2, none)) := ⟨by rw [coverA, if_neg (by simp [hg1b]), if_pos hg2b]⟩
                have G2 := Sid.mk hg2b
                clear hg1b hg2b
                go_wp2_with (first
                  | (go_at_call 10; refine (Clone_any _ r2 _ HI2.out (by have := HL7.out; omega)).mono ?_; rintro e w3 ⟨v3, rfl, hi3, hx3⟩; obtain ⟨A3, c3, rfl, _⟩ := hi3.at; have hg0' := hx3.no hg0; have hg1' := hx3.no hg1; have HI3 := Sid.mk hi3; have HX3 := Sid.mk hx3; clear hi3 hx3)
                  | (go_at_call 11; refine (Cover_any many _ _ es r2 _ (HRW.out.no (HX.out.trans HX3.out)) HI3.out).mono ?_; rintro e w4 ⟨v4, rfl, ho4, hx4⟩; rw [HCA.out] at ho4 ⊢; have hg2 := hx4.no hg0'; have hg3 := hx4.no hg1'; obtain rfl := ho4; have HX4 := Sid.mk hx4; clear hx4)
                  | (go_at_call 12; refine (Right20_any many _ es _ (HRW.out.no (HX.out.trans (HX3.out.trans HX4.out)))).mono ?_; rintro e w5 ⟨rfl, hx5⟩; rw [G1.out]; have hg4 := hx5.no hg2; have hg5 := hx5.no hg3; have HX5 := Sid.mk hx5; clear hx5)
                  | (go_at_call 13; refine (Rises_any _ r2 many _ (HI3.out.no (HX4.out.trans HX5.out))).mono ?_; rintro e w6 ⟨rfl, rfl⟩; rw [G2.out])
                  | (go_at_call 15; refine (Equal_any _ _ ([] : List Int) ([] : List Int) _ (ints_nil _ _ _ : IntsR .i64 (fun _ => True) _ _ []) (ints_nil _ _ _ : IntsR .i64 (fun _ => True) _ _ [])).mono ?_; rintro e w7 ⟨rfl, n7, hw7⟩; rw [show eqB ([] : List Int) ([] : List Int) = true from by simp [eqB]]; have HX7 : Sid (Ext No w5 w7) := ⟨hw7 ▸ (Ext.refl No _).drewN n7⟩; clear hw7))
                go_roundw
                case rel => exact ⟨k + 1, by omega, by go_num, ⟨HX.out.trans (HX3.out.trans (HX4.out.trans (HX5.out.trans HX7.out)))⟩⟩
                case measure => simp [intOf]; omega
              | true =>
                have G2 := Sid.mk hg2b
                have hlaw := cover_law hg1b hg2b
                cases hrc : refCover es r2 with
                | none =>
                  have HCA : Sid (coverA many es r2 = (4, none)) := ⟨by rw [hlaw, hrc]⟩
                  have HRC := Sid.mk hrc
                  clear hg1b hg2b hlaw hrc
                  go_wp2_with (first
                    | (go_at_call 10; refine (Clone_any _ r2 _ HI2.out (by have := HL7.out; omega)).mono ?_; rintro e w3 ⟨v3, rfl, hi3, hx3⟩; obtain ⟨A3, c3, rfl, _⟩ := hi3.at; have hg0' := hx3.no hg0; have hg1' := hx3.no hg1; have HI3 := Sid.mk hi3; have HX3 := Sid.mk hx3; clear hi3 hx3)
                    | (go_at_call 11; refine (Cover_any many _ _ es r2 _ (HRW.out.no (HX.out.trans HX3.out)) HI3.out).mono ?_; rintro e w4 ⟨v4, rfl, ho4, hx4⟩; rw [HCA.out] at ho4 ⊢; have hg2 := hx4.no hg0'; have hg3 := hx4.no hg1'; obtain rfl := ho4; have HX4 := Sid.mk hx4; clear hx4)
                    | (go_at_call 12; refine (Right20_any many _ es _ (HRW.out.no (HX.out.trans (HX3.out.trans HX4.out)))).mono ?_; rintro e w5 ⟨rfl, hx5⟩; rw [G1.out]; have hg4 := hx5.no hg2; have hg5 := hx5.no hg3; have HX5 := Sid.mk hx5; clear hx5)
                    | (go_at_call 13; refine (Rises_any _ r2 many _ (HI3.out.no (HX4.out.trans HX5.out))).mono ?_; rintro e w6 ⟨rfl, rfl⟩; rw [G2.out])
                    | (go_at_call 14; refine (refCover_any many _ _ es r2 _ (HRW.out.no (HX.out.trans (HX3.out.trans (HX4.out.trans HX5.out)))) (HI3.out.no (HX4.out.trans HX5.out)) (by omega) (by have := HL7.out; omega)).mono ?_; rintro e w6 ⟨v6, b6, rfl, ho6, hx6⟩; rw [HRC.out] at ho6; obtain ⟨rfl, rfl⟩ := ho6; have HX6 := Sid.mk hx6; clear hx6)
                    | (go_at_call 15; refine (Equal_any _ _ ([] : List Int) ([] : List Int) _ (ints_nil _ _ _ : IntsR .i64 (fun _ => True) _ _ []) (ints_nil _ _ _ : IntsR .i64 (fun _ => True) _ _ [])).mono ?_; rintro e w7 ⟨rfl, n7, hw7⟩; rw [show eqB ([] : List Int) ([] : List Int) = true from by simp [eqB]]; have HX7 : Sid (Ext No w6 w7) := ⟨hw7 ▸ (Ext.refl No _).drewN n7⟩; clear hw7))
                  go_roundw
                  case rel => exact ⟨k + 1, by omega, by go_num, ⟨HX.out.trans (HX3.out.trans (HX4.out.trans (HX5.out.trans (HX6.out.trans HX7.out))))⟩⟩
                  case measure => simp [intOf]; omega
                | some rr =>
                  have HCA : Sid (coverA many es r2 = (0, some rr)) := ⟨by rw [hlaw, hrc]⟩
                  have HRC := Sid.mk hrc
                  clear hg1b hg2b hlaw hrc
                  go_wp2_with (first
                    | (go_at_call 10; refine (Clone_any _ r2 _ HI2.out (by have := HL7.out; omega)).mono ?_; rintro e w3 ⟨v3, rfl, hi3, hx3⟩; obtain ⟨A3, c3, rfl, _⟩ := hi3.at; have hg0' := hx3.no hg0; have hg1' := hx3.no hg1; have HI3 := Sid.mk hi3; have HX3 := Sid.mk hx3; clear hi3 hx3)
                    | (go_at_call 11; refine (Cover_any many _ _ es r2 _ (HRW.out.no (HX.out.trans HX3.out)) HI3.out).mono ?_; rintro e w4 ⟨v4, rfl, ho4, hx4⟩; rw [HCA.out] at ho4 ⊢; have hg2 := hx4.no hg0'; have hg3 := hx4.no hg1'; obtain ⟨A4, c4, rfl, _⟩ := IntsR.at (xs := rr) ho4; have HO4 : Sid (IntsR .i64 (fun k => w3.heap.size ≤ k) w4 (.slice A4 rr.length c4) rr) := ⟨ho4⟩; clear ho4; have HX4 := Sid.mk hx4; clear hx4)
                    | (go_at_call 12; refine (Right20_any many _ es _ (HRW.out.no (HX.out.trans (HX3.out.trans HX4.out)))).mono ?_; rintro e w5 ⟨rfl, hx5⟩; rw [G1.out]; have hg4 := hx5.no hg2; have hg5 := hx5.no hg3; have HX5 := Sid.mk hx5; clear hx5)
                    | (go_at_call 13; refine (Rises_any _ r2 many _ (HI3.out.no (HX4.out.trans HX5.out))).mono ?_; rintro e w6 ⟨rfl, rfl⟩; rw [G2.out])
                    | (go_at_call 14; refine (refCover_any many _ _ es r2 _ (HRW.out.no (HX.out.trans (HX3.out.trans (HX4.out.trans HX5.out)))) (HI3.out.no (HX4.out.trans HX5.out)) (by omega) (by have := HL7.out; omega)).mono ?_; rintro e w6 ⟨v6, b6, rfl, ho6, hx6⟩; rw [HRC.out] at ho6; obtain ⟨rfl, ho6⟩ := ho6; obtain ⟨A6, c6, rfl, _⟩ := IntsR.at (xs := rr) ho6; have HO6 : Sid (IntsR .i64 (fun k => w5.heap.size ≤ k) w6 (.slice A6 rr.length c6) rr) := ⟨ho6⟩; clear ho6; have HX6 := Sid.mk hx6; clear hx6)
                    | (go_at_call 15; refine (Equal_any _ _ rr rr _ (HO4.out.no (HX5.out.trans HX6.out)) HO6.out).mono ?_; rintro e w7 ⟨rfl, n7, hw7⟩; rw [show eqB rr rr = true from by simp [eqB]]; have HX7 : Sid (Ext No w6 w7) := ⟨hw7 ▸ (Ext.refl No _).drewN n7⟩; clear hw7))
                  go_roundw
                  case rel => exact ⟨k + 1, by omega, by go_num, ⟨HX.out.trans (HX3.out.trans (HX4.out.trans (HX5.out.trans (HX6.out.trans HX7.out))))⟩⟩
                  case measure => simp [intOf]; omega
      · go_wp2
        go_ret
        exact ⟨rfl, HXW.out.trans HX.out⟩
end Go.Proofs.YtceiaekkfabeaaaDoor

namespace Go.Proofs.YtceiaekkfabeaaaDoor
open Go.RowKit Pl

set_option maxHeartbeats 800000 in
theorem tops_any {P : Nat → Prop} (v : Value) (bs : List Bag) (x : Int) (w : World) (hv : BagsR P w v bs) (hp : ∀ b ∈ bs, b.parent < bs.length) :
    Calls Tryd.prog 47 #[v, .int .i64 x] w fun e w' => e = .returned (.int .i64 (topsN bs x bs)) ∧ Ext No w w' := by
  obtain ⟨A, c, rfl, hc, hm, hat⟩ := hv.at
  have HAT := Sid.mk hat
  have HV := Sid.mk hv
  have HP := Sid.mk hp
  clear hat hv hp
  go_enter Tryd.func47, Tryd.ntmps47
  go_wp2
  go_loopw [5, 10] (fun m i wr => ∃ (k : Nat) (t : Int), k ≤ bs.length ∧ i = .int .i64 k ∧ m = .int .i64 t ∧ 0 ≤ t ∧ t ≤ k ∧ Sid (t = topsN bs x (bs.take k)) ∧ Sid (Ext No w wr)) (fun _ i _ => bs.length - (intOf i).toNat)
  case atStart => exact ⟨0, 0, Nat.zero_le _, rfl, rfl, by omega, by omega, ⟨by simp [topsN]⟩, ⟨Ext.refl _ _⟩⟩
  case round =>
    obtain ⟨k, t, hk, rfl, rfl, ht0, htk, HT, HX⟩ := hrel
    by_cases hlt : k < bs.length
    · obtain ⟨b, off, A1, c1, A2, c2, vs, es, p, rfl, _, e0, e1, e2, HB, H1, H2⟩ := HAT.out k hlt
      replace e0 := HX.out.no e0
      replace e1 := HX.out.no e1
      replace e2 := HX.out.no e2
      have hpl : p < bs.length := HP.out _ (List.mem_of_getElem? HB.out)
      cases hb : hasB vs x with
      | false =>
        have HH := Sid.mk hb
        clear hb
        go_wp2_with (go_at_call 40; refine (has_any _ vs _ _ (H1.out.no (HX.out.alloc _))).mono ?_; rintro e w' ⟨rfl, rfl⟩; rw [HH.out])
        go_roundw
        case rel => exact ⟨k+1, t, by omega, by go_num, rfl, by omega, by omega, ⟨by rw [topsN_no HB.out (by simp [topB, HH.out])]; exact HT.out⟩, ⟨HX.out.alloc _⟩⟩
        case measure => simp [intOf]; omega
      | true =>
        have HH := Sid.mk hb
        clear hb
        by_cases hp0 : p < 0
        · go_wp2_with (go_at_call 40; refine (has_any _ vs _ _ (H1.out.no (HX.out.alloc _))).mono ?_; rintro e w' ⟨rfl, rfl⟩; rw [HH.out])
          go_roundw
          case rel => exact ⟨k+1, t+1, by omega, by go_num, by go_num, by omega, by omega, ⟨by rw [topsN_yes HB.out (by simp [topB, HH.out, hp0]), ← HT.out]⟩, ⟨HX.out.alloc _⟩⟩
          case measure => simp [intOf]; omega
        · obtain ⟨q, rfl⟩ := Int.eq_ofNat_of_zero_le (show 0 ≤ p by omega)
          obtain ⟨b', off', A1', c1', A2', c2', vs', es', p', hb', _, e0', _, _, HB', H1', _⟩ := HAT.out q (by omega)
          cases hb'
          replace e0' := fun o => (HX.out.alloc o).no e0'
          cases hb : hasB vs' x with
          | false =>
            have HH' := Sid.mk hb
            clear hb
            go_wp2_with (go_at_call 40; first | (with_reducible refine (has_any _ vs _ _ (H1.out.no (HX.out.alloc _))).mono ?_; rintro e w' ⟨rfl, rfl⟩; rw [HH.out]) | (refine (has_any _ vs' _ _ (H1'.out.no (HX.out.alloc _))).mono ?_; rintro e w' ⟨rfl, rfl⟩; rw [HH'.out]))
            go_roundw
            case rel => exact ⟨k+1, t+1, by omega, by go_num, by go_num, by omega, by omega, ⟨by rw [topsN_yes HB.out (by simp [topB, HH.out, HB'.out, HH'.out]), ← HT.out]⟩, ⟨HX.out.alloc _⟩⟩
            case measure => simp [intOf]; omega
          | true =>
            have HH' := Sid.mk hb
            clear hb
            go_wp2_with (go_at_call 40; first | (with_reducible refine (has_any _ vs _ _ (H1.out.no (HX.out.alloc _))).mono ?_; rintro e w' ⟨rfl, rfl⟩; rw [HH.out]) | (refine (has_any _ vs' _ _ (H1'.out.no (HX.out.alloc _))).mono ?_; rintro e w' ⟨rfl, rfl⟩; rw [HH'.out]))
            go_roundw
            case rel => exact ⟨k+1, t, by omega, by go_num, rfl, by omega, by omega, ⟨by rw [topsN_no HB.out (by simp [topB, HH.out, HB'.out, HH'.out])]; exact HT.out⟩, ⟨HX.out.alloc _⟩⟩
            case measure => simp [intOf]; omega
    · go_wp2
      go_ret
      exact ⟨ret_int (by rw [HT.out, List.take_of_length_le (by omega)]), HX.out⟩

theorem vertsTo {f : Int → Bool} {many : Int} {k : Nat} (hs : allB f ((vertsL many).take k) = true) (h : ¬ (k : Int) < many) : allB f (vertsL many) = true :=
  allB_all (by rw [vertsL_len]; omega) hs

set_option maxHeartbeats 2000000 in
theorem Right21_any {P P1 : Nat → Prop} (many : Int) (ev bv : Value) (es : List (List Int)) (bs : List Bag) (w : World) (he : RowsR P w ev es) (hv : BagsR P1 w bv bs) (hm1 : many ≤ 1000) :
    Calls Tryd.prog 20 #[.agg #[.int .i64 many, ev], bv] w fun e w' => e = .returned (.bool (rightB many es bs)) ∧ Ext No w w' := by
  obtain ⟨A, c, rfl, hc, hm, hat⟩ := hv.at
  obtain ⟨Ae, ce, rfl, hce, hme, hate⟩ := he.at
  have HAT := Sid.mk hat
  have HV := Sid.mk hv
  have HE := Sid.mk hate
  have HEV := Sid.mk he
  clear hat hv hate he
  by_cases h64 : 64 < bs.length
  · go_enter Tryd.func20, Tryd.ntmps20
    go_wp2
    go_ret
    exact ⟨ret_bool (by simp [rightB]; omega), ext_box _⟩
  have hh : rightB many es bs = (allI (fun i b => bagFormB many es.length i b && coversB es b.es b.vs) 0 bs && allB (fun e => anyB (fun b => withinB e b.vs) bs) es && allB (fun v => decide (topsN bs v bs = 1)) (vertsL many)) := by
    simp [rightB, show bs.length ≤ 64 by omega]
  rw [hh]
  clear hh
  go_enter Tryd.func20, Tryd.ntmps20
  go_wp2
  go_loopw [18] (fun i wr => ∃ (k : Nat), k ≤ bs.length ∧ i = .int .i64 k ∧ Sid (∀ i b, i < k → bs[i]? = some b → (bagFormB many es.length i b && coversB es b.es b.vs) = true) ∧ Sid (Ext No w wr) ∧ wr.cell? ⟨w.heap.size, 0, none⟩ = some (.int .i64 many) ∧ wr.cell? ⟨w.heap.size, 1, none⟩ = some (.slice Ae es.length ce)) (fun i _ => bs.length - (intOf i).toNat)
  case atStart => exact ⟨0, Nat.zero_le _, rfl, ⟨by omega⟩, ⟨ext_box _⟩, by simp, by simp⟩
  case round =>
    obtain ⟨k, hk, rfl, HS, HX, hb0, hb1⟩ := hrel
    by_cases hlt : k < bs.length
    · obtain ⟨b, off, A1, c1, A2, c2, vs, es', p, rfl, _, e0, e1, e2, HB, H1, H2⟩ := HAT.out k hlt
      replace e0 := HX.out.no e0
      replace e1 := HX.out.no e1
      replace e2 := HX.out.no e2
      have hb0a := fun o => (ext_box (w := wr) o).no hb0
      have hb1a := fun o => (ext_box (w := wr) o).no hb1
      cases hg1 : risesB vs many with
      | false =>
        have G1 := Sid.mk hg1
        clear hg1
        go_wp2_with (first | (go_at_call 13; first | (with_reducible refine (Rises_any _ vs _ _ (H1.out.no (HX.out.alloc _))).mono ?_; rintro e w' ⟨rfl, rfl⟩; rw [G1.out]) | (refine (Rises_any _ es' _ _ (H2.out.no (HX.out.alloc _))).mono ?_; rintro e w' ⟨rfl, rfl⟩; rw [G2.out])) | (go_at_call 38; refine (covers_any many _ _ _ es es' vs _ (HEV.out.no (HX.out.alloc _)) (H2.out.no (HX.out.alloc _)) (H1.out.no (HX.out.alloc _)) (inB_of_rises G2.out)).mono ?_; rintro e w' ⟨rfl, hx⟩; rw [G3.out]; have HC := Sid.mk hx; clear hx))
        go_ret
        exact ⟨ret_bool (by rw [allI_false HB.out (by simp [bagFormB, G1.out])]; rfl), HX.out.alloc _⟩
      | true =>
      have G1 := Sid.mk hg1
      clear hg1
      cases hg2 : risesB es' (es.length : Int) with
      | false =>
        have G2 := Sid.mk hg2
        clear hg2
        go_wp2_with (first | (go_at_call 13; first | (with_reducible refine (Rises_any _ vs _ _ (H1.out.no (HX.out.alloc _))).mono ?_; rintro e w' ⟨rfl, rfl⟩; rw [G1.out]) | (refine (Rises_any _ es' _ _ (H2.out.no (HX.out.alloc _))).mono ?_; rintro e w' ⟨rfl, rfl⟩; rw [G2.out])) | (go_at_call 38; refine (covers_any many _ _ _ es es' vs _ (HEV.out.no (HX.out.alloc _)) (H2.out.no (HX.out.alloc _)) (H1.out.no (HX.out.alloc _)) (inB_of_rises G2.out)).mono ?_; rintro e w' ⟨rfl, hx⟩; rw [G3.out]; have HC := Sid.mk hx; clear hx))
        go_ret
        exact ⟨ret_bool (by rw [allI_false HB.out (by simp [bagFormB, G2.out])]; rfl), HX.out.alloc _⟩
      | true =>
      have G2 := Sid.mk hg2
      clear hg2
      by_cases hp1 : p < -1
      · have hp1' := hp1
        go_wp2_with (first | (go_at_call 13; first | (with_reducible refine (Rises_any _ vs _ _ (H1.out.no (HX.out.alloc _))).mono ?_; rintro e w' ⟨rfl, rfl⟩; rw [G1.out]) | (refine (Rises_any _ es' _ _ (H2.out.no (HX.out.alloc _))).mono ?_; rintro e w' ⟨rfl, rfl⟩; rw [G2.out])) | (go_at_call 38; refine (covers_any many _ _ _ es es' vs _ (HEV.out.no (HX.out.alloc _)) (H2.out.no (HX.out.alloc _)) (H1.out.no (HX.out.alloc _)) (inB_of_rises G2.out)).mono ?_; rintro e w' ⟨rfl, hx⟩; rw [G3.out]; have HC := Sid.mk hx; clear hx))
        go_ret
        exact ⟨ret_bool (by rw [allI_false HB.out (by simp [bagFormB]; omega)]; rfl), HX.out.alloc _⟩
      by_cases hp2 : (k : Int) ≤ p
      · have hp2' := hp2
        go_wp2_with (first | (go_at_call 13; first | (with_reducible refine (Rises_any _ vs _ _ (H1.out.no (HX.out.alloc _))).mono ?_; rintro e w' ⟨rfl, rfl⟩; rw [G1.out]) | (refine (Rises_any _ es' _ _ (H2.out.no (HX.out.alloc _))).mono ?_; rintro e w' ⟨rfl, rfl⟩; rw [G2.out])) | (go_at_call 38; refine (covers_any many _ _ _ es es' vs _ (HEV.out.no (HX.out.alloc _)) (H2.out.no (HX.out.alloc _)) (H1.out.no (HX.out.alloc _)) (inB_of_rises G2.out)).mono ?_; rintro e w' ⟨rfl, hx⟩; rw [G3.out]; have HC := Sid.mk hx; clear hx))
        go_ret
        exact ⟨ret_bool (by rw [allI_false HB.out (by simp [bagFormB]; omega)]; rfl), HX.out.alloc _⟩
      cases hg3 : coversB es es' vs with
      | false =>
        have G3 := Sid.mk hg3
        clear hg3
        go_wp2_with (first | (go_at_call 13; first | (with_reducible refine (Rises_any _ vs _ _ (H1.out.no (HX.out.alloc _))).mono ?_; rintro e w' ⟨rfl, rfl⟩; rw [G1.out]) | (refine (Rises_any _ es' _ _ (H2.out.no (HX.out.alloc _))).mono ?_; rintro e w' ⟨rfl, rfl⟩; rw [G2.out])) | (go_at_call 38; refine (covers_any many _ _ _ es es' vs _ (HEV.out.no (HX.out.alloc _)) (H2.out.no (HX.out.alloc _)) (H1.out.no (HX.out.alloc _)) (inB_of_rises G2.out)).mono ?_; rintro e w' ⟨rfl, hx⟩; rw [G3.out]; have HC := Sid.mk hx; clear hx))
        go_ret
        exact ⟨ret_bool (by rw [allI_false HB.out (by simp [G3.out])]; rfl), (HX.out.alloc _).trans HC.out⟩
      | true =>
        have G3 := Sid.mk hg3
        clear hg3
        go_wp2_with (first | (go_at_call 13; first | (with_reducible refine (Rises_any _ vs _ _ (H1.out.no (HX.out.alloc _))).mono ?_; rintro e w' ⟨rfl, rfl⟩; rw [G1.out]) | (refine (Rises_any _ es' _ _ (H2.out.no (HX.out.alloc _))).mono ?_; rintro e w' ⟨rfl, rfl⟩; rw [G2.out])) | (go_at_call 38; refine (covers_any many _ _ _ es es' vs _ (HEV.out.no (HX.out.alloc _)) (H2.out.no (HX.out.alloc _)) (H1.out.no (HX.out.alloc _)) (inB_of_rises G2.out)).mono ?_; rintro e w' ⟨rfl, hx⟩; rw [G3.out]; have HC := Sid.mk hx; clear hx))
        go_roundw
        case rel => exact ⟨k+1, by omega, by go_num, ⟨fun i b hi hbi => by
              by_cases hik : i < k
              · exact HS.out i b hik hbi
              · obtain rfl : i = k := by omega
                rw [HB.out] at hbi; cases hbi
                simp [bagFormB, G1.out, G2.out, G3.out]; omega⟩, ⟨(HX.out.alloc _).trans HC.out⟩, HC.out.no ((ext_box _).no hb0), HC.out.no ((ext_box _).no hb1)⟩
        case measure => simp [intOf]; omega
    · have GA := Sid.mk (allI_of (f := fun i b => bagFormB many es.length i b && coversB es b.es b.vs) hlt HS.out)
      have HP : Sid (∀ b ∈ bs, b.parent < bs.length) := ⟨fun b hb => by
        obtain ⟨i, hi⟩ := List.mem_iff_getElem?.1 hb
        have h1 := allI_iff.1 GA.out i b hi
        have h2 := (List.getElem?_eq_some_iff.1 hi).1
        simp [bagFormB] at h1; omega⟩
      clear HS
      go_wp2
      go_loopw [62] (fun i wr => ∃ (k : Nat), k ≤ es.length ∧ i = .int .i64 k ∧ Sid (allB (fun e => anyB (fun b => withinB e b.vs) bs) (es.take k) = true) ∧ Sid (Ext No w wr) ∧ wr.cell? ⟨w.heap.size, 0, none⟩ = some (.int .i64 many)) (fun i _ => es.length - (intOf i).toNat)
      case atStart => exact ⟨0, Nat.zero_le _, rfl, ⟨by simp [allB]⟩, HX, hb0⟩
      case round =>
        clear hb0 hb1 HX
        obtain ⟨k, hk, rfl, HS, HX, hb0⟩ := hrel
        by_cases hlt : k < es.length
        · obtain ⟨be, offe, A', c', r, rfl, _, hcelle, HR', HI'⟩ := HE.out k hlt
          replace hcelle := HX.out.no hcelle
          go_wp2
          go_loopw [9, 68] (fun h i wr => ∃ (j : Nat), j ≤ bs.length ∧ i = .int .i64 j ∧ h = .bool (anyB (fun b => withinB r b.vs) (bs.take j)) ∧ Sid (Ext No w wr) ∧ wr.cell? ⟨w.heap.size, 0, none⟩ = some (.int .i64 many)) (fun _ i _ => bs.length - (intOf i).toNat)
          case atStart => exact ⟨0, Nat.zero_le _, rfl, by simp [anyB], HX, hb0⟩
          case round =>
            clear hb0 HX hcelle
            obtain ⟨j, hj, rfl, rfl, HX, hb0⟩ := hrel
            by_cases hjt : j < bs.length
            · obtain ⟨b, off, A1, c1, A2, c2, vs, es', p, rfl, _, e0, e1, e2, HB, H1, H2⟩ := HAT.out j hjt
              replace e0 := HX.out.no e0
              replace e1 := HX.out.no e1
              replace e2 := HX.out.no e2
              cases hb : anyB (fun b => withinB r b.vs) (bs.take j) with
              | true =>
                have HH := Sid.mk hb
                clear hb
                go_wp2
                go_roundw
                case rel => exact ⟨j+1, by omega, by go_num, by rw [anyB_succ HB.out, HH.out]; rfl, ⟨HX.out.alloc _⟩, (ext_box _).no hb0⟩
                case measure => simp [intOf]; omega
              | false =>
                have HH := Sid.mk hb
                clear hb
                go_wp2_with (go_at_call 46; refine (within_any _ _ r vs _ (HI'.out.no (HX.out.alloc _)) (H1.out.no (HX.out.alloc _))).mono ?_; rintro e w' ⟨rfl, rfl⟩)
                go_roundw
                case rel => exact ⟨j+1, by omega, by go_num, by rw [anyB_succ HB.out, HH.out]; rfl, ⟨HX.out.alloc _⟩, (ext_box _).no hb0⟩
                case measure => simp [intOf]; omega
            · cases hb : anyB (fun b => withinB r b.vs) (bs.take j) with
              | true =>
                have HH := Sid.mk hb
                clear hb
                go_wp2
                go_roundw
                case rel => exact ⟨k+1, by omega, by go_num, ⟨allB_succ HS.out HR'.out (by have := HH.out; rwa [List.take_of_length_le (by omega)] at this)⟩, HX, hb0⟩
                case measure => simp [intOf]; omega
              | false =>
                have HH := Sid.mk hb
                clear hb
                go_wp2
                go_ret
                exact ⟨ret_bool (by rw [GA.out, allB_false HR'.out (by have := HH.out; rwa [List.take_of_length_le (by omega)] at this)]; rfl), HX.out⟩
        · have GB := Sid.mk (allB_all hlt HS.out)
          clear HS
          go_wp2
          go_loopw [85] (fun i wr => ∃ (k : Nat), (k : Int) ≤ max 0 many ∧ i = .int .i64 k ∧ Sid (allB (fun v => decide (topsN bs v bs = 1)) ((vertsL many).take k) = true) ∧ Sid (Ext No w wr)) (fun i _ => many.toNat - (intOf i).toNat)
          case atStart => exact ⟨0, by omega, rfl, ⟨by simp [allB]⟩, HX⟩
          case round =>
            clear hb0 HX
            obtain ⟨k, hk, rfl, HS, HX⟩ := hrel
            by_cases hlt : (k : Int) < many
            · have HVk := Sid.mk (vertsL_at hlt)
              obtain ⟨t, ht⟩ : ∃ t, topsN bs (k : Int) bs = t := ⟨_, rfl⟩
              have HT := Sid.mk ht
              clear ht
              by_cases ht1 : t = 1
              · subst ht1
                go_wp2_with (go_at_call 47; refine (tops_any _ bs _ _ (HV.out.no HX.out) HP.out).mono ?_; rintro e w' ⟨rfl, hx⟩; rw [HT.out]; have HC := Sid.mk hx; clear hx)
                go_roundw
                case rel => exact ⟨k+1, by omega, by go_num, ⟨allB_succ HS.out HVk.out (by simp [HT.out])⟩, ⟨HX.out.trans HC.out⟩⟩
                case measure => simp [intOf]; omega
              · go_wp2_with (go_at_call 47; refine (tops_any _ bs _ _ (HV.out.no HX.out) HP.out).mono ?_; rintro e w' ⟨rfl, hx⟩; rw [HT.out]; have HC := Sid.mk hx; clear hx)
                go_ret
                exact ⟨ret_bool (by rw [GA.out, GB.out, allB_false HVk.out (by simp [HT.out, ht1])]; rfl), HX.out.trans HC.out⟩
            · go_wp2
              go_ret
              exact ⟨ret_bool (by rw [GA.out, GB.out, vertsTo HS.out (by omega)]; rfl), HX.out⟩
end Go.Proofs.YtceiaekkfabeaaaDoor
