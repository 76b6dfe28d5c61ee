/- Words and contracts for: DecompOf: for every hypergraph, and row of widths, the law answers true, and its arguments read as before. No condition; the library's table math/bits.deBruijn64tab is laid by its text. -/
import Derived.Test.YtceiaekkfabeaaaDoorZon
/- The law DecompOf: walked. -/
namespace Go.Proofs.YtceiaekkfabeaaaDoor
open Go.RowKit Go.Shelf Pl

theorem invL_start (mm : Nat) : InvL mm (vertsL (mm : Int)) 0 := fun x => by
  rw [mem_vertsL]
  constructor
  · rintro ⟨h1, h2⟩
    obtain ⟨u, rfl⟩ := Int.eq_ofNat_of_zero_le h1
    exact ⟨u, rfl, by omega, by simp⟩
  · rintro ⟨u, rfl, h1, _⟩
    exact ⟨by omega, by omega⟩
/-- What the document's Width says, told by orders. -/
theorem width_law {mm : Nat} {es : List (List Int)} (h : hyperB (mm : Int) es = true) (hb : bareB (mm : Int) es = false) (most : Int) : widthB es (mm : Int) most mm es (vertsL (mm : Int)) = true ↔ ∃ l, Elim (es.map ofTo) most (2 ^ mm - 1) 0 l :=
  width_elim h most mm es (vertsL (mm : Int)) 0 (by simp [vertsL_len]) (invE_start rfl h) (invL_start mm) ((bare_iff h).1 hb)
theorem ofA_bad {many : Int} {es : List (List Int)} {most : Int} (h : hyperB many es = false) : ofA many es most = (300, []) := by
  have hb : beginE many es most = 300 := by rw [beginE, if_pos h]
  rw [ofA, if_pos (by rw [hb]; decide), hb]
theorem ofA_arg {many : Int} {es : List (List Int)} {most : Int} (h : hyperB many es = true) (hm : most < 1) : ofA many es most = (2, []) := by
  have hb : beginE many es most = 2 := by rw [beginE, if_neg (by simp [h]), if_pos hm]
  rw [ofA, if_pos (by rw [hb]; decide), hb]
theorem ofA_bare {mm : Nat} {es : List (List Int)} {most : Int} (h : hyperB (mm : Int) es = true) (hm : 1 ≤ most) (hb : bareB (mm : Int) es = true) : ofA (mm : Int) es most = (4, []) := by
  have hb' : beginE (mm : Int) es most = 4 := by rw [begin_bare h hm, hb]; rfl
  rw [ofA, if_pos (by rw [hb']; decide), hb']
theorem leastA_bad {many : Int} {es : List (List Int)} (h : hyperB many es = false) : leastA many es = (0, 300) := by
  have hb : beginE many es 1 = 300 := by rw [beginE, if_pos h]
  rw [leastA, if_pos (by rw [hb]; decide), hb]
theorem leastA_bare {mm : Nat} {es : List (List Int)} (h : hyperB (mm : Int) es = true) (hb : bareB (mm : Int) es = true) : leastA (mm : Int) es = (0, 4) := by
  have hb' : beginE (mm : Int) es 1 = 4 := by rw [begin_bare h (Int.le_refl _), hb]; rfl
  rw [leastA, if_pos (by rw [hb']; decide), hb']
theorem take_verts {many : Int} {k : Nat} (h : (k : Int) < many) : (vertsL many).take (k + 1) = (vertsL many).take k ++ [(k : Int)] := take_succ_of (vertsL_at h)
/-- What Of answers from the least width on, and below. -/
theorem of_cases {mm : Nat} {es : List (List Int)} {n : Nat} (h : hyperB (mm : Int) es = true) (hb : bareB (mm : Int) es = false) (hn0 : n = 0 ↔ mm = 0) (hn1 : 0 < n → ∃ l, Elim (es.map ofTo) (n : Int) (2 ^ mm - 1) 0 l) (hn2 : ∀ j : Nat, 1 ≤ j → j < n → ¬ ∃ l, Elim (es.map ofTo) (j : Int) (2 ^ mm - 1) 0 l) {most : Int} (hm : 1 ≤ most) :
    (most < n → ofA (mm : Int) es most = (4, [])) ∧ (¬ most < n → ∃ l, ofA (mm : Int) es most = (0, l) ∧ rightB (mm : Int) es l = true ∧ widthTo 0 l ≤ most) := by
  obtain ⟨m, rfl⟩ := Int.eq_ofNat_of_zero_le (show 0 ≤ most by omega)
  constructor
  · intro hlt
    rcases of_law h hm hb with hl | hl
    · exact absurd hl.2.2.2 (hn2 m (by omega) (by omega))
    · exact Prod.ext hl.1 hl.2.1
  · intro hge
    rcases of_law h hm hb with hl | hl
    · exact ⟨_, Prod.ext hl.1 rfl, hl.2.1, hl.2.2.1⟩
    · exfalso
      apply hl.2.2
      by_cases h0 : n = 0
      · have hm0 := hn0.1 h0
        subst hm0
        exact ⟨[], fun u hu => by simp at hu⟩
      · obtain ⟨l, hl'⟩ := hn1 (by omega)
        exact ⟨l, Elim.more (by omega) l 0 hl'⟩

set_option maxHeartbeats 8000000 in
set_option maxRecDepth 100000 in
theorem of_law_any {P P2 : Nat → Prop} (many : Int) (ev nv : Value) (es : List (List Int)) (ns : List Int) (w : World) (he : RowsR P w ev es) (hn : IntsR .i64 P2 w nv ns) (hT : TabW w) :
    Calls Tryd.prog 4 #[.agg #[.int .i64 many, ev], nv] w fun e w' => e = .returned (.bool true) ∧ Ext No w w' := by
  obtain ⟨Ae, ce, rfl, _⟩ := he.at
  obtain ⟨An, cn, rfl, _, hmn, hatn⟩ := hn.at
  have HE := Sid.mk he
  have HATN := Sid.mk hatn
  have HT := Sid.mk hT
  clear he hn hatn hT
  have HB0 : Sid (∀ w', Ext No (w.alloc (.cells #[.int .i64 many, .slice Ae es.length ce] 24)) w' → w'.cell? ⟨w.heap.size, 0, none⟩ = some (.int .i64 many) ∧ w'.cell? ⟨w.heap.size, 1, none⟩ = some (.slice Ae es.length ce)) := ⟨fun w' hx => ⟨hx.no (by simp), hx.no (by simp)⟩⟩
  cases hob : ownB many es with
  | false =>
    have HOB := Sid.mk hob
    clear hob
    go_enter Tryd.func4, Tryd.ntmps4
    go_wp2_with (first
      | (go_at_call 8; refine (wakes_any _ (HT.out.no (ext_box _))).mono ?_; rintro e w1 ⟨rfl, hx1⟩; have h0 := (HB0.out _ hx1).1; have h1 := (HB0.out _ hx1).2; have HX1 := Sid.mk hx1; clear hx1)
      | (go_at_call 9; refine (own_any many _ es _ (HE.out.no ((ext_box _).trans HX1.out))).mono ?_; rintro e w2 ⟨hx2, hif⟩; rw [HOB.out] at hif; simp only [Bool.false_eq_true, if_false] at hif; subst hif; have HX2 := Sid.mk hx2; clear hx2))
    go_ret
    exact ⟨rfl, (((ext_box _).trans HX1.out).trans HX2.out).alloc _⟩
  | true =>
    have HOB := Sid.mk hob
    have h8 : es.length ≤ 7 ∧ many ≤ 6 := by simp only [ownB, Bool.and_eq_true, decide_eq_true_eq] at hob; exact hob.1
    have HRL : Sid (∀ e ∈ es, e.length ≤ 8) := ⟨by
      simp only [ownB, Bool.and_eq_true, allB, List.all_eq_true, decide_eq_true_eq] at hob; exact hob.2⟩
    clear hob
    by_cases h5 : 5 < many
    · have hgt : decide (5 < many) = true := by simp [h5]
      clear h5
      go_enter Tryd.func4, Tryd.ntmps4
      go_wp2_with (first
        | (go_at_call 8; refine (wakes_any _ (HT.out.no (ext_box _))).mono ?_; rintro e w1 ⟨rfl, hx1⟩; have h0 := (HB0.out _ hx1).1; have h1 := (HB0.out _ hx1).2; have HX1 := Sid.mk hx1; clear hx1)
        | (go_at_call 9; refine (own_any many _ es _ (HE.out.no ((ext_box _).trans HX1.out))).mono ?_; rintro e w2 ⟨hx2, hif⟩; rw [HOB.out] at hif; simp only [if_true] at hif; obtain ⟨v2, rfl, hr2⟩ := hif; obtain ⟨A2, c2, rfl, _⟩ := hr2.at; have HR2 := Sid.mk hr2; have HX2 := Sid.mk hx2; clear hr2 hx2))
      go_ret
      exact ⟨rfl, (((ext_box _).trans HX1.out).trans HX2.out).alloc _⟩
    · have hgt : decide (5 < many) = false := by simp; omega
      cases hg1 : hyperB many es with
      | false =>
        have G1 := Sid.mk hg1
        have HLA := Sid.mk (leastA_bad hg1)
        clear hg1
        go_enter Tryd.func4, Tryd.ntmps4
        go_wp2_with (first
          | (go_at_call 8; refine (wakes_any _ (HT.out.no (ext_box _))).mono ?_; rintro e w1 ⟨rfl, hx1⟩; have h0 := (HB0.out _ hx1).1; have h1 := (HB0.out _ hx1).2; have HX1 := Sid.mk hx1; clear hx1)
          | (go_at_call 9; refine (own_any many _ es _ (HE.out.no ((ext_box _).trans HX1.out))).mono ?_; rintro e w2 ⟨hx2, hif⟩; rw [HOB.out] at hif; simp only [if_true] at hif; obtain ⟨v2, rfl, hr2⟩ := hif; obtain ⟨A2, c2, rfl, _⟩ := hr2.at; have HR2 := Sid.mk hr2; have HX2 := Sid.mk hx2; clear hr2 hx2)
          | (go_at_call 16; refine (Least_any many _ es _ (HR2.out.no (ext_box _)) (by omega) (HT.out.no (((ext_box _).trans (HX1.out.trans HX2.out)).alloc _))).mono ?_; rintro e w3 ⟨rfl, hx3⟩; rw [HLA.out]; have hg0 := hx3.no (p := ⟨w2.heap.size, 0, none⟩) (v := .int .i64 many) (by simp); have hg1 := hx3.no (p := ⟨w2.heap.size, 1, none⟩) (v := .slice A2 es.length c2) (by simp); have HX3 := Sid.mk hx3; clear hx3)
          | (go_at_call 12; refine (Right20_any many _ es _ (HR2.out.no ((ext_box _).trans HX3.out))).mono ?_; rintro e w4 ⟨rfl, hx4⟩; rw [G1.out]; have hg2 := hx4.no hg0; have hg3 := hx4.no hg1; have HX4 := Sid.mk hx4; clear hx4))
        obtain ⟨W, hW⟩ : ∃ W : World, W = w4 := ⟨_, rfl⟩
        have HXW : Sid (Ext No w W) := ⟨by rw [hW]; exact ((ext_box _).trans (HX1.out.trans HX2.out)).trans ((ext_box _).trans (HX3.out.trans HX4.out))⟩
        have HRW : Sid (RowsR (fun k => w1.heap.size ≤ k) W (.slice A2 es.length c2) es) := ⟨by rw [hW]; exact HR2.out.no ((ext_box _).trans (HX3.out.trans HX4.out))⟩
        have HCW : Sid (∀ w', Ext No W w' → w'.cell? ⟨w2.heap.size, 0, none⟩ = some (.int .i64 many) ∧ w'.cell? ⟨w2.heap.size, 1, none⟩ = some (.slice A2 es.length c2)) := ⟨fun w' hx => ⟨hx.no (by rw [hW]; exact hg2), hx.no (by rw [hW]; exact hg3)⟩⟩
        have hmc : W.cell? ⟨w2.heap.size, 0, none⟩ = some (.int .i64 many) := by rw [hW]; exact hg2
        rw [← hW]
        clear hW hg0 hg1 hg2 hg3 h0 h1
        go_wp2
        go_loopw [11, 43] (fun v i wr => ∃ k : Nat, k ≤ many.toNat ∧ i = .int .i64 (k : Int) ∧ Sid (Own W.heap.size 3 1 wr v k (((vertsL many).take k).map (.int .i64))) ∧ Sid (Ext No W wr)) (fun _ i _ => many.toNat - (intOf i).toNat)
        case atStart => exact ⟨0, Nat.zero_le _, rfl, ⟨by simpa using Own.nil _ _ _ _⟩, ⟨Ext.refl _ _⟩⟩
        case round =>
          obtain ⟨k, hk, rfl, HO, HX⟩ := hrel
          have HSZ : Sid (W.heap.size ≤ wr.heap.size) := ⟨HX.out.size⟩
          obtain ⟨wo, hwo⟩ : ∃ wo : World, wo = wr := ⟨_, rfl⟩
          clear hmc
          by_cases hlt : (k : Int) < many
          · go_wp2_with (at_builtin; refine app1 W.heap.size rfl (.tmp 46) (.tmp 48) 28 3 (.int .i64 0) 8 rfl Tryd.underlying28 info3 rfl (by decide) _ _ _ _ rfl rfl (by simp) rfl HO.out HSZ.out (by omega) ?_; intro v1 w7 ho1 hx1 hb1 hs1; have HO1 := Sid.mk ho1; have HX7 := Sid.mk hx1; clear ho1 hx1 hb1 hs1)
            go_roundw
            case rel => exact ⟨k + 1, by omega, by go_num, ⟨by rw [take_verts hlt, List.map_append]; exact HO1.out⟩, ⟨HO.out.step HX.out HX7.out⟩⟩
            case measure => simp [intOf]; omega
          · have hk' : k = many.toNat := by omega
            have HIL : Sid (IntsR .i64 (fun j => W.heap.size ≤ j) wr u11 (vertsL many)) := ⟨by
              have h := HO.out
              rw [hk', List.take_of_length_le (by rw [vertsL_len]; omega), ← vertsL_len many] at h
              exact h.ints (by rw [vertsL_len]; omega) (fun j hj => (h.ge j hj).1)⟩
            clear HO hk
            have hgm := (HCW.out _ HX.out).1
            have hge := (HCW.out _ HX.out).2
            go_wp2
            go_loopw [107] (fun i wr => ∃ k : Nat, k ≤ ns.length ∧ i = .int .i64 (k : Int) ∧ Sid (Ext No W wr)) (fun i _ => ns.length - (intOf i).toNat)
            case atStart => exact ⟨0, Nat.zero_le _, rfl, HX⟩
            case round =>
              obtain ⟨k, hk, rfl, HX8⟩ := hrel
              obtain ⟨wq, hwq⟩ : ∃ wq : World, wq = wr := ⟨_, rfl⟩
              have hg8 := (HCW.out _ HX8.out).1
              have hg9 := (HCW.out _ HX8.out).2
              by_cases hlt : k < ns.length
              · obtain ⟨b, off, most, rfl, _, hcell0, HNV⟩ := HATN.out k hlt
                have hcell := (HXW.out.trans HX8.out).no hcell0
                clear hcell0
                by_cases h4 : k = 4
                · have h4' : ((k : Int) == 4) = true := by simp [h4]
                  clear h4
                  go_wp2
                  go_ret
                  exact ⟨rfl, HXW.out.trans HX8.out⟩
                · have h4' : ((k : Int) == 4) = false := by rw [beq_eq_false_iff_ne]; omega
                  clear h4
                  have HOF : Sid (ofA many es most = (300, [])) := ⟨ofA_bad G1.out⟩
                  go_wp2_with (go_at_call 19; refine (Of_any many _ es most _ (HRW.out.no HX8.out) (by omega) (HT.out.no (HXW.out.trans HX8.out))).mono ?_; rintro e w9 ⟨v9, rfl, hb9, hx9⟩; rw [HOF.out] at hb9 ⊢; obtain ⟨A9, c9, rfl, _⟩ := hb9.at; have hga := hx9.no hg8; have hgb := hx9.no hg9; have HB9 := Sid.mk hb9; have HX9 : Sid (Ext No W w9) := ⟨HX8.out.trans hx9⟩; clear hb9 hx9)
                  go_roundw
                  case rel => exact ⟨k + 1, by omega, by go_num, HX9⟩
                  case measure => simp [intOf]; omega
              · go_wp2
                go_ret
                exact ⟨rfl, HXW.out.trans HX8.out⟩
      | true =>
        have G1 := Sid.mk hg1
        have hm0 := (hyperB_parts hg1).1
        obtain ⟨mm, hmm⟩ := Int.eq_ofNat_of_zero_le hm0
        have HMM := Sid.mk hmm
        clear hm0 hmm
        cases hg3 : bareB many es with
        | true =>
          have G3 := Sid.mk hg3
          have HLA : Sid (leastA many es = (0, 4)) := ⟨by have hm0 := HMM.out; subst hm0; exact leastA_bare hg1 hg3⟩
          clear hg1 hg3
          go_enter Tryd.func4, Tryd.ntmps4
          go_wp2_with (first
            | (go_at_call 8; refine (wakes_any _ (HT.out.no (ext_box _))).mono ?_; rintro e w1 ⟨rfl, hx1⟩; have h0 := (HB0.out _ hx1).1; have h1 := (HB0.out _ hx1).2; have HX1 := Sid.mk hx1; clear hx1)
            | (go_at_call 9; refine (own_any many _ es _ (HE.out.no ((ext_box _).trans HX1.out))).mono ?_; rintro e w2 ⟨hx2, hif⟩; rw [HOB.out] at hif; simp only [if_true] at hif; obtain ⟨v2, rfl, hr2⟩ := hif; obtain ⟨A2, c2, rfl, _⟩ := hr2.at; have HR2 := Sid.mk hr2; have HX2 := Sid.mk hx2; clear hr2 hx2)
            | (go_at_call 16; refine (Least_any many _ es _ (HR2.out.no (ext_box _)) (by omega) (HT.out.no (((ext_box _).trans (HX1.out.trans HX2.out)).alloc _))).mono ?_; rintro e w3 ⟨rfl, hx3⟩; rw [HLA.out]; have hg0 := hx3.no (p := ⟨w2.heap.size, 0, none⟩) (v := .int .i64 many) (by simp); have hg1 := hx3.no (p := ⟨w2.heap.size, 1, none⟩) (v := .slice A2 es.length c2) (by simp); have HX3 := Sid.mk hx3; clear hx3)
            | (go_at_call 12; refine (Right20_any many _ es _ (HR2.out.no ((ext_box _).trans HX3.out))).mono ?_; rintro e w4 ⟨rfl, hx4⟩; rw [G1.out]; have hg2 := hx4.no hg0; have hg3 := hx4.no hg1; have HX4 := Sid.mk hx4; clear hx4)
            | (go_at_call 17; refine (Bare_any many _ es _ (HR2.out.no ((ext_box _).trans (HX3.out.trans HX4.out))) (by omega)).mono ?_; rintro e w5 ⟨rfl, hx5⟩; rw [G3.out]; have hg4 := hx5.no hg2; have hg5 := hx5.no hg3; have HX5 := Sid.mk hx5; clear hx5))
          obtain ⟨W, hW⟩ : ∃ W : World, W = w5 := ⟨_, rfl⟩
          have HXW : Sid (Ext No w W) := ⟨by rw [hW]; exact ((ext_box _).trans (HX1.out.trans HX2.out)).trans ((ext_box _).trans (HX3.out.trans (HX4.out.trans HX5.out)))⟩
          have HRW : Sid (RowsR (fun k => w1.heap.size ≤ k) W (.slice A2 es.length c2) es) := ⟨by rw [hW]; exact HR2.out.no ((ext_box _).trans (HX3.out.trans (HX4.out.trans HX5.out)))⟩
          have HCW : Sid (∀ w', Ext No W w' → w'.cell? ⟨w2.heap.size, 0, none⟩ = some (.int .i64 many) ∧ w'.cell? ⟨w2.heap.size, 1, none⟩ = some (.slice A2 es.length c2)) := ⟨fun w' hx => ⟨hx.no (by rw [hW]; exact hg4), hx.no (by rw [hW]; exact hg5)⟩⟩
          have hmc : W.cell? ⟨w2.heap.size, 0, none⟩ = some (.int .i64 many) := by rw [hW]; exact hg4
          rw [← hW]
          clear hW hg0 hg1 hg2 hg3 hg4 hg5 h0 h1
          go_wp2
          go_loopw [11, 43] (fun v i wr => ∃ k : Nat, k ≤ many.toNat ∧ i = .int .i64 (k : Int) ∧ Sid (Own W.heap.size 3 1 wr v k (((vertsL many).take k).map (.int .i64))) ∧ Sid (Ext No W wr)) (fun _ i _ => many.toNat - (intOf i).toNat)
          case atStart => exact ⟨0, Nat.zero_le _, rfl, ⟨by simpa using Own.nil _ _ _ _⟩, ⟨Ext.refl _ _⟩⟩
          case round =>
            obtain ⟨k, hk, rfl, HO, HX⟩ := hrel
            have HSZ : Sid (W.heap.size ≤ wr.heap.size) := ⟨HX.out.size⟩
            obtain ⟨wo, hwo⟩ : ∃ wo : World, wo = wr := ⟨_, rfl⟩
            clear hmc
            by_cases hlt : (k : Int) < many
            · go_wp2_with (at_builtin; refine app1 W.heap.size rfl (.tmp 46) (.tmp 48) 28 3 (.int .i64 0) 8 rfl Tryd.underlying28 info3 rfl (by decide) _ _ _ _ rfl rfl (by simp) rfl HO.out HSZ.out (by omega) ?_; intro v1 w7 ho1 hx1 hb1 hs1; have HO1 := Sid.mk ho1; have HX7 := Sid.mk hx1; clear ho1 hx1 hb1 hs1)
              go_roundw
              case rel => exact ⟨k + 1, by omega, by go_num, ⟨by rw [take_verts hlt, List.map_append]; exact HO1.out⟩, ⟨HO.out.step HX.out HX7.out⟩⟩
              case measure => simp [intOf]; omega
            · have hk' : k = many.toNat := by omega
              have HIL : Sid (IntsR .i64 (fun j => W.heap.size ≤ j) wr u11 (vertsL many)) := ⟨by
                have h := HO.out
                rw [hk', List.take_of_length_le (by rw [vertsL_len]; omega), ← vertsL_len many] at h
                exact h.ints (by rw [vertsL_len]; omega) (fun j hj => (h.ge j hj).1)⟩
              clear HO hk
              have hgm := (HCW.out _ HX.out).1
              have hge := (HCW.out _ HX.out).2
              go_wp2
              go_loopw [107] (fun i wr => ∃ k : Nat, k ≤ ns.length ∧ i = .int .i64 (k : Int) ∧ Sid (Ext No W wr)) (fun i _ => ns.length - (intOf i).toNat)
              case atStart => exact ⟨0, Nat.zero_le _, rfl, HX⟩
              case round =>
                obtain ⟨k, hk, rfl, HX8⟩ := hrel
                obtain ⟨wq, hwq⟩ : ∃ wq : World, wq = wr := ⟨_, rfl⟩
                have hg8 := (HCW.out _ HX8.out).1
                have hg9 := (HCW.out _ HX8.out).2
                by_cases hlt : k < ns.length
                · obtain ⟨b, off, most, rfl, _, hcell0, HNV⟩ := HATN.out k hlt
                  have hcell := (HXW.out.trans HX8.out).no hcell0
                  clear hcell0
                  by_cases h4 : k = 4
                  · have h4' : ((k : Int) == 4) = true := by simp [h4]
                    clear h4
                    go_wp2
                    go_ret
                    exact ⟨rfl, HXW.out.trans HX8.out⟩
                  · have h4' : ((k : Int) == 4) = false := by rw [beq_eq_false_iff_ne]; omega
                    clear h4
                    by_cases hm1 : most < 1
                    · have hm1' : decide (most < 1) = true := by simp [hm1]
                      have HOF : Sid (ofA many es most = (2, [])) := ⟨ofA_arg G1.out (by omega)⟩
                      go_wp2_with (go_at_call 19; refine (Of_any many _ es most _ (HRW.out.no HX8.out) (by omega) (HT.out.no (HXW.out.trans HX8.out))).mono ?_; rintro e w9 ⟨v9, rfl, hb9, hx9⟩; rw [HOF.out] at hb9 ⊢; obtain ⟨A9, c9, rfl, _⟩ := hb9.at; have hga := hx9.no hg8; have hgb := hx9.no hg9; have HB9 := Sid.mk hb9; have HX9 : Sid (Ext No W w9) := ⟨HX8.out.trans hx9⟩; clear hb9 hx9)
                      go_roundw
                      case rel => exact ⟨k + 1, by omega, by go_num, HX9⟩
                      case measure => simp [intOf]; omega
                    · have hm1' : decide (most < 1) = false := by simp; omega
                      have HOF : Sid (ofA many es most = (4, [])) := ⟨by have hm0 := HMM.out; subst hm0; exact ofA_bare G1.out (by omega) G3.out⟩
                      clear hm1
                      go_wp2_with (go_at_call 19; refine (Of_any many _ es most _ (HRW.out.no HX8.out) (by omega) (HT.out.no (HXW.out.trans HX8.out))).mono ?_; rintro e w9 ⟨v9, rfl, hb9, hx9⟩; rw [HOF.out] at hb9 ⊢; obtain ⟨A9, c9, rfl, _⟩ := hb9.at; have hga := hx9.no hg8; have hgb := hx9.no hg9; have HB9 := Sid.mk hb9; have HX9 : Sid (Ext No W w9) := ⟨HX8.out.trans hx9⟩; clear hb9 hx9)
                      go_roundw
                      case rel => exact ⟨k + 1, by omega, by go_num, HX9⟩
                      case measure => simp [intOf]; omega
                · go_wp2
                  go_ret
                  exact ⟨rfl, HXW.out.trans HX8.out⟩
        | false =>
          have G3 := Sid.mk hg3
          have HLW : Sid (∃ n : Nat, leastA many es = ((n : Int), 0) ∧ n ≤ 41 ∧ (n = 0 ↔ mm = 0) ∧ (0 < n → ∃ l, Elim (es.map ofTo) (n : Int) (2 ^ mm - 1) 0 l) ∧ (∀ j : Nat, 1 ≤ j → j < n → ¬ ∃ l, Elim (es.map ofTo) (j : Int) (2 ^ mm - 1) 0 l)) := ⟨by
            have hm0 := HMM.out; subst hm0; exact least_law hg1 (by omega) hg3⟩
          obtain ⟨n, hla, hn41, hn0, hn1, hn2⟩ := HLW.out
          have HWL : Sid (∀ j : Int, widthB es many j mm es (vertsL many) = true ↔ ∃ l, Elim (es.map ofTo) j (2 ^ mm - 1) 0 l) := ⟨fun j => by
            have hm0 := HMM.out; subst hm0; exact width_law hg1 hg3 j⟩
          obtain ⟨nI, hnI⟩ : ∃ nI : Int, nI = (n : Int) := ⟨_, rfl⟩
          have HNI := Sid.mk hnI
          rw [← hnI] at hla
          have HLA := Sid.mk hla
          have HN0 := Sid.mk hn0
          have HN1 := Sid.mk hn1
          have HN2 := Sid.mk hn2
          clear hg1 hg3 hla hn0 hn1 hn2 HLW hnI
          go_enter Tryd.func4, Tryd.ntmps4
          go_wp2_with (first
            | (go_at_call 8; refine (wakes_any _ (HT.out.no (ext_box _))).mono ?_; rintro e w1 ⟨rfl, hx1⟩; have h0 := (HB0.out _ hx1).1; have h1 := (HB0.out _ hx1).2; have HX1 := Sid.mk hx1; clear hx1)
            | (go_at_call 9; refine (own_any many _ es _ (HE.out.no ((ext_box _).trans HX1.out))).mono ?_; rintro e w2 ⟨hx2, hif⟩; rw [HOB.out] at hif; simp only [if_true] at hif; obtain ⟨v2, rfl, hr2⟩ := hif; obtain ⟨A2, c2, rfl, _⟩ := hr2.at; have HR2 := Sid.mk hr2; have HX2 := Sid.mk hx2; clear hr2 hx2)
            | (go_at_call 16; refine (Least_any many _ es _ (HR2.out.no (ext_box _)) (by omega) (HT.out.no (((ext_box _).trans (HX1.out.trans HX2.out)).alloc _))).mono ?_; rintro e w3 ⟨rfl, hx3⟩; rw [HLA.out]; have hg0 := hx3.no (p := ⟨w2.heap.size, 0, none⟩) (v := .int .i64 many) (by simp); have hg1 := hx3.no (p := ⟨w2.heap.size, 1, none⟩) (v := .slice A2 es.length c2) (by simp); have HX3 := Sid.mk hx3; clear hx3)
            | (go_at_call 12; refine (Right20_any many _ es _ (HR2.out.no ((ext_box _).trans HX3.out))).mono ?_; rintro e w4 ⟨rfl, hx4⟩; rw [G1.out]; have hg2 := hx4.no hg0; have hg3 := hx4.no hg1; have HX4 := Sid.mk hx4; clear hx4)
            | (go_at_call 17; refine (Bare_any many _ es _ (HR2.out.no ((ext_box _).trans (HX3.out.trans HX4.out))) (by omega)).mono ?_; rintro e w5 ⟨rfl, hx5⟩; rw [G3.out]; have hg4 := hx5.no hg2; have hg5 := hx5.no hg3; have HX5 := Sid.mk hx5; clear hx5))
          obtain ⟨W, hW⟩ : ∃ W : World, W = w5 := ⟨_, rfl⟩
          have HXW : Sid (Ext No w W) := ⟨by rw [hW]; exact ((ext_box _).trans (HX1.out.trans HX2.out)).trans ((ext_box _).trans (HX3.out.trans (HX4.out.trans HX5.out)))⟩
          have HRW : Sid (RowsR (fun k => w1.heap.size ≤ k) W (.slice A2 es.length c2) es) := ⟨by rw [hW]; exact HR2.out.no ((ext_box _).trans (HX3.out.trans (HX4.out.trans HX5.out)))⟩
          have HCW : Sid (∀ w', Ext No W w' → w'.cell? ⟨w2.heap.size, 0, none⟩ = some (.int .i64 many) ∧ w'.cell? ⟨w2.heap.size, 1, none⟩ = some (.slice A2 es.length c2)) := ⟨fun w' hx => ⟨hx.no (by rw [hW]; exact hg4), hx.no (by rw [hW]; exact hg5)⟩⟩
          have hmc : W.cell? ⟨w2.heap.size, 0, none⟩ = some (.int .i64 many) := by rw [hW]; exact hg4
          rw [← hW]
          clear hW hg0 hg1 hg2 hg3 hg4 hg5 h0 h1
          go_wp2
          go_loopw [11, 43] (fun v i wr => ∃ k : Nat, k ≤ many.toNat ∧ i = .int .i64 (k : Int) ∧ Sid (Own W.heap.size 3 1 wr v k (((vertsL many).take k).map (.int .i64))) ∧ Sid (Ext No W wr)) (fun _ i _ => many.toNat - (intOf i).toNat)
          case atStart => exact ⟨0, Nat.zero_le _, rfl, ⟨by simpa using Own.nil _ _ _ _⟩, ⟨Ext.refl _ _⟩⟩
          case round =>
            obtain ⟨k, hk, rfl, HO, HX⟩ := hrel
            have HSZ : Sid (W.heap.size ≤ wr.heap.size) := ⟨HX.out.size⟩
            obtain ⟨wo, hwo⟩ : ∃ wo : World, wo = wr := ⟨_, rfl⟩
            clear hmc
            by_cases hlt : (k : Int) < many
            · go_wp2_with (at_builtin; refine app1 W.heap.size rfl (.tmp 46) (.tmp 48) 28 3 (.int .i64 0) 8 rfl Tryd.underlying28 info3 rfl (by decide) _ _ _ _ rfl rfl (by simp) rfl HO.out HSZ.out (by omega) ?_; intro v1 w7 ho1 hx1 hb1 hs1; have HO1 := Sid.mk ho1; have HX7 := Sid.mk hx1; clear ho1 hx1 hb1 hs1)
              go_roundw
              case rel => exact ⟨k + 1, by omega, by go_num, ⟨by rw [take_verts hlt, List.map_append]; exact HO1.out⟩, ⟨HO.out.step HX.out HX7.out⟩⟩
              case measure => simp [intOf]; omega
            · have hk' : k = many.toNat := by omega
              have HIL : Sid (IntsR .i64 (fun j => W.heap.size ≤ j) wr u11 (vertsL many)) := ⟨by
                have h := HO.out
                rw [hk', List.take_of_length_le (by rw [vertsL_len]; omega), ← vertsL_len many] at h
                exact h.ints (by rw [vertsL_len]; omega) (fun j hj => (h.ge j hj).1)⟩
              clear HO hk
              have hgm := (HCW.out _ HX.out).1
              have hge := (HCW.out _ HX.out).2
              by_cases hz : n = 0
              · have hmz : many = 0 := by have h := HN0.out.1 hz; rw [HMM.out, h]; rfl
                have hz1 : (nI == 0) = true := by rw [beq_iff_eq]; have := HNI.out; omega
                have hz2 : (many == 0) = true := by simp [hmz]
                have hz3 : decide (0 < nI) = false := by have := HNI.out; simp; omega
                have hz4 : decide (1 < nI) = false := by have := HNI.out; simp; omega
                clear hz hmz
                go_wp2
                go_loopw [107] (fun i wr => ∃ k : Nat, k ≤ ns.length ∧ i = .int .i64 (k : Int) ∧ Sid (Ext No W wr)) (fun i _ => ns.length - (intOf i).toNat)
                case atStart => exact ⟨0, Nat.zero_le _, rfl, HX⟩
                case round =>
                  obtain ⟨k, hk, rfl, HX8⟩ := hrel
                  obtain ⟨wq, hwq⟩ : ∃ wq : World, wq = wr := ⟨_, rfl⟩
                  have hg8 := (HCW.out _ HX8.out).1
                  have hg9 := (HCW.out _ HX8.out).2
                  by_cases hlt : k < ns.length
                  · obtain ⟨b, off, most, rfl, _, hcell0, HNV⟩ := HATN.out k hlt
                    have hcell := (HXW.out.trans HX8.out).no hcell0
                    clear hcell0
                    by_cases h4 : k = 4
                    · have h4' : ((k : Int) == 4) = true := by simp [h4]
                      clear h4
                      go_wp2
                      go_ret
                      exact ⟨rfl, HXW.out.trans HX8.out⟩
                    · have h4' : ((k : Int) == 4) = false := by rw [beq_eq_false_iff_ne]; omega
                      clear h4
                      by_cases hm1 : most < 1
                      · have hm1' : decide (most < 1) = true := by simp [hm1]
                        have HOF : Sid (ofA many es most = (2, [])) := ⟨ofA_arg G1.out (by omega)⟩
                        go_wp2_with (go_at_call 19; refine (Of_any many _ es most _ (HRW.out.no HX8.out) (by omega) (HT.out.no (HXW.out.trans HX8.out))).mono ?_; rintro e w9 ⟨v9, rfl, hb9, hx9⟩; rw [HOF.out] at hb9 ⊢; obtain ⟨A9, c9, rfl, _⟩ := hb9.at; have hga := hx9.no hg8; have hgb := hx9.no hg9; have HB9 := Sid.mk hb9; have HX9 : Sid (Ext No W w9) := ⟨HX8.out.trans hx9⟩; clear hb9 hx9)
                        go_roundw
                        case rel => exact ⟨k + 1, by omega, by go_num, HX9⟩
                        case measure => simp [intOf]; omega
                      · have hm1' : decide (most < 1) = false := by simp; omega
                        have HCS := Sid.mk (of_cases (n := n) (by have h := G1.out; rwa [HMM.out] at h) (by have h := G3.out; rwa [HMM.out] at h) HN0.out HN1.out HN2.out (most := most) (by omega))
                        by_cases hmn1 : most < nI
                        · have hmn1' : decide (most < nI) = true := by simp [hmn1]
                          have HOF : Sid (ofA many es most = (4, [])) := ⟨by have h := HCS.out.1 (by rw [← HNI.out]; exact hmn1); rwa [← HMM.out] at h⟩
                          clear hm1 hmn1 HCS
                          go_wp2_with (go_at_call 19; refine (Of_any many _ es most _ (HRW.out.no HX8.out) (by omega) (HT.out.no (HXW.out.trans HX8.out))).mono ?_; rintro e w9 ⟨v9, rfl, hb9, hx9⟩; rw [HOF.out] at hb9 ⊢; obtain ⟨A9, c9, rfl, _⟩ := hb9.at; have hga := hx9.no hg8; have hgb := hx9.no hg9; have HB9 := Sid.mk hb9; have HX9 : Sid (Ext No W w9) := ⟨HX8.out.trans hx9⟩; clear hb9 hx9)
                          go_roundw
                          case rel => exact ⟨k + 1, by omega, by go_num, HX9⟩
                          case measure => simp [intOf]; omega
                        · have hmn1' : decide (most < nI) = false := by simp; omega
                          obtain ⟨L, hL1, hL2, hL3⟩ := HCS.out.2 (by rw [← HNI.out]; exact hmn1)
                          rw [← HMM.out] at hL1 hL2
                          obtain ⟨M, hM⟩ : ∃ M, M = widthTo 0 L := ⟨_, rfl⟩
                          rw [← hM] at hL3
                          have HOF := Sid.mk hL1
                          have HRT := Sid.mk hL2
                          have HM := Sid.mk hM
                          have hle : decide (M ≤ most) = true := by simp [hL3]
                          clear hm1 hmn1 HCS hL1 hL2 hL3 hM
                          go_wp2_with (first
                            | (go_at_call 19; refine (Of_any many _ es most _ (HRW.out.no HX8.out) (by omega) (HT.out.no (HXW.out.trans HX8.out))).mono ?_; rintro e w9 ⟨v9, rfl, hb9, hx9⟩; rw [HOF.out] at hb9 ⊢; obtain ⟨A9, c9, rfl, _⟩ := hb9.at; have hga := hx9.no hg8; have hgb := hx9.no hg9; have HB9 := Sid.mk hb9; have HX9 : Sid (Ext No W w9) := ⟨HX8.out.trans hx9⟩; clear hb9 hx9)
                            | (go_at_call 20; refine (Right21_any many _ _ es L _ (HRW.out.no HX9.out) HB9.out (by omega)).mono ?_; rintro e wa ⟨rfl, hxa⟩; rw [HRT.out]; have HXA := Sid.mk hxa; clear hxa)
                            | (go_at_call 21; refine (Width_any _ L _ (HB9.out.no HXA.out)).mono ?_; rintro e wb ⟨rfl, hxb⟩; rw [← HM.out]; have HXB := Sid.mk hxb; clear hxb))
                          go_roundw
                          case rel => exact ⟨k + 1, by omega, by go_num, ⟨HX9.out.trans (HXA.out.trans HXB.out)⟩⟩
                          case measure => simp [intOf]; omega
                  · go_wp2
                    go_ret
                    exact ⟨rfl, HXW.out.trans HX8.out⟩
              · have hz1 : (nI == 0) = false := by rw [beq_eq_false_iff_ne]; have := HNI.out; omega
                have hmz : many ≠ 0 := fun h => hz (HN0.out.2 (by have := HMM.out; omega))
                have hz2 : (many == 0) = false := by rw [beq_eq_false_iff_ne]; exact hmz
                have hz3 : decide (0 < nI) = true := by have := HNI.out; simp; omega
                have HW1 : Sid (widthB es many nI mm es (vertsL many) = true) := ⟨by rw [HWL.out, HNI.out]; exact HN1.out (by omega)⟩
                by_cases hz5 : n = 1
                · have hz4 : decide (1 < nI) = false := by have := HNI.out; simp; omega
                  clear hz hmz hz5
                  go_wp2_with (go_at_call 18; refine (refWidth_any many nI es (by omega) (by omega) mm _ _ _ es (vertsL many) _ (HRW.out.no HX.out) (HRW.out.no HX.out) HIL.out (by rw [vertsL_len]; have := HMM.out; omega) (by have := HMM.out; omega) (by have := HMM.out; omega) (fun e he => by have := HRL.out e he; omega)).mono ?_; rintro e wc ⟨rfl, hxwc⟩; rw [HW1.out]; have HYwc := Sid.mk hxwc; have hgmwc := (HCW.out _ (HX.out.trans hxwc)).1; have hgewc := (HCW.out _ (HX.out.trans hxwc)).2; have HXwc : Sid (Ext No W wc) := ⟨HX.out.trans hxwc⟩; clear hxwc)
                  go_loopw [107] (fun i wr => ∃ k : Nat, k ≤ ns.length ∧ i = .int .i64 (k : Int) ∧ Sid (Ext No W wr)) (fun i _ => ns.length - (intOf i).toNat)
                  case atStart => exact ⟨0, Nat.zero_le _, rfl, HXwc⟩
                  case round =>
                    obtain ⟨k, hk, rfl, HX8⟩ := hrel
                    obtain ⟨wq, hwq⟩ : ∃ wq : World, wq = wr := ⟨_, rfl⟩
                    have hg8 := (HCW.out _ HX8.out).1
                    have hg9 := (HCW.out _ HX8.out).2
                    by_cases hlt : k < ns.length
                    · obtain ⟨b, off, most, rfl, _, hcell0, HNV⟩ := HATN.out k hlt
                      have hcell := (HXW.out.trans HX8.out).no hcell0
                      clear hcell0
                      by_cases h4 : k = 4
                      · have h4' : ((k : Int) == 4) = true := by simp [h4]
                        clear h4
                        go_wp2
                        go_ret
                        exact ⟨rfl, HXW.out.trans HX8.out⟩
                      · have h4' : ((k : Int) == 4) = false := by rw [beq_eq_false_iff_ne]; omega
                        clear h4
                        by_cases hm1 : most < 1
                        · have hm1' : decide (most < 1) = true := by simp [hm1]
                          have HOF : Sid (ofA many es most = (2, [])) := ⟨ofA_arg G1.out (by omega)⟩
                          go_wp2_with (go_at_call 19; refine (Of_any many _ es most _ (HRW.out.no HX8.out) (by omega) (HT.out.no (HXW.out.trans HX8.out))).mono ?_; rintro e w9 ⟨v9, rfl, hb9, hx9⟩; rw [HOF.out] at hb9 ⊢; obtain ⟨A9, c9, rfl, _⟩ := hb9.at; have hga := hx9.no hg8; have hgb := hx9.no hg9; have HB9 := Sid.mk hb9; have HX9 : Sid (Ext No W w9) := ⟨HX8.out.trans hx9⟩; clear hb9 hx9)
                          go_roundw
                          case rel => exact ⟨k + 1, by omega, by go_num, HX9⟩
                          case measure => simp [intOf]; omega
                        · have hm1' : decide (most < 1) = false := by simp; omega
                          have HCS := Sid.mk (of_cases (n := n) (by have h := G1.out; rwa [HMM.out] at h) (by have h := G3.out; rwa [HMM.out] at h) HN0.out HN1.out HN2.out (most := most) (by omega))
                          by_cases hmn1 : most < nI
                          · have hmn1' : decide (most < nI) = true := by simp [hmn1]
                            have HOF : Sid (ofA many es most = (4, [])) := ⟨by have h := HCS.out.1 (by rw [← HNI.out]; exact hmn1); rwa [← HMM.out] at h⟩
                            clear hm1 hmn1 HCS
                            go_wp2_with (go_at_call 19; refine (Of_any many _ es most _ (HRW.out.no HX8.out) (by omega) (HT.out.no (HXW.out.trans HX8.out))).mono ?_; rintro e w9 ⟨v9, rfl, hb9, hx9⟩; rw [HOF.out] at hb9 ⊢; obtain ⟨A9, c9, rfl, _⟩ := hb9.at; have hga := hx9.no hg8; have hgb := hx9.no hg9; have HB9 := Sid.mk hb9; have HX9 : Sid (Ext No W w9) := ⟨HX8.out.trans hx9⟩; clear hb9 hx9)
                            go_roundw
                            case rel => exact ⟨k + 1, by omega, by go_num, HX9⟩
                            case measure => simp [intOf]; omega
                          · have hmn1' : decide (most < nI) = false := by simp; omega
                            obtain ⟨L, hL1, hL2, hL3⟩ := HCS.out.2 (by rw [← HNI.out]; exact hmn1)
                            rw [← HMM.out] at hL1 hL2
                            obtain ⟨M, hM⟩ : ∃ M, M = widthTo 0 L := ⟨_, rfl⟩
                            rw [← hM] at hL3
                            have HOF := Sid.mk hL1
                            have HRT := Sid.mk hL2
                            have HM := Sid.mk hM
                            have hle : decide (M ≤ most) = true := by simp [hL3]
                            clear hm1 hmn1 HCS hL1 hL2 hL3 hM
                            go_wp2_with (first
                              | (go_at_call 19; refine (Of_any many _ es most _ (HRW.out.no HX8.out) (by omega) (HT.out.no (HXW.out.trans HX8.out))).mono ?_; rintro e w9 ⟨v9, rfl, hb9, hx9⟩; rw [HOF.out] at hb9 ⊢; obtain ⟨A9, c9, rfl, _⟩ := hb9.at; have hga := hx9.no hg8; have hgb := hx9.no hg9; have HB9 := Sid.mk hb9; have HX9 : Sid (Ext No W w9) := ⟨HX8.out.trans hx9⟩; clear hb9 hx9)
                              | (go_at_call 20; refine (Right21_any many _ _ es L _ (HRW.out.no HX9.out) HB9.out (by omega)).mono ?_; rintro e wa ⟨rfl, hxa⟩; rw [HRT.out]; have HXA := Sid.mk hxa; clear hxa)
                              | (go_at_call 21; refine (Width_any _ L _ (HB9.out.no HXA.out)).mono ?_; rintro e wb ⟨rfl, hxb⟩; rw [← HM.out]; have HXB := Sid.mk hxb; clear hxb))
                            go_roundw
                            case rel => exact ⟨k + 1, by omega, by go_num, ⟨HX9.out.trans (HXA.out.trans HXB.out)⟩⟩
                            case measure => simp [intOf]; omega
                    · go_wp2
                      go_ret
                      exact ⟨rfl, HXW.out.trans HX8.out⟩
                · have hz4 : decide (1 < nI) = true := by have := HNI.out; simp; omega
                  obtain ⟨n1, hn1⟩ : ∃ n1 : Nat, n = n1 + 1 := ⟨n - 1, by omega⟩
                  obtain ⟨n1I, hn1I⟩ : ∃ n1I : Int, n1I = (n1 : Int) := ⟨_, rfl⟩
                  have hsub : wrap64 (nI - 1) = n1I := by have := HNI.out; unfold wrap64; omega
                  have HW2 : Sid (widthB es many n1I mm es (vertsL many) = false) := ⟨by
                    rw [← Bool.not_eq_true, HWL.out, hn1I]
                    exact HN2.out n1 (by omega) (by omega)⟩
                  clear hz hmz hz5 hn1 hn1I
                  have K1 := trivial
                  go_wp2_with (first
                    | (have := HXwc; (go_at_call 18; refine (refWidth_any many n1I es (by omega) (by omega) mm _ _ _ es (vertsL many) _ (HRW.out.no HXwc.out) (HRW.out.no HXwc.out) (HIL.out.no HYwc.out) (by rw [vertsL_len]; have := HMM.out; omega) (by have := HMM.out; omega) (by have := HMM.out; omega) (fun e he => by have := HRL.out e he; omega)).mono ?_; rintro e wd ⟨rfl, hxwd⟩; rw [HW2.out]; have hgmwd := (HCW.out _ (HXwc.out.trans hxwd)).1; have hgewd := (HCW.out _ (HXwc.out.trans hxwd)).2; have HXwd : Sid (Ext No W wd) := ⟨HXwc.out.trans hxwd⟩; clear hxwd))
                    | (have := K1; clear K1; (go_at_call 18; refine (refWidth_any many nI es (by omega) (by omega) mm _ _ _ es (vertsL many) _ (HRW.out.no HX.out) (HRW.out.no HX.out) HIL.out (by rw [vertsL_len]; have := HMM.out; omega) (by have := HMM.out; omega) (by have := HMM.out; omega) (fun e he => by have := HRL.out e he; omega)).mono ?_; rintro e wc ⟨rfl, hxwc⟩; rw [HW1.out]; have HYwc := Sid.mk hxwc; have hgmwc := (HCW.out _ (HX.out.trans hxwc)).1; have hgewc := (HCW.out _ (HX.out.trans hxwc)).2; have HXwc : Sid (Ext No W wc) := ⟨HX.out.trans hxwc⟩; clear hxwc))
                    | fail)
                  go_loopw [107] (fun i wr => ∃ k : Nat, k ≤ ns.length ∧ i = .int .i64 (k : Int) ∧ Sid (Ext No W wr)) (fun i _ => ns.length - (intOf i).toNat)
                  case atStart => exact ⟨0, Nat.zero_le _, rfl, HXwd⟩
                  case round =>
                    obtain ⟨k, hk, rfl, HX8⟩ := hrel
                    obtain ⟨wq, hwq⟩ : ∃ wq : World, wq = wr := ⟨_, rfl⟩
                    have hg8 := (HCW.out _ HX8.out).1
                    have hg9 := (HCW.out _ HX8.out).2
                    by_cases hlt : k < ns.length
                    · obtain ⟨b, off, most, rfl, _, hcell0, HNV⟩ := HATN.out k hlt
                      have hcell := (HXW.out.trans HX8.out).no hcell0
                      clear hcell0
                      by_cases h4 : k = 4
                      · have h4' : ((k : Int) == 4) = true := by simp [h4]
                        clear h4
                        go_wp2
                        go_ret
                        exact ⟨rfl, HXW.out.trans HX8.out⟩
                      · have h4' : ((k : Int) == 4) = false := by rw [beq_eq_false_iff_ne]; omega
                        clear h4
                        by_cases hm1 : most < 1
                        · have hm1' : decide (most < 1) = true := by simp [hm1]
                          have HOF : Sid (ofA many es most = (2, [])) := ⟨ofA_arg G1.out (by omega)⟩
                          go_wp2_with (go_at_call 19; refine (Of_any many _ es most _ (HRW.out.no HX8.out) (by omega) (HT.out.no (HXW.out.trans HX8.out))).mono ?_; rintro e w9 ⟨v9, rfl, hb9, hx9⟩; rw [HOF.out] at hb9 ⊢; obtain ⟨A9, c9, rfl, _⟩ := hb9.at; have hga := hx9.no hg8; have hgb := hx9.no hg9; have HB9 := Sid.mk hb9; have HX9 : Sid (Ext No W w9) := ⟨HX8.out.trans hx9⟩; clear hb9 hx9)
                          go_roundw
                          case rel => exact ⟨k + 1, by omega, by go_num, HX9⟩
                          case measure => simp [intOf]; omega
                        · have hm1' : decide (most < 1) = false := by simp; omega
                          have HCS := Sid.mk (of_cases (n := n) (by have h := G1.out; rwa [HMM.out] at h) (by have h := G3.out; rwa [HMM.out] at h) HN0.out HN1.out HN2.out (most := most) (by omega))
                          by_cases hmn1 : most < nI
                          · have hmn1' : decide (most < nI) = true := by simp [hmn1]
                            have HOF : Sid (ofA many es most = (4, [])) := ⟨by have h := HCS.out.1 (by rw [← HNI.out]; exact hmn1); rwa [← HMM.out] at h⟩
                            clear hm1 hmn1 HCS
                            go_wp2_with (go_at_call 19; refine (Of_any many _ es most _ (HRW.out.no HX8.out) (by omega) (HT.out.no (HXW.out.trans HX8.out))).mono ?_; rintro e w9 ⟨v9, rfl, hb9, hx9⟩; rw [HOF.out] at hb9 ⊢; obtain ⟨A9, c9, rfl, _⟩ := hb9.at; have hga := hx9.no hg8; have hgb := hx9.no hg9; have HB9 := Sid.mk hb9; have HX9 : Sid (Ext No W w9) := ⟨HX8.out.trans hx9⟩; clear hb9 hx9)
                            go_roundw
                            case rel => exact ⟨k + 1, by omega, by go_num, HX9⟩
                            case measure => simp [intOf]; omega
                          · have hmn1' : decide (most < nI) = false := by simp; omega
                            obtain ⟨L, hL1, hL2, hL3⟩ := HCS.out.2 (by rw [← HNI.out]; exact hmn1)
                            rw [← HMM.out] at hL1 hL2
                            obtain ⟨M, hM⟩ : ∃ M, M = widthTo 0 L := ⟨_, rfl⟩
                            rw [← hM] at hL3
                            have HOF := Sid.mk hL1
                            have HRT := Sid.mk hL2
                            have HM := Sid.mk hM
                            have hle : decide (M ≤ most) = true := by simp [hL3]
                            clear hm1 hmn1 HCS hL1 hL2 hL3 hM
                            go_wp2_with (first
                              | (go_at_call 19; refine (Of_any many _ es most _ (HRW.out.no HX8.out) (by omega) (HT.out.no (HXW.out.trans HX8.out))).mono ?_; rintro e w9 ⟨v9, rfl, hb9, hx9⟩; rw [HOF.out] at hb9 ⊢; obtain ⟨A9, c9, rfl, _⟩ := hb9.at; have hga := hx9.no hg8; have hgb := hx9.no hg9; have HB9 := Sid.mk hb9; have HX9 : Sid (Ext No W w9) := ⟨HX8.out.trans hx9⟩; clear hb9 hx9)
                              | (go_at_call 20; refine (Right21_any many _ _ es L _ (HRW.out.no HX9.out) HB9.out (by omega)).mono ?_; rintro e wa ⟨rfl, hxa⟩; rw [HRT.out]; have HXA := Sid.mk hxa; clear hxa)
                              | (go_at_call 21; refine (Width_any _ L _ (HB9.out.no HXA.out)).mono ?_; rintro e wb ⟨rfl, hxb⟩; rw [← HM.out]; have HXB := Sid.mk hxb; clear hxb))
                            go_roundw
                            case rel => exact ⟨k + 1, by omega, by go_num, ⟨HX9.out.trans (HXA.out.trans HXB.out)⟩⟩
                            case measure => simp [intOf]; omega
                    · go_wp2
                      go_ret
                      exact ⟨rfl, HXW.out.trans HX8.out⟩
end Go.Proofs.YtceiaekkfabeaaaDoor
