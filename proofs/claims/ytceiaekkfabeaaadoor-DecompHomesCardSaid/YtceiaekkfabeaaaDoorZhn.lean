/- Words and contracts for: DecompHomes: for every hypergraph, and number the law answers true, and its arguments read as before. No condition; the library's table math/bits.deBruijn64tab is laid by its text. -/
import Derived.Test.YtceiaekkfabeaaaDoorZhm
/- The law DecompHomes: walked. -/
namespace Go.Proofs.YtceiaekkfabeaaaDoor
open Go.RowKit Go.Shelf Pl

theorem most_pos (most : Int) : 1 ≤ wrap64 (1 + wrap64 ((IntKind.u64.wrap most).tmod 5)) := by
  have h0 : 0 ≤ IntKind.u64.wrap most := by simp [IntKind.wrap, IntKind.signed, IntKind.bits]; omega
  have h1 : (IntKind.u64.wrap most).tmod 5 = IntKind.u64.wrap most % 5 := Int.tmod_eq_emod_of_nonneg h0
  rw [h1]
  unfold wrap64
  omega
set_option maxHeartbeats 8000000 in
set_option maxRecDepth 100000 in
theorem homes_law_any {P : Nat → Prop} (many most : Int) (ev : Value) (es : List (List Int)) (w : World) (he : RowsR P w ev es) (hT : TabW w) :
    Calls Tryd.prog 6 #[.agg #[.int .i64 many, ev], .int .i64 most] w fun e w' => e = .returned (.bool true) ∧ Ext No w w' := by
  obtain ⟨Ae, ce, rfl, _⟩ := he.at
  have hmm := fun w => run_makeMap (P := Tryd.prog) 55 w
  have HE := Sid.mk he
  have HT := Sid.mk hT
  clear he hT
  have HB0 : Sid (∀ w', Ext No (w.alloc (.cells #[.int .i64 many, .slice Ae es.length ce] 24)) w' → w'.cell? ⟨w.heap.size, 0, none⟩ = some (.int .i64 many) ∧ w'.cell? ⟨w.heap.size, 1, none⟩ = some (.slice Ae es.length ce)) := ⟨fun w' hx => ⟨hx.no (by simp), hx.no (by simp)⟩⟩
  cases hob : ownB many es with
  | false =>
    have HOB := Sid.mk hob
    clear hob
    go_enter Tryd.func6, Tryd.ntmps6
    go_wp2_with (first
      | (go_at_call 8; refine (wakes_any _ (HT.out.no (ext_box _))).mono ?_; rintro e w1 ⟨rfl, hx1⟩; have h0 := (HB0.out _ hx1).1; have h1 := (HB0.out _ hx1).2; have HX1 := Sid.mk hx1; clear hx1)
      | (go_at_call 9; refine (own_any many _ es _ (HE.out.no ((ext_box _).trans HX1.out))).mono ?_; rintro e w2 ⟨hx2, hif⟩; rw [HOB.out] at hif; simp only [Bool.false_eq_true, if_false] at hif; subst hif; have HX2 := Sid.mk hx2; clear hx2)
      | fail)
    go_ret
    exact ⟨rfl, (((ext_box _).trans HX1.out).trans HX2.out).alloc _⟩
  | true =>
    have HOB := Sid.mk hob
    have h8 : es.length ≤ 7 ∧ many ≤ 6 := by simp only [ownB, Bool.and_eq_true, decide_eq_true_eq] at hob; exact hob.1
    clear hob
    obtain ⟨MO, hMO⟩ : ∃ MO, MO = wrap64 (1 + wrap64 ((IntKind.u64.wrap most).tmod 5)) := ⟨_, rfl⟩
    have hM1 : 1 ≤ MO := hMO ▸ most_pos most
    have HMO := Sid.mk hMO
    clear hMO
    rcases of_any_law (many := many) (es := es) hM1 with ⟨E, hof, hE⟩ | ⟨L, hof, hg1, hg2, hwd⟩
    · have HOF := Sid.mk hof
      have hE' : (E != 0) = true := by simpa using hE
      clear hof hE hM1
      go_enter Tryd.func6, Tryd.ntmps6
      go_wp2_with (first
        | (go_at_call 8; refine (wakes_any _ (HT.out.no (ext_box _))).mono ?_; rintro e w1 ⟨rfl, hx1⟩; have h0 := (HB0.out _ hx1).1; have h1 := (HB0.out _ hx1).2; have HX1 := Sid.mk hx1; clear hx1)
        | (go_at_call 9; refine (own_any many _ es _ (HE.out.no ((ext_box _).trans HX1.out))).mono ?_; rintro e w2 ⟨hx2, hif⟩; rw [HOB.out] at hif; simp only [if_true] at hif; obtain ⟨v2, rfl, hr2⟩ := hif; obtain ⟨A2, c2, rfl, _⟩ := hr2.at; have HR2 := Sid.mk hr2; have HX2 := Sid.mk hx2; clear hr2 hx2)
        | (go_at_call 19; rw [← HMO.out]; refine (Of_any many _ es MO _ (HR2.out.no (ext_box _)) (by omega) (HT.out.no (((ext_box _).trans (HX1.out.trans HX2.out)).alloc _))).mono ?_; rintro e w3 ⟨v3, rfl, hb3, hx3⟩; rw [HOF.out] at hb3 ⊢; obtain ⟨A3, c3, rfl, _⟩ := hb3.at; have hg0 := hx3.no (p := ⟨w2.heap.size, 0, none⟩) (v := .int .i64 many) (by simp); have hg1 := hx3.no (p := ⟨w2.heap.size, 1, none⟩) (v := .slice A2 es.length c2) (by simp); have HB3 := Sid.mk hb3; have HX3 := Sid.mk hx3; clear hx3 hb3)
        | fail)
      go_ret
      exact ⟨rfl, ((ext_box _).trans (HX1.out.trans HX2.out)).trans ((ext_box _).trans HX3.out)⟩
    · have HOF := Sid.mk hof
      have HCE : Sid (checkE many es L = 0) := ⟨right_check hg1 hg2⟩
      have HG1 := Sid.mk hg1
      have HG2 := Sid.mk hg2
      obtain ⟨MW, hMW⟩ : ∃ MW, MW = widthTo 0 L := ⟨_, rfl⟩
      rw [← hMW] at hwd
      have hle : decide (MW ≤ MO) = true := by simp [hwd]
      have HMW := Sid.mk hMW
      have HL64 : Sid (L.length ≤ 64) := ⟨right_len hg2⟩
      clear hof hM1 hg1 hg2 hwd hMW
      go_enter Tryd.func6, Tryd.ntmps6
      go_wp2_with (first
        | (go_at_call 8; refine (wakes_any _ (HT.out.no (ext_box _))).mono ?_; rintro e w1 ⟨rfl, hx1⟩; have h0 := (HB0.out _ hx1).1; have h1 := (HB0.out _ hx1).2; have HX1 := Sid.mk hx1; clear hx1)
        | (go_at_call 9; refine (own_any many _ es _ (HE.out.no ((ext_box _).trans HX1.out))).mono ?_; rintro e w2 ⟨hx2, hif⟩; rw [HOB.out] at hif; simp only [if_true] at hif; obtain ⟨v2, rfl, hr2⟩ := hif; obtain ⟨A2, c2, rfl, _⟩ := hr2.at; have HR2 := Sid.mk hr2; have HX2 := Sid.mk hx2; clear hr2 hx2)
        | (go_at_call 19; rw [← HMO.out]; refine (Of_any many _ es MO _ (HR2.out.no (ext_box _)) (by omega) (HT.out.no (((ext_box _).trans (HX1.out.trans HX2.out)).alloc _))).mono ?_; rintro e w3 ⟨v3, rfl, hb3, hx3⟩; rw [HOF.out] at hb3 ⊢; obtain ⟨A3, c3, rfl, _⟩ := hb3.at; have hg0 := hx3.no (p := ⟨w2.heap.size, 0, none⟩) (v := .int .i64 many) (by simp); have hg1 := hx3.no (p := ⟨w2.heap.size, 1, none⟩) (v := .slice A2 es.length c2) (by simp); have HB3 := Sid.mk hb3; have HX3 := Sid.mk hx3; clear hx3 hb3)
        | fail)
      obtain ⟨W, hW⟩ : ∃ W : World, W = w3 := ⟨_, rfl⟩
      have HXW : Sid (Ext No w W) := ⟨by rw [hW]; exact ((ext_box _).trans (HX1.out.trans HX2.out)).trans ((ext_box _).trans HX3.out)⟩
      have HRW : Sid (RowsR (fun k => w1.heap.size ≤ k) W (.slice A2 es.length c2) es) := ⟨by rw [hW]; exact HR2.out.no ((ext_box _).trans HX3.out)⟩
      have HBW : Sid (BagsR (fun k => (w2.alloc (.cells #[.int .i64 many, .slice A2 es.length c2] 24)).heap.size ≤ k) W (.slice A3 L.length c3) L) := ⟨by rw [hW]; exact HB3.out⟩
      have HCW : Sid (∀ w', Ext No W w' → w'.cell? ⟨w2.heap.size, 0, none⟩ = some (.int .i64 many) ∧ w'.cell? ⟨w2.heap.size, 1, none⟩ = some (.slice A2 es.length c2)) := ⟨fun w' hx => ⟨hx.no (by rw [hW]; exact hg0), hx.no (by rw [hW]; exact hg1)⟩⟩
      obtain ⟨A9, c9, e9, _, _, hatl⟩ := HBW.out.at
      simp only [Value.slice.injEq, true_and] at e9
      obtain ⟨rfl, rfl⟩ := e9
      have HATL := Sid.mk hatl
      obtain ⟨Aq, cq, eq9, _, _, hatr⟩ := HRW.out.at
      simp only [Value.slice.injEq, true_and] at eq9
      obtain ⟨rfl, rfl⟩ := eq9
      have HATR := Sid.mk hatr
      rw [← hW]
      clear hW hg0 hg1 h0 h1 hatl hatr
      go_loopw [45] (fun i wr => ∃ k : Nat, k ≤ es.length ∧ i = .int .i64 (k : Int) ∧ Sid (Ext No W wr)) (fun i _ => es.length - (intOf i).toNat)
      case atStart => exact ⟨0, Nat.zero_le _, rfl, ⟨Ext.refl _ _⟩⟩
      case round =>
        obtain ⟨n, hn, rfl, HX⟩ := hrel
        obtain ⟨wo, rfl⟩ : ∃ wo : World, wo = wr := ⟨_, rfl⟩
        have hg8 := (HCW.out _ HX.out).1
        have hg9 := (HCW.out _ HX.out).2
        by_cases hlt : n < es.length
        · obtain ⟨bq, offq, Ar, cr, r, rfl, _, hcr0, HR9, HIR⟩ := HATR.out n hlt
          obtain ⟨J, bJ, hbJ, hwi, hho⟩ := right_home HG1.out HG2.out HR9.out
          have hJl := (List.getElem?_eq_some_iff.1 hbJ).1
          obtain ⟨b4, off4, A4, c4, A5, c5, vs, es1, p, rfl, _, q0, _, _, HB, HI1, _⟩ := HATL.out J hJl
          obtain rfl : bJ = ⟨vs, es1, p⟩ := by have h := HB.out; rw [hbJ] at h; exact Option.some.inj h
          have HHA := Sid.mk hho
          have HWI := Sid.mk hwi
          have HQ0 := Sid.mk q0
          have hcr := HX.out.no hcr0
          have hj0 : decide ((J : Int) < 0) = false := by simp
          have hj1 : decide ((L.length : Int) ≤ (J : Int)) = false := by simp; omega
          clear hbJ hwi hho q0 hcr0
          go_wp2_with (first
            | (go_at_call 24; refine (Home_any many _ _ es L (n : Int) _ (HRW.out.no HX.out) (HBW.out.no HX.out)).mono ?_; rintro e w9 ⟨rfl, hx9⟩; rw [HHA.out]; have hga := hx9.no hg8; have hgb := hx9.no hg9; have HX9 : Sid (Ext No W w9) := ⟨HX.out.trans hx9⟩; have q9 := HX9.out.no HQ0.out; clear hx9)
            | (go_at_call 25; refine (all_any _ _ r vs _ (HIR.out.no HX9.out) (HI1.out.no HX9.out)).mono ?_; rintro e wb ⟨rfl, hxb⟩; rw [HWI.out]; have HXb : Sid (Ext No W wb) := ⟨HX9.out.trans hxb⟩; clear hxb)
            | fail)
          go_roundw
          case rel => exact ⟨n + 1, by omega, by go_num, HXb⟩
          case measure => simp [intOf]; omega
        · go_wp2
          clear hlt hn hg8 hg9
          go_loopw [82] (fun i wr => ∃ k : Nat, k ≤ many.toNat ∧ i = .int .i64 (k : Int) ∧ Sid (Ext No W wr)) (fun i _ => many.toNat - (intOf i).toNat)
          case atStart => exact ⟨0, Nat.zero_le _, rfl, HX⟩
          case round =>
            obtain ⟨k, hk, rfl, HX5⟩ := hrel
            obtain ⟨wv, rfl⟩ : ∃ wv : World, wv = wr := ⟨_, rfl⟩
            by_cases hlt : (k : Int) < many
            · obtain ⟨t, bt, ht1, ht2, ht3⟩ := right_top HG2.out (v := (k : Int)) (by omega) hlt
              have HT1 := Sid.mk ht1
              have HT2 := Sid.mk ht2
              have HT3 := Sid.mk ht3
              clear ht1 ht2 ht3
              obtain ⟨kI, hkI⟩ : ∃ kI : Int, kI = (k : Int) := ⟨_, rfl⟩
              have HKI := Sid.mk hkI
              go_wp2
              go_loopw [88] (fun i wr => ∃ j : Nat, j ≤ L.length ∧ i = .int .i64 (j : Int) ∧ Sid (Ext No W wr) ∧ Sid (MapF .i64 (topF L (k : Int) t j) wr wv.heap.size)) (fun i _ => L.length - (intOf i).toNat)
              case atStart => exact ⟨0, Nat.zero_le _, rfl, ⟨HX5.out.alloc _⟩, ⟨by rw [topF_zero]; exact MapF.made .i64 _⟩⟩
              case round =>
                obtain ⟨j, hj, rfl, HX6, HM6⟩ := hrel
                obtain ⟨wu, rfl⟩ : ∃ wu : World, wu = wr := ⟨_, rfl⟩
                by_cases hjl : j < L.length
                · obtain ⟨b4, off4, A4, c4, A5, c5, vs, es1, p, rfl, _, q0, _, _, HB, HI1, _⟩ := HATL.out j hjl
                  replace q0 := HX6.out.no q0
                  cases hh : hasB vs (k : Int) with
                  | false =>
                    have HH := Sid.mk hh
                    clear hh
                    go_wp2_with (first
                      | (go_at_call 26; refine (contains_any _ vs (k : Int) _ (HI1.out.no HX6.out)).mono ?_; rintro e w1 ⟨rfl, rfl⟩; rw [HH.out])
                      | fail)
                    go_roundw
                    case rel => exact ⟨j + 1, by omega, by go_num, HX6, ⟨by rw [topF_no HB.out HH.out]; exact HM6.out⟩⟩
                    case measure => simp [intOf]; omega
                  | true =>
                    have HH := Sid.mk hh
                    clear hh
                    go_wp2_with (first
                      | (go_at_call 26; refine (contains_any _ vs (k : Int) _ (HI1.out.no HX6.out)).mono ?_; rintro e w1 ⟨rfl, rfl⟩; rw [HH.out])
                      | fail)
                    clear q0
                    go_loop [16] (fun kk => ∃ q : Nat, kk = .int .i64 (q : Int) ∧ Sid (∃ b, L[q]? = some b ∧ hasB b.vs (k : Int) = true)) (fun kk => (intOf kk).toNat)
                    case atStart => exact ⟨j, rfl, ⟨_, HB.out, HH.out⟩⟩
                    case round =>
                      obtain ⟨q, rfl, HQ⟩ := hrel
                      obtain ⟨bb, hbb, hhb⟩ := HQ.out
                      have hql := (List.getElem?_eq_some_iff.1 hbb).1
                      obtain ⟨hp1, hp2⟩ := right_form HG2.out hbb
                      obtain ⟨b7, off7, A7, c7, A8, c8, vs7, es7, p7, e7, _, _, _, q7, HB7, _, _⟩ := HATL.out q hql
                      cases e7
                      obtain rfl : bb = ⟨vs7, es7, p7⟩ := by have h := HB7.out; rw [hbb] at h; exact Option.some.inj h
                      simp only at hp1 hp2 hhb
                      have HHB := Sid.mk hhb
                      replace q7 := HX6.out.no q7
                      clear hbb hhb
                      by_cases hp : p7 < 0
                      · have hp' : decide (0 ≤ p7) = false := by simp; omega
                        have hqt : q = t := HT3.out q _ HB7.out (by simp only [topB, HHB.out, Bool.true_and, Bool.or_eq_true, decide_eq_true_eq]; exact Or.inl hp)
                        have HQT := Sid.mk hqt
                        clear hqt hp
                        go_wp2_with (first
                          | (at_mapUpdate; refine wpList_updF (vv := .int .i64 1) rfl _ _ _ 55 3 3 .i64 rfl Tryd.underlying55 Tryd.underlying3 rfl rfl rfl HM6.out ?_; intro w2' hm2 hx2; rw [HQT.out] at hm2; have HM2 := Sid.mk hm2; have HX2' := Sid.mk hx2; clear hm2 hx2)
                          | fail)
                        go_roundw
                        case rel => exact ⟨j + 1, by omega, by go_num, ⟨HX6.out.step HX2'.out (fun i hi hh => by have := HX5.out.size; omega)⟩, ⟨by rw [topF_yes HB.out HH.out]; exact HM2.out⟩⟩
                        case measure => simp [intOf]; omega
                      · obtain ⟨p8, rfl⟩ := Int.eq_ofNat_of_zero_le (by omega : 0 ≤ p7)
                        have hp' : decide (0 ≤ (p8 : Int)) = true := by simp
                        have hpl : p8 < L.length := by omega
                        obtain ⟨b8, off8, A8', c8', A9', c9', vs8, es8, p9, e8, _, q8, _, _, HB8, HI8, _⟩ := HATL.out p8 hpl
                        cases e8
                        replace q8 := HX6.out.no q8
                        clear hp
                        cases h8 : hasB vs8 (k : Int) with
                        | true =>
                          have HH8 := Sid.mk h8
                          clear h8
                          go_wp2_with (first
                            | (go_at_call 26; refine (contains_any _ vs8 (k : Int) _ (HI8.out.no HX6.out)).mono ?_; rintro e w1 ⟨rfl, rfl⟩; rw [HH8.out])
                            | fail)
                          go_round
                          case rel => exact ⟨p8, rfl, ⟨_, HB8.out, HH8.out⟩⟩
                          case measure => simp [intOf]; omega
                        | false =>
                          have HH8 := Sid.mk h8
                          have hqt : q = t := HT3.out q _ HB7.out (by
                            have h9 := HB8.out
                            simp only [topB, HHB.out, Bool.true_and, Bool.or_eq_true, decide_eq_true_eq, Int.toNat_natCast, h9, Option.getD_some, h8, Bool.not_false, or_true])
                          have HQT := Sid.mk hqt
                          clear h8 hqt
                          go_wp2_with (first
                            | (go_at_call 26; refine (contains_any _ vs8 (k : Int) _ (HI8.out.no HX6.out)).mono ?_; rintro e w1 ⟨rfl, rfl⟩; rw [HH8.out])
                            | (at_mapUpdate; refine wpList_updF (vv := .int .i64 1) rfl _ _ _ 55 3 3 .i64 rfl Tryd.underlying55 Tryd.underlying3 rfl rfl rfl HM6.out ?_; intro w2' hm2 hx2; rw [HQT.out] at hm2; have HM2 := Sid.mk hm2; have HX2' := Sid.mk hx2; clear hm2 hx2)
                            | fail)
                          go_roundw
                          case rel => exact ⟨j + 1, by omega, by go_num, ⟨HX6.out.step HX2'.out (fun i hi hh => by have := HX5.out.size; omega)⟩, ⟨by rw [topF_yes HB.out HH.out]; exact HM2.out⟩⟩
                          case measure => simp [intOf]; omega
                · obtain rfl : j = L.length := by omega
                  obtain ⟨es9, clock9, hb9, hs9⟩ := MapF.one (by have h := HM6.out; rw [topF_all HT1.out (top_has HT2.out)] at h; exact h)
                  have hlen : (Builtin.len_ #[55] 3 #[.map (some wv.heap.size)]).run Tryd.prog wu = .ok (.int .i64 1) wu := by
                    simp [Builtin.len_, run_underlying Tryd.underlying55, MapKept.run_getObj_map hb9, goInt, Result.andThen, hs9]
                  clear hb9 hs9
                  go_wp2
                  go_roundw
                  case rel => exact ⟨k + 1, by omega, by go_num, HX6⟩
                  case measure => simp [intOf]; omega
            · have hgm := (HCW.out _ HX5.out).1
              have hge := (HCW.out _ HX5.out).2
              go_wp2_with (first
                | (go_at_call 23; refine (Check_any many _ _ es L _ (HRW.out.no HX5.out) (HBW.out.no HX5.out)).mono ?_; rintro e wx ⟨rfl, hx⟩; rw [HCE.out]; have HX8 : Sid (Ext No W wx) := ⟨HX5.out.trans hx⟩; clear hx)
                | (go_at_call 21; refine (Width_any _ L _ (HBW.out.no HX8.out)).mono ?_; rintro e wy ⟨rfl, hx⟩; rw [← HMW.out]; have HX9 : Sid (Ext No W wy) := ⟨HX8.out.trans hx⟩; clear hx)
                | fail)
              go_ret
              exact ⟨rfl, HXW.out.trans HX9.out⟩
end Go.Proofs.YtceiaekkfabeaaaDoor
