/- Words and contracts for: DecompAcyclic: for every hypergraph the law answers true, and its arguments read as before. No condition; the library's table math/bits.deBruijn64tab is laid by its text. -/
import Derived.Test.YtceiaekkfabeaaaDoorZyh
/- The walk over decomp.Of. -/
namespace Go.Proofs.YtceiaekkfabeaaaDoor
open Go.RowKit Go.Shelf Pl

theorem all_members : ∀ (n : Fin 7) (x : Fin 64), x.val < 2 ^ n.val → n.val ≤ (membersN x.val).length → ∀ v : Fin 6, v.val < n.val → x.val.testBit v.val = true := by decide +kernel

theorem bagsR_some {P : Nat → Prop} {w : World} {v : Value} {bs : List Bag} (h : BagsR P w v bs) (hp : 0 < bs.length) : ∃ ad c, v = .slice (some ad) bs.length c := by
  obtain ⟨A, c, rfl, _, _, hn⟩ := h
  obtain ⟨ad, rfl, _⟩ := hn hp
  exact ⟨ad, c, rfl⟩
theorem bagsL_len (S : List Nat) (ord : List Int) (behind : Int) (m : Nat) : (bagsL S ord behind m).length = m := by simp [bagsL]

set_option maxHeartbeats 4000000 in
set_option maxRecDepth 100000 in
theorem Of_any {P : Nat → Prop} (many : Int) (ev : Value) (es : List (List Int)) (most : Int) (w : World) (he : RowsR P w ev es) (h6 : many ≤ 6) (hT : TabW w) :
    Calls Tryd.prog 19 #[.agg #[.int .i64 many, ev], .int .i64 most] w fun e w' => ∃ v', e = .returned (.tuple #[v', .int .i64 (ofA many es most).1]) ∧ BagsR (fun k => w.heap.size ≤ k) w' v' (ofA many es most).2 ∧ Ext No w w' := by
  obtain ⟨A, c, rfl, _⟩ := he.at
  have HE := Sid.mk he
  have HT := Sid.mk hT
  clear he hT
  have HB0 : Sid (∀ w', Ext No (w.alloc (.cells #[.int .i64 many, .slice A es.length c] 24)) w' → w'.cell? ⟨w.heap.size, 0, none⟩ = some (.int .i64 many) ∧ w'.cell? ⟨w.heap.size, 1, none⟩ = some (.slice A es.length c)) := ⟨fun w' hx => ⟨hx.no (by simp), hx.no (by simp)⟩⟩
  by_cases hb : beginE many es most = 0
  · have hg1 : hyperB many es = true := by
      cases h : hyperB many es with
      | true => rfl
      | false => rw [beginE, if_pos h] at hb; cases hb
    obtain ⟨hp1, hp2, hp3, hp4⟩ := hyperB_parts hg1
    obtain ⟨mm, rfl⟩ := Int.eq_ofNat_of_zero_le hp1
    have HSS : Sid (smallS (es.map ofTo)) := ⟨smallS_of (hyperB_small hg1)⟩
    have HLP : Sid (∀ x ∈ es.map ofTo, x < 2 ^ mm) := ⟨hyper_lt_pow hg1⟩
    have HOR : Sid (∀ v, v < mm → (orTo (es.map ofTo)).testBit v = true) := ⟨fun v hv => by
      have h1 := orTo_lt_pow HLP.out
      have h2 : 2 ^ mm ≤ 2 ^ 6 := Nat.pow_le_pow_right (by omega) (by omega)
      have h3 : mm ≤ (membersN (orTo (es.map ofTo))).length := by
        rw [beginE, if_neg (by simp [hg1])] at hb
        split at hb
        · cases hb
        · split at hb
          · cases hb
          · omega
      exact all_members ⟨mm, by omega⟩ ⟨orTo (es.map ofTo), by omega⟩ h1 h3 ⟨v, by omega⟩ hv⟩
    have HB := Sid.mk hb
    have G1 := Sid.mk hg1
    obtain ⟨PL, hPL⟩ : ∃ PL, PL = partsL (es.map ofTo) mm := ⟨_, rfl⟩
    have HPL : Sid (∀ p ∈ PL, p ≠ 0 ∧ p < 2 ^ mm) := ⟨fun p hp => by rw [hPL] at hp; exact ⟨partsL_pos _ p hp, partsL_lt_pow HLP.out _ (Nat.le_refl _) p hp⟩⟩
    have HLEN : Sid (PL.length ≤ 6) := ⟨by have := partsF_len (es.map ofTo) mm; rw [hPL, partsL]; omega⟩
    obtain ⟨R, hR⟩ : ∃ R, R = PL.map membersL := ⟨_, rfl⟩
    have HR0 : Sid (R = (partsL (es.map ofTo) (mm : Int).toNat).map membersL) := ⟨by rw [hR, hPL, Int.toNat_natCast]⟩
    have hRl : R.length = PL.length := by rw [hR, List.length_map]
    have HRA : Sid (∀ k r, R[k]? = some r → ∃ p, PL[k]? = some p ∧ r = membersL p) := ⟨fun k r hr => by
      rw [hR, List.getElem?_map, Option.map_eq_some_iff] at hr
      obtain ⟨p, h1, h2⟩ := hr
      exact ⟨p, h1, h2.symm⟩⟩
    have HPE := Sid.mk hPL
    clear hb hg1 hp4 hPL hR
    go_enter Tryd.func19, Tryd.ntmps19
    go_wp2_with (first
      | (go_at_call 39; refine (begin_any (mm : Int) _ es most _ (HE.out.no (ext_box _)) h6 (HT.out.no (ext_box _))).mono ?_; rintro e w1 ⟨sv, rfl, hx1, himp⟩; rw [HB.out]; obtain ⟨B, M, rfl, hs1, hk1, hB, hM⟩ := himp HB.out; have h0 := (HB0.out _ hx1).1; have h1 := (HB0.out _ hx1).2; have HX1 := Sid.mk hx1; have HS1 := Sid.mk hs1; have HK1 := Sid.mk hk1; clear hx1 hs1 hk1 himp)
      | (go_at_call 43; refine (parts_any (mm : Int) _ es _ (HE.out.no ((ext_box _).trans HX1.out)) G1.out (HT.out.no ((ext_box _).trans HX1.out))).mono ?_; rintro e w2 ⟨v2, rfl, hr2, hx2⟩; rw [← HR0.out] at hr2; obtain ⟨A2, c2, rfl, _, _, hat2⟩ := hr2.at; have HR2 := Sid.mk hr2; have HAT2 := Sid.mk hat2; have HX2 := Sid.mk hx2; clear hr2 hx2 hat2))
    obtain ⟨PS, hPS⟩ : ∃ PS : Nat → Prop, PS = SP P (w.alloc (.cells #[.int .i64 (mm : Int), .slice A es.length c] 24)).heap.size M := ⟨_, rfl⟩
    have HPSM : Sid (¬ PS M) := ⟨fun h => by rw [hPS] at h; exact h.1 rfl⟩
    have hMl := HK1.out.lt
    have HM1 := Sid.mk hMl
    have HPSG : Sid (∀ j, w1.heap.size ≤ j → PS j) := ⟨fun j hj => by rw [hPS]; exact ⟨by omega, Or.inl (by have := HX1.out.size; omega)⟩⟩
    have HM0 : Sid (M ≠ 0) := ⟨by simp at hM; omega⟩
    have HS2 : Sid (SearchR PS w2 B M (mm : Int) es (es.map ofTo)) := ⟨by rw [hPS]; exact HS1.out.no HX2.out⟩
    have HK2 : Sid (KnownR PS w2 M (es.map ofTo)) := ⟨by rw [hPS]; exact HK1.out.no HX2.out⟩
    have HT2 : Sid (TabW w2) := ⟨HT.out.no (((ext_box _).trans HX1.out).trans HX2.out)⟩
    have HW2 : Sid (Ext No w w2) := ⟨((ext_box _).trans HX1.out).trans HX2.out⟩
    have HMw : Sid (w.heap.size ≤ M) := ⟨by simp at hM; omega⟩
    have HSLen : Sid ((es.map ofTo).length ≤ 1000) := ⟨by rw [List.length_map]; omega⟩
    have HBX : Sid (w2.cell? ⟨w.heap.size, 1, none⟩ = some (.slice A es.length c) ∧ w.heap.size < M) := ⟨HX2.out.no h1, by simp at hM; omega⟩
    clear HS1 HK1 hPS hMl h0 h1 hB hM
    go_loopw [8, 25] (fun v i wr => ∃ (k : Nat) (out : List Bag), k ≤ PL.length ∧ i = .int .i64 (k : Int) ∧ Sid (ofF (es.map ofTo) most (PL.take k) [] = some out) ∧ Sid (out.length ≤ 32 * k) ∧ Sid (OwnBags (fun j => w2.heap.size ≤ j) w2.heap.size wr v out) ∧ Sid (KnownR (fun j => PS j ∧ some j ≠ v.ownBlock) wr M (es.map ofTo)) ∧ Sid (Ext (fun j => j = M) w2 wr)) (fun _ i _ => PL.length - (intOf i).toNat)
    case atStart => exact ⟨0, [], Nat.zero_le _, rfl, ⟨rfl⟩, ⟨by simp⟩, ⟨OwnBags.nil _ _ _⟩, ⟨HK2.out.imp (fun j _ hj => ⟨hj, by simp [Value.ownBlock]⟩)⟩, ⟨Ext.refl _ _⟩⟩
    case round =>
      obtain ⟨k, out, hk, rfl, HOF, HOL, HO, HK, HX⟩ := hrel
      obtain ⟨wo, rfl⟩ : ∃ wo : World, wo = wr := ⟨_, rfl⟩
      obtain ⟨Av, cv, rfl⟩ := HO.out.slice
      by_cases hlt : k < PL.length
      · obtain ⟨b, off, A', c', r, rfl, hPb, hcell0, HR', HI'⟩ := HAT2.out k (by rw [hRl]; exact hlt)
        obtain ⟨p, hp, rfl⟩ := HRA.out k r HR'.out
        have hcell := HX.out.cell (p := ⟨b, off + k, none⟩) (by have := HM1.out; simp; omega) hcell0
        have HI2 : Sid (IntsR .i64 (fun j => w1.heap.size ≤ j) wo (.slice A' (membersL p).length c') (membersL p)) := ⟨HI'.out.ext HX.out (fun j hj => by have := HM1.out; omega)⟩
        obtain ⟨hp0, hpl⟩ := HPL.out p (List.mem_of_getElem? hp)
        have hpl2 : p < 4294967296 := Nat.lt_of_lt_of_le hpl (by have : 2 ^ mm ≤ 2 ^ 6 := Nat.pow_le_pow_right (by omega) (by omega); omega)
        have HOT : Sid (ofTo (membersL p) = p) := ⟨ofTo_members p hpl2⟩
        have HSM : Sid (smallL (membersL p)) := ⟨fun x hx => by obtain ⟨v, rfl, hv⟩ := membersL_mem.1 hx; have := (membersN_mem.1 hv).1; omega⟩
        have HCOV : Sid (∀ v, p.testBit v = true → ∀ gone, ∃ r, covO (es.map ofTo) (arF (es.map ofTo) v gone) = some r) := ⟨fun v hv gone => arF_cov (HOR.out v (Classical.byContradiction fun hh => by
          rw [Nat.testBit_lt_two_pow (Nat.lt_of_lt_of_le hpl (Nat.pow_le_pow_right (by omega) (by omega)))] at hv; cases hv))⟩
        have HSR : Sid (SearchR (fun j => PS j ∧ some j ≠ (Value.slice Av out.length cv).ownBlock) wo B M (mm : Int) es (es.map ofTo)) := ⟨(HS2.out.imp (P' := fun j => PS j ∧ some j ≠ (Value.slice Av out.length cv).ownBlock) (fun j hj hpj => ⟨hpj, fun he => by have := (HO.out.ge j he.symm).1; omega⟩)).ext HX.out (fun j hj he => HPSM.out (he ▸ hj.1))⟩
        have HPG : Sid (∀ (W : World), wo.heap.size ≤ W.heap.size → ∀ j, W.heap.size ≤ j → PS j ∧ some j ≠ (Value.slice Av out.length cv).ownBlock) := ⟨fun W hW j hj => ⟨HPSG.out j (by have h1 := HX2.out.size; have h2 := HX.out.size; omega), fun he => by have := (HO.out.ge j he.symm).2; omega⟩⟩
        have HTW : Sid (TabW wo) := ⟨HT2.out.ext HX.out (fun he => HM0.out he.symm)⟩
        have HP := Sid.mk hp
        have HP0 := Sid.mk hp0
        clear hcell0 hp hp0 HR' HI'
        cases hg : goX (es.map ofTo) p most 0 with
        | none =>
          have HG := Sid.mk hg
          clear hg
          go_wp2_with (first
            | (go_at_call 34; refine (of_any _ (membersL p) _ HI2.out HSM.out).mono ?_; rintro e w3 ⟨rfl, rfl⟩; rw [HOT.out])
            | (go_at_call 44; refine (order_any (part := p) (most := most) HSS.out HSLen.out hpl2 (fun v _ hv gone _ => HCOV.out v hv gone) HSR.out HK.out (HPG.out wo (Nat.le_refl _)) (fun h => HPSM.out h.1) HTW.out).mono ?_; rintro e w3 ⟨v3, rfl, hi3, hx3, hk3⟩; rw [HG.out] at hi3 ⊢; obtain ⟨A3, c3, rfl, _⟩ := hi3.at; have HX3 := Sid.mk hx3; clear hi3 hx3 hk3; simp only [ordB, Option.isSome_none]))
          go_ret2
          have HA : ofA (mm : Int) es most = (4, []) := by
            rw [ofA, if_neg (by simp [HB.out]), Int.toNat_natCast, ← HPE.out, ofF_none HOF.out HP.out HG.out]
          refine ⟨_, ret_pair rfl (by simp only [HA]; rfl), by rw [HA]; exact bagsR_nil _ _, ?_⟩
          exact HW2.out.step (HX.out.trans HX3.out) (fun i hi he => by have := HMw.out; omega)
        | some ord =>
          have HG := Sid.mk hg
          obtain ⟨hnd, hmem⟩ := goX_ord hg
          have hpos := goX_pos HP0.out hg
          have hlen : ord.length ≤ 32 := by have := goX_len (es.map ofTo) p most 0; rw [hg] at this; simpa using this
          have HND := Sid.mk hnd
          have HMEM := Sid.mk hmem
          have HORS : Sid (smallL ord) := ⟨fun x hx => by obtain ⟨v, rfl, hv, _⟩ := HMEM.out x hx; omega⟩
          have HLEN2 := Sid.mk hlen
          have HCJ : Sid (∀ j, j < ord.length → ∃ r, covO (es.map ofTo) (arI (es.map ofTo) ord j) = some r) := ⟨fun j hj => by
            obtain ⟨v, hv, hv2, hv3, _⟩ := HMEM.out (ord.getD j 0) (by rw [List.getD_eq_getElem?_getD, List.getElem?_eq_getElem hj]; exact List.getElem_mem _)
            rw [arI, hv, Int.toNat_natCast]
            exact HCOV.out v hv3 _⟩
          obtain ⟨news, hn⟩ : ∃ news, news = bagsL (es.map ofTo) ord (out.length : Int) ord.length := ⟨_, rfl⟩
          have hnl : news.length = ord.length := by rw [hn, bagsL_len]
          have HNP : Sid (0 < news.length) := ⟨by omega⟩
          have HNL : Sid (news.length ≤ 32) := ⟨by omega⟩
          have HNW := Sid.mk hn
          have HOL6 : Sid (out.length ≤ 192) := ⟨by have h1 := HOL.out; have h2 := HLEN.out; omega⟩
          clear hg hnd hmem hpos hlen hn hnl
          go_wp2_with (first
            | (go_at_call 34; refine (of_any _ (membersL p) _ HI2.out HSM.out).mono ?_; rintro e w3 ⟨rfl, rfl⟩; rw [HOT.out])
            | (go_at_call 44; refine (order_any (part := p) (most := most) HSS.out HSLen.out hpl2 (fun v _ hv gone _ => HCOV.out v hv gone) HSR.out HK.out (HPG.out wo (Nat.le_refl _)) (fun h => HPSM.out h.1) HTW.out).mono ?_; rintro e w3 ⟨v3, rfl, hi3, hx3, hk3⟩; rw [HG.out] at hi3 ⊢; obtain ⟨A3, c3, rfl, _⟩ := hi3.at; have HI3 := Sid.mk hi3; have HK3 := Sid.mk hk3; have HX3 := Sid.mk hx3; clear hi3 hx3 hk3; simp only [ordB, ordL, Option.isSome_some, Option.getD_some])
            | (go_at_call 45; refine (bags_any (ord := ord) (behind := (out.length : Int)) HSS.out HSLen.out (HSR.out.ext HX3.out (fun j hj he => HPSM.out (he ▸ hj.1))) HK3.out (HPG.out w3 HX3.out.size) (fun h => HPSM.out h.1) (HTW.out.ext HX3.out (fun he => HM0.out he.symm)) HI3.out HLEN2.out HORS.out HND.out (by omega) (by have := HOL6.out; omega) HCJ.out (fun j hj he => by have h1 := HM1.out; have h2 := HX2.out.size; have h3 := HX.out.size; omega)).mono ?_; rintro e w5 ⟨v5, rfl, hb5, hx5, hk5⟩; rw [← HNW.out] at hb5; obtain ⟨ad5, c5, rfl⟩ := bagsR_some hb5 HNP.out; have HB5 := Sid.mk hb5; have HK5 := Sid.mk hk5; have HX5 := Sid.mk hx5; clear hb5 hx5 hk5)
            | (at_builtin; refine appBags w2.heap.size rfl (.tmp 39) (.tmp 44) 42 rfl Tryd.underlying42 info51 _ out news rfl ad5 c5 rfl ((HO.out.ext (HX3.out.trans HX5.out) (fun j hj he => by have h1 := (HO.out.ge j hj).1; have h2 := HM1.out; have h3 := HX2.out.size; omega) (fun j hj he => by have h2 := HM1.out; have h3 := HX2.out.size; omega))) ?c1 HNP.out ?c2 (by have h1 := HOL6.out; have h2 := HNL.out; omega) ?_; (case c1 => exact HB5.out.imp (fun j _ hj => ⟨by have h1 := HX.out.size; have h2 := HX3.out.size; omega, fun he => by have h1 := (HO.out.ge j he.symm).2; have h2 := HX3.out.size; omega⟩)); (case c2 => have h1 := HX.out.size; have h2 := HX3.out.size; have h3 := HX5.out.size; omega); intro v6 w6 ho6 hx6 hb6 hs6; have HO6 := Sid.mk ho6; have HX6 := Sid.mk hx6; have HB6 := Sid.mk hb6; clear ho6 hx6 hb6 hs6))
          go_roundw
          case rel =>
            refine ⟨k + 1, out ++ news, by omega, by go_num, ⟨by rw [ofF_take HOF.out HP.out, HG.out, HNW.out]; rfl⟩, ⟨by rw [List.length_append]; have h1 := HOL.out; have h2 := HNL.out; omega⟩, HO6, ⟨?_⟩, ⟨?_⟩⟩
            · refine ((HK5.out.imp (P' := fun j => (PS j ∧ some j ≠ v6.ownBlock) ∧ some j ≠ (Value.slice Av out.length cv).ownBlock) (fun j hj hp => ⟨⟨hp.1, fun he => ?_⟩, hp.2⟩)).ext HX6.out (fun he => ?_) (fun j hj he => hj.2 he)).imp (fun j _ hj => hj.1)
              · rcases HB6.out with h | ⟨b, h, hb⟩
                · exact hp.2 (h ▸ he)
                · rw [h, Option.some.injEq] at he; omega
              · have h1 := (HO.out.ge M he.symm).1
                have h2 := HM1.out
                have h3 := HX2.out.size
                omega
            · exact (HX.out.trans (HX3.out.trans HX5.out)).step HX6.out (fun i hi he => by have h1 := (HO.out.ge i he.symm).1; omega)
          case measure => simp [intOf]; omega
      · obtain rfl : k = PL.length := by omega
        have HOF2 : Sid (ofF (es.map ofTo) most PL [] = some out) := ⟨by have := HOF.out; rwa [List.take_length] at this⟩
        have hq1 := HX.out.cell (p := ⟨w.heap.size, 1, none⟩) (by have := HBX.out.2; simp; omega) HBX.out.1
        have HXF : Sid (Ext No w wo) := ⟨HW2.out.step HX.out (fun i hi he => by have := HMw.out; omega)⟩
        have HA : Sid (ofA (mm : Int) es most = (0, endO es out)) := ⟨by rw [ofA, if_neg (by simp [HB.out]), Int.toNat_natCast, ← HPE.out, HOF2.out]⟩
        have HOUT : Sid (BagsR (fun j => w.heap.size ≤ j) wo (.slice Av out.length cv) out) := ⟨HO.out.bags (by have h1 := HOL.out; have h2 := HLEN.out; omega) (fun j hj => by have h1 := (HO.out.ge j hj).1; have h2 := HW2.out.size; omega) (fun j hj => by have h2 := HW2.out.size; omega)⟩
        by_cases h0 : out.length = 0
        · by_cases h1 : 0 < es.length
          · have HE0 : Sid (endO es out = [⟨[], [], -1⟩]) := ⟨by rw [endO, if_pos ⟨h0, h1⟩]⟩
            have h0' : ((out.length : Int) == 0) = true := by simp [h0]
            have h1' : ((0 : Int) < (es.length : Int)) := by omega
            go_wp2
            go_ret2
            exact ⟨_, ret_pair rfl (by simp only [HA.out]; rfl), by rw [HA.out]; simp only [HE0.out]; exact bagsR_one _ HXF.out.size, HXF.out.alloc _⟩
          · have HE0 : Sid (endO es out = out) := ⟨by rw [endO, if_neg (fun h => h1 h.2)]⟩
            have h0' : ((out.length : Int) == 0) = true := by simp [h0]
            have h1' : ¬ ((0 : Int) < (es.length : Int)) := by omega
            go_wp2
            go_ret2
            exact ⟨_, ret_pair rfl (by simp only [HA.out]; rfl), by rw [HA.out]; simp only [HE0.out]; have hou := HOUT.out; rw [h0] at hou; exact hou, HXF.out⟩
        · have HE0 : Sid (endO es out = out) := ⟨by rw [endO, if_neg (fun h => h0 h.1)]⟩
          have h0' : ((out.length : Int) == 0) = false := by rw [beq_eq_false_iff_ne]; omega
          go_wp2
          go_ret2
          exact ⟨_, ret_pair rfl (by simp only [HA.out]; rfl), by rw [HA.out]; simp only [HE0.out]; exact HOUT.out, HXF.out⟩
  · have HA : Sid (ofA many es most = (beginE many es most, [])) := ⟨by rw [ofA, if_pos hb]⟩
    have hne : (beginE many es most != 0) = true := by simpa using hb
    clear hb
    go_enter Tryd.func19, Tryd.ntmps19
    go_wp2_with (go_at_call 39; refine (begin_any many _ es most _ (HE.out.no (ext_box _)) h6 (HT.out.no (ext_box _))).mono ?_; rintro e w1 ⟨sv, rfl, hx1, _⟩; have HX1 := Sid.mk hx1; clear hx1)
    go_ret2
    exact ⟨_, ret_pair rfl (by simp only [HA.out]; rfl), by rw [HA.out]; exact bagsR_nil _ _, (ext_box _).trans HX1.out⟩
end Go.Proofs.YtceiaekkfabeaaaDoor

/- The least width: the plain answer, and the walk over decomp.Least. -/
namespace Go.Proofs.YtceiaekkfabeaaaDoor
open Go.RowKit Go.Shelf Pl

/-- The first width from one on at which there are bags. -/
def leastM (many : Int) (es : List (List Int)) : Nat → Nat → Nat
  | 0, m => m
  | f + 1, m => if (ofA many es (m : Int)).1 = 4 then leastM many es f (m + 1) else m
def leastX (many : Int) (es : List (List Int)) : Nat := leastM many es 64 1
theorem leastM_spec {many : Int} {es : List (List Int)} : ∀ (f m m0 : Nat), m ≤ m0 → m0 < m + f → (ofA many es (m0 : Int)).1 ≠ 4 →
    m ≤ leastM many es f m ∧ leastM many es f m ≤ m0 ∧ (∀ j : Nat, m ≤ j → j < leastM many es f m → (ofA many es (j : Int)).1 = 4) ∧ (ofA many es (leastM many es f m : Nat)).1 ≠ 4
  | 0, m, m0, h1, h2, _ => by omega
  | f + 1, m, m0, h1, h2, h3 => by
    rw [leastM]
    by_cases hm : (ofA many es (m : Int)).1 = 4
    · rw [if_pos hm]
      have hne : m ≠ m0 := fun h => h3 (h ▸ hm)
      obtain ⟨a1, a2, a3, a4⟩ := leastM_spec f (m + 1) m0 (by omega) (by omega) h3
      refine ⟨by omega, a2, fun j hj1 hj2 => ?_, a4⟩
      by_cases hjm : j = m
      · subst hjm; exact hm
      · exact a3 j (by omega) hj2
    · rw [if_neg hm]
      exact ⟨Nat.le_refl _, h1, fun j hj1 hj2 => by omega, hm⟩
/-- At a width as great as all edges together there are orders. -/
theorem goN_some {S : List Nat} {part : Nat} {most : Int} (hm : ∀ v gone, v < 32 → part.testBit v = true → (covLen S (arF S v gone) : Int) ≤ most) : ∀ (f gone : Nat), (membersN (sdn part gone)).length ≤ f → gone < 4294967296 → part < 4294967296 → sdn gone part = 0 → ∃ l, goN S part most f gone = some l
  | 0, gone, hf, hg, hp, hs => by
    have h0 : sdn part gone = 0 := by
      refine Classical.byContradiction fun hne => ?_
      have := membersN_step hne (sdn_lt' hp)
      rw [this] at hf
      simp at hf
    have : gone = part := by
      apply Nat.eq_of_testBit_eq
      intro i
      rw [sdn_zero] at h0 hs
      cases h1 : gone.testBit i <;> cases h2 : part.testBit i
      · rfl
      · have := h0 i h2; rw [h1] at this; cases this
      · have := hs i h1; rw [h2] at this; cases this
      · rfl
    exact ⟨[], by rw [goN_zero, if_pos this]⟩
  | f + 1, gone, hf, hg, hp, hs => by
    rw [goN_succ]
    by_cases he : gone = part
    · exact ⟨[], by rw [if_pos he]⟩
    · rw [if_neg he]
      have hne : sdn part gone ≠ 0 := fun h0 => he (by
        apply Nat.eq_of_testBit_eq
        intro i
        rw [sdn_zero] at h0 hs
        cases h1 : gone.testBit i <;> cases h2 : part.testBit i
        · rfl
        · have := h0 i h2; rw [h1] at this; cases this
        · have := hs i h1; rw [h2] at this; cases this
        · rfl)
      have hst := membersN_step hne (sdn_lt' hp)
      have hmem : Lib.ctz 64 (sdn part gone) ∈ membersN (sdn part gone) := by rw [hst]; simp
      obtain ⟨hv, hv2⟩ := membersN_mem.1 hmem
      rw [sdn_testBit, Bool.and_eq_true] at hv2
      have hd := membersN_drop hmem
      obtain ⟨l, hl⟩ := goN_some hm f (gone ||| 2 ^ Lib.ctz 64 (sdn part gone)) (by rw [sdn_or]; omega) (or_lt hg (pow_lt_32 hv)) hp (by
        rw [sdn_zero] at hs ⊢
        intro i hi
        rw [Nat.testBit_or, Nat.testBit_two_pow, Bool.or_eq_true, decide_eq_true_eq] at hi
        rcases hi with hi | rfl
        · exact hs i hi
        · exact hv2.1)
      have hL : membersL (sdn part gone) = (Lib.ctz 64 (sdn part gone) : Int) :: membersL (sdn (sdn part gone) (2 ^ Lib.ctz 64 (sdn part gone))) := membersL_step hne (sdn_lt' hp)
      refine ⟨(Lib.ctz 64 (sdn part gone) : Int) :: l, ?_⟩
      rw [hL, List.findSome?_cons, goV, Int.toNat_natCast, if_neg (by have := hm _ gone hv hv2.1; omega), hl]
      rfl
theorem ofF_some {S : List Nat} {most : Int} : ∀ (ps : List Nat) (out : List Bag), (∀ p ∈ ps, ∃ l, goX S p most 0 = some l) → ∃ o, ofF S most ps out = some o
  | [], out, _ => ⟨out, rfl⟩
  | p :: ps, out, h => by
    obtain ⟨l, hl⟩ := h p (by simp)
    rw [ofF, hl]
    exact ofF_some ps _ (fun q hq => h q (by simp [hq]))
theorem covLen_le (S : List Nat) (x : Nat) : covLen S x ≤ S.length := by
  rw [covLen]
  cases h : covO S x with
  | none => simp
  | some r => simpa using covO_len h
theorem beginE_more {many : Int} {es : List (List Int)} {most : Int} (h : beginE many es 1 = 0) (hm : 1 ≤ most) : beginE many es most = 0 := by
  rw [beginE] at h ⊢
  split at h
  · cases h
  · rename_i hg
    rw [if_neg hg, if_neg (by omega)]
    rw [if_neg (by omega)] at h
    exact h
theorem ofA_great {many : Int} {es : List (List Int)} (h6 : many ≤ 6) (h : beginE many es 1 = 0) : (ofA many es ((max 1 es.length : Nat) : Int)).1 ≠ 4 := by
  have hg1 : hyperB many es = true := by
    cases hh : hyperB many es with
    | true => rfl
    | false => rw [beginE, if_pos hh] at h; cases h
  obtain ⟨hp1, hp2, hp3, hp4⟩ := hyperB_parts hg1
  obtain ⟨mm, rfl⟩ := Int.eq_ofNat_of_zero_le hp1
  have hlp := hyper_lt_pow hg1
  obtain ⟨o, ho⟩ := ofF_some (S := es.map ofTo) (most := ((max 1 es.length : Nat) : Int)) (partsL (es.map ofTo) mm) [] (fun p hp => by
    have hpl := partsL_lt_pow hlp _ (Nat.le_refl _) p hp
    have : 2 ^ mm ≤ 2 ^ 6 := Nat.pow_le_pow_right (by omega) (by omega)
    refine goN_some (fun v gone _ _ => ?_) 32 0 ?_ (by omega) (by omega) (by simp [sdn])
    · have := covLen_le (es.map ofTo) (arF (es.map ofTo) v gone)
      rw [List.length_map] at this
      omega
    · exact membersN_len _)
  rw [ofA, if_neg (by rw [beginE_more h (by omega)]; simp), Int.toNat_natCast, ho]
  simp
/-- What Least answers: the width, the error. -/
def leastA (many : Int) (es : List (List Int)) : Int × Int :=
  if beginE many es 1 ≠ 0 then (0, beginE many es 1) else if many = 0 then (0, 0) else ((leastX many es : Nat), 0)
theorem leastX_spec {many : Int} {es : List (List Int)} (h6 : many ≤ 6) (h : beginE many es 1 = 0) :
    1 ≤ leastX many es ∧ leastX many es ≤ 41 ∧ (∀ j : Nat, 1 ≤ j → j < leastX many es → (ofA many es (j : Int)).1 = 4) ∧ (ofA many es (leastX many es : Nat)).1 ≠ 4 := by
  have hl : es.length ≤ 40 := by
    have hg1 : hyperB many es = true := by
      cases hh : hyperB many es with
      | true => rfl
      | false => rw [beginE, if_pos hh] at h; cases h
    exact (hyperB_parts hg1).2.2.1
  obtain ⟨h1, h2, h3, h4⟩ := leastM_spec 64 1 (max 1 es.length) (by omega) (by omega) (ofA_great h6 h)
  exact ⟨h1, by unfold leastX; omega, h3, h4⟩

set_option maxHeartbeats 4000000 in
set_option maxRecDepth 100000 in
theorem Least_any {P : Nat → Prop} (many : Int) (ev : Value) (es : List (List Int)) (w : World) (he : RowsR P w ev es) (h6 : many ≤ 6) (hT : TabW w) :
    Calls Tryd.prog 16 #[.agg #[.int .i64 many, ev]] w fun e w' => e = .returned (.tuple #[.int .i64 (leastA many es).1, .int .i64 (leastA many es).2]) ∧ Ext No w w' := by
  obtain ⟨A, c, rfl, _⟩ := he.at
  have HE := Sid.mk he
  have HT := Sid.mk hT
  clear he hT
  have HB0 : Sid (∀ w', Ext No (w.alloc (.cells #[.int .i64 many, .slice A es.length c] 24)) w' → w'.cell? ⟨w.heap.size, 0, none⟩ = some (.int .i64 many) ∧ w'.cell? ⟨w.heap.size, 1, none⟩ = some (.slice A es.length c)) := ⟨fun w' hx => ⟨hx.no (by simp), hx.no (by simp)⟩⟩
  obtain ⟨J, hJ⟩ : ∃ J : Act → World → Prop, J = fun a' w' => ∃ (m : Nat) (u4 u5 u7 u8 u9 u10 u11 u12 u13 u14 u15 u16 u17 u18 u19 u20 u21 u22 u23 u24 u25 u26 u27 u28 u29 u30 : Value), a' = { tmps := #[Value.agg #[Value.int IntKind.i64 many, Value.slice A es.length c], Value.pointer (some { block := w.heap.size, off := 0 }), Value.int IntKind.i64 0, Value.int IntKind.i64 0, u4, u5, Value.int IntKind.i64 (m : Int), u7, u8, u9, u10, u11, u12, u13, u14, u15, u16, u17, u18, u19, u20, u21, u22, u23, u24, u25, u26, u27, u28, u29, u30], defers := [] } ∧ 1 ≤ m ∧ m ≤ leastX many es ∧ beginE many es 1 = 0 ∧ many ≠ 0 ∧ Sid (Ext No (w.alloc (.cells #[.int .i64 many, .slice A es.length c] 24)) w') := ⟨_, rfl⟩
  have HJ := Sid.mk hJ
  clear hJ
  go_enter Tryd.func16, Tryd.ntmps16
  go_wp2
  refine wp_scope_label 0 J (fun a' _ => leastX many es + 1 - (intOf (a'.tmps.getD 6 undef)).toNat) rfl ?_ ?_
  · intro hlab
    by_cases hb : beginE many es 1 = 0
    · have HB := Sid.mk hb
      by_cases hm0 : many = 0
      · have HA : Sid (leastA many es = (0, 0)) := ⟨by rw [leastA, if_neg (by simp [hb]), if_pos hm0]⟩
        have hm1 : (many == 0) = true := by simp [hm0]
        clear hb hm0
        go_wp2_with (go_at_call 39; refine (begin_any many _ es 1 _ (HE.out.no (ext_box _)) h6 (HT.out.no (ext_box _))).mono ?_; rintro e w1 ⟨sv, rfl, hx1, _⟩; rw [HB.out]; have h0 := (HB0.out _ hx1).1; have HX1 := Sid.mk hx1; clear hx1)
        simp only [Exit.jump]
        go_ret2
        exact ⟨ret_pair (by simp only [HA.out]; rfl) (by simp only [HA.out]; rfl), (ext_box _).trans HX1.out⟩
      · have hm1 : (many == 0) = false := by rw [beq_eq_false_iff_ne]; exact hm0
        clear hb
        go_wp2_with (go_at_call 39; refine (begin_any many _ es 1 _ (HE.out.no (ext_box _)) h6 (HT.out.no (ext_box _))).mono ?_; rintro e w1 ⟨sv, rfl, hx1, _⟩; rw [HB.out]; have h0 := (HB0.out _ hx1).1; have HX1 := Sid.mk hx1; clear hx1)
        refine wp_label ?_
        simp only [Exit.then]
        apply_assumption
        refine hlab _ _ ?_
        rw [HJ.out]
        exact ⟨1, _, _, _, _, _, _, _, _, _, _, _, _, _, _, _, _, _, _, _, _, _, _, _, _, _, _, rfl, Nat.le_refl _, (leastX_spec h6 HB.out).1, HB.out, hm0, HX1⟩
    · have HA : Sid (leastA many es = (0, beginE many es 1)) := ⟨by rw [leastA, if_pos hb]⟩
      have hne : (beginE many es 1 != 0) = true := by simpa using hb
      clear hb
      go_wp2_with (go_at_call 39; refine (begin_any many _ es 1 _ (HE.out.no (ext_box _)) h6 (HT.out.no (ext_box _))).mono ?_; rintro e w1 ⟨sv, rfl, hx1, _⟩; have HX1 := Sid.mk hx1; clear hx1)
      simp only [Exit.jump]
      go_ret2
      exact ⟨ret_pair (by simp only [HA.out]; rfl) (by simp only [HA.out]; rfl), (ext_box _).trans HX1.out⟩
  · intro a' w' hj
    rw [HJ.out] at hj
    obtain ⟨m, u4, u5, u7, u8, u9, u10, u11, u12, u13, u14, u15, u16, u17, u18, u19, u20, u21, u22, u23, u24, u25, u26, u27, u28, u29, u30, rfl, hm1, hm2, hb, hm0, HX⟩ := hj
    obtain ⟨h1, h2, h3, h4⟩ := leastX_spec h6 hb
    have hq0 := (HB0.out _ HX.out).1
    have hq1 := (HB0.out _ HX.out).2
    by_cases hlt : m < leastX many es
    · have HE4 : Sid ((ofA many es (m : Int)).1 = 4) := ⟨h3 m hm1 hlt⟩
      clear h3 h4
      go_wp2_with (go_at_call 19; refine (Of_any many _ es (m : Int) _ (HE.out.no ((ext_box _).trans HX.out)) h6 (HT.out.no ((ext_box _).trans HX.out))).mono ?_; rintro e w1 ⟨v1, rfl, _, hx1⟩; rw [HE4.out]; have HX1 := Sid.mk hx1; clear hx1)
      go_step3
      refine ⟨rfl, HJ.out ▸ ⟨m + 1, _, _, _, _, _, _, _, _, _, _, _, _, _, _, _, _, _, _, _, _, _, _, _, _, _, _, by rw [show (m : Int) + 1 = ((m + 1 : Nat) : Int) from by omega], by omega, by omega, hb, hm0, ⟨HX.out.trans HX1.out⟩⟩, by simp [intOf]; omega⟩
    · obtain rfl : m = leastX many es := by omega
      have hne : ((ofA many es (leastX many es : Nat)).1 == 4) = false := by rw [beq_eq_false_iff_ne]; exact h4
      have HA : Sid (leastA many es = (((leastX many es : Nat) : Int), 0)) := ⟨by rw [leastA, if_neg (by simp [hb]), if_neg hm0]⟩
      clear h3 h4 hlt
      go_wp2_with (go_at_call 19; refine (Of_any many _ es (leastX many es : Nat) _ (HE.out.no ((ext_box _).trans HX.out)) h6 (HT.out.no ((ext_box _).trans HX.out))).mono ?_; rintro e w1 ⟨v1, rfl, _, hx1⟩; have HX1 := Sid.mk hx1; clear hx1)
      simp only [Exit.jump]
      go_ret2
      exact ⟨ret_pair (by simp only [HA.out]; rfl) (by simp only [HA.out]; rfl), (ext_box _).trans (HX.out.trans HX1.out)⟩
end Go.Proofs.YtceiaekkfabeaaaDoor

/- Which bags may be, as decomp.Check says it. -/
namespace Go.Proofs.YtceiaekkfabeaaaDoor
open Go.RowKit Pl

/-- The vertices that edges have together. -/
def byS (S : List Nat) (l : List Int) : Nat := l.foldl (fun s e => s ||| S.getD e.toNat 0) 0
theorem byS_succ {S : List Nat} {l : List Int} {k : Nat} {x : Int} (hx : l[k]? = some x) : byS S (l.take (k + 1)) = byS S (l.take k) ||| S.getD x.toNat 0 := by
  obtain ⟨hk, rfl⟩ := List.getElem?_eq_some_iff.1 hx
  unfold byS
  rw [List.take_succ_eq_append_getElem hk, List.foldl_append]; rfl
theorem byS_lt {S : List Nat} (hS : smallS S) (l : List Int) : byS S l < 4294967296 := by
  have : ∀ (l : List Int) (s : Nat), s < 4294967296 → l.foldl (fun s e => s ||| S.getD e.toNat 0) s < 4294967296 := by
    intro l
    induction l with
    | nil => exact fun s hs => hs
    | cons x l ih =>
      refine fun s hs => ih _ (or_lt hs ?_)
      rw [List.getD_eq_getElem?_getD]
      cases h : S[x.toNat]? with
      | none => simp
      | some y => exact hS y (List.mem_of_getElem? h)
  exact this l 0 (by omega)
/-- A bag's edges have all its vertices. -/
def okByB (S : List Nat) (b : Bag) : Bool := sdn (ofTo b.vs) (byS S b.es) == 0
/-- An edge lies within a bag. -/
def okInB (T : List Nat) (e : Nat) : Bool := T.any (subB e)
/-- Is a bag the top of those that have a vertex? -/
def topC (T : List Nat) (v : Nat) (ib : Nat × Bag) : Bool := (T.getD ib.1 0).testBit v && (decide (ib.2.parent < 0) || !(T.getD ib.2.parent.toNat 0).testBit v)
def topsC (bs : List Bag) (T : List Nat) (v : Nat) (k : Nat) : Nat := ((List.range k).filter fun i => topC T v (i, (bs[i]?).getD ⟨[], [], 0⟩)).length
theorem topsC_succ (bs : List Bag) (T : List Nat) (v k : Nat) : topsC bs T v (k + 1) = topsC bs T v k + (if topC T v (k, (bs[k]?).getD ⟨[], [], 0⟩) then 1 else 0) := by
  rw [topsC, List.range_succ, List.filter_append, List.length_append]
  congr 1
  rw [List.filter_cons]
  split <;> simp
theorem topsC_le (bs : List Bag) (T : List Nat) (v k : Nat) : topsC bs T v k ≤ k := by
  have := List.length_filter_le (fun i => topC T v (i, (bs[i]?).getD ⟨[], [], 0⟩)) (List.range k)
  simpa [topsC] using this
theorem wrap_succ {n : Nat} (h : n ≤ 1000) : wrap64 ((n : Int) + 1) = ((n + 1 : Nat) : Int) := by unfold wrap64; omega
theorem shr_bit0 {a u : Nat} (ha : a < 4294967296) : (bits .and .u64 ((a : Int) / 2 ^ u) 1 == 0) = !a.testBit u := by
  rw [← shr_bit ha]
  have h1 : ((a : Int) / 2 ^ u) = ((a / 2 ^ u : Nat) : Int) := by
    rw [Int.natCast_ediv, Int.natCast_pow]; rfl
  have h2 : a / 2 ^ u < 4294967296 := Nat.lt_of_le_of_lt (Nat.div_le_self _ _) ha
  rw [h1, show (1 : Int) = ((1 : Nat) : Int) from rfl, and_u64 h2 (by omega)]
  have : a / 2 ^ u &&& 1 < 2 := Nat.and_lt_two_pow _ (n := 1) (by omega)
  rcases (by omega : a / 2 ^ u &&& 1 = 0 ∨ a / 2 ^ u &&& 1 = 1) with h | h <;> rw [h] <;> rfl
/-- What Check answers. -/
def checkE (many : Int) (es : List (List Int)) (bs : List Bag) : Int :=
  if hyperB many es = false then 300 else if shapedB many es.length bs = false then 310 else
  if allB (okByB (es.map ofTo)) bs && allB (okInB (bs.map fun b => ofTo b.vs)) (es.map ofTo) && allB (fun v => topsC bs (bs.map fun b => ofTo b.vs) v bs.length == 1) (List.range many.toNat) then 0 else 310
end Go.Proofs.YtceiaekkfabeaaaDoor

namespace Go.Proofs.YtceiaekkfabeaaaDoor
open Go.RowKit Pl

set_option maxHeartbeats 4000000 in
set_option maxRecDepth 100000 in
theorem Check_any {P P1 : Nat → Prop} (many : Int) (ev bv : Value) (es : List (List Int)) (bs : List Bag) (w : World) (he : RowsR P w ev es) (hv : BagsR P1 w bv bs) :
    Calls Tryd.prog 23 #[.agg #[.int .i64 many, ev], bv] w fun e w' => e = .returned (.int .i64 (checkE many es bs)) ∧ Ext No w w' := by
  obtain ⟨A, c, rfl, hc, hm, hat⟩ := hv.at
  obtain ⟨Ae, ce, rfl, hce, hme, _⟩ := he.at
  have HAT := Sid.mk hat
  have HE := Sid.mk he
  have HV := Sid.mk hv
  clear hat he hv
  have HB0 : Sid (∀ w', Ext No (w.alloc (.cells #[.int .i64 many, .slice Ae es.length ce] 24)) w' → w'.cell? ⟨w.heap.size, 0, none⟩ = some (.int .i64 many) ∧ w'.cell? ⟨w.heap.size, 1, none⟩ = some (.slice Ae es.length ce)) := ⟨fun w' hx => ⟨hx.no (by simp), hx.no (by simp)⟩⟩
  cases hg1 : hyperB many es with
  | false =>
    have hce1 : hyperE many es = 300 := by simp [hyperE, hg1]
    have HA : Sid (checkE many es bs = 300) := ⟨by simp [checkE, hg1]⟩
    clear hg1
    go_enter Tryd.func23, Tryd.ntmps23
    go_wp2_with (go_at_call 27; refine (hyperCheck_any many _ es _ (HE.out.no (ext_box _))).mono ?_; rintro e w1 ⟨rfl, hx1⟩; rw [hce1]; have HX1 := Sid.mk hx1; clear hx1)
    go_ret
    exact ⟨ret_int HA.out.symm, (ext_box _).trans HX1.out⟩
  | true =>
    have hce1 : hyperE many es = 0 := by simp [hyperE, hg1]
    cases hg2 : shapedB many es.length bs with
    | false =>
      have HA : Sid (checkE many es bs = 310) := ⟨by simp [checkE, hg1, hg2]⟩
      have G2 := Sid.mk hg2
      clear hg1 hg2
      go_enter Tryd.func23, Tryd.ntmps23
      go_wp2_with (first
        | (go_at_call 27; refine (hyperCheck_any many _ es _ (HE.out.no (ext_box _))).mono ?_; rintro e w1 ⟨rfl, hx1⟩; rw [hce1]; have h0 := (HB0.out _ hx1).1; have h1 := (HB0.out _ hx1).2; have HX1 := Sid.mk hx1; clear hx1)
        | (go_at_call 48; refine (shaped_any many _ _ es bs _ (HE.out.no ((ext_box _).trans HX1.out)) (HV.out.no ((ext_box _).trans HX1.out))).mono ?_; rintro e w2 ⟨rfl, hx2⟩; rw [G2.out]; have HX2 := Sid.mk hx2; clear hx2))
      go_ret
      exact ⟨ret_int HA.out.symm, ((ext_box _).trans HX1.out).trans HX2.out⟩
    | true =>
      obtain ⟨hp1, hp2, hp3, hp4⟩ := hyperB_parts hg1
      have HSM : Sid (smallE es) := ⟨hyperB_small hg1⟩
      have hsb : bs.length ≤ 64 ∧ allI (bagFormB many es.length) 0 bs = true := by simpa [shapedB] using hg2
      obtain ⟨h64, hform⟩ := hsb
      have hbf : ∀ (i : Nat) (b : Bag), bs[i]? = some b → risesB b.vs many = true ∧ risesB b.es es.length = true ∧ -1 ≤ b.parent ∧ b.parent < i := fun i b hb => by
        have := allI_iff.1 hform i b hb
        simp only [bagFormB, Bool.and_eq_true, decide_eq_true_eq, Nat.zero_add] at this
        exact ⟨this.1.1.1, this.1.1.2, this.1.2, this.2⟩
      have HBF := Sid.mk hbf
      have HSB : Sid (∀ b ∈ bs, smallL b.vs) := ⟨fun b hb => by
        obtain ⟨i, hi⟩ := List.mem_iff_getElem?.1 hb
        exact risesB_small (hbf i b hi).1 hp2⟩
      have G1 := Sid.mk hg1
      have G2 := Sid.mk hg2
      clear hg1 hg2 hform hbf
      go_enter Tryd.func23, Tryd.ntmps23
      go_wp2_with (first
        | (go_at_call 27; refine (hyperCheck_any many _ es _ (HE.out.no (ext_box _))).mono ?_; rintro e w1 ⟨rfl, hx1⟩; rw [hce1]; have h0 := (HB0.out _ hx1).1; have h1 := (HB0.out _ hx1).2; have HX1 := Sid.mk hx1; clear hx1)
        | (go_at_call 48; refine (shaped_any many _ _ es bs _ (HE.out.no ((ext_box _).trans HX1.out)) (HV.out.no ((ext_box _).trans HX1.out))).mono ?_; rintro e w2 ⟨rfl, hx2⟩; rw [G2.out]; have h2 := hx2.no h1; have HX2 := Sid.mk (HX1.out.trans hx2); clear hx2)
        | (go_at_call 49; refine (madeOf_any _ es _ (HE.out.no ((ext_box _).trans HX2.out)) HSM.out (by omega)).mono ?_; rintro e w3 ⟨v3, rfl, hr3, hx3⟩; obtain ⟨A3, c3, rfl, _⟩ := hr3.at; rw [natsI_len, List.length_map] at hr3 ⊢; have HR3 := Sid.mk hr3; have HX3 := Sid.mk (HX2.out.trans hx3); clear hr3 hx3)
        | (go_at_call 50; refine (madeBag_any _ bs _ (HV.out.no ((ext_box _).trans HX3.out)) HSB.out (by omega)).mono ?_; rintro e w4 ⟨v4, rfl, hr4, hx4⟩; obtain ⟨A4, c4, rfl, _⟩ := hr4.at; rw [natsI_len, List.length_map] at hr4 ⊢; have HR4 := Sid.mk hr4; have HX4 := Sid.mk hx4; clear hr4 hx4))
      obtain ⟨W, hW⟩ : ∃ W : World, W = w4 := ⟨_, rfl⟩
      have HXW : Sid (Ext No w W) := ⟨by rw [hW]; exact ((ext_box _).trans HX3.out).trans HX4.out⟩
      have HBW : Sid (Ext No (w.alloc (.cells #[.int .i64 many, .slice Ae es.length ce] 24)) W) := ⟨by rw [hW]; exact HX3.out.trans HX4.out⟩
      obtain ⟨_, hs3⟩ := SetsR_at (HR3.out.no HX4.out)
      obtain ⟨_, hs4⟩ := SetsR_at HR4.out
      rw [← hW] at hs3 hs4 ⊢
      have HS3 := Sid.mk hs3
      have HS4 := Sid.mk hs4
      clear hs3 hs4
      go_loopw [36] (fun i wr => ∃ k : Nat, k ≤ bs.length ∧ i = .int .i64 k ∧ Sid (∀ i b, i < k → bs[i]? = some b → okByB (es.map ofTo) b = true) ∧ Sid (Ext No W wr)) (fun i _ => bs.length - (intOf i).toNat)
      case atStart => exact ⟨0, Nat.zero_le _, rfl, ⟨fun i b hi => by omega⟩, ⟨Ext.refl _ _⟩⟩
      case round =>
        obtain ⟨k, hk, rfl, HS, HX⟩ := hrel
        obtain ⟨wo, rfl⟩ : ∃ wo : World, wo = wr := ⟨_, rfl⟩
        by_cases hlt : k < bs.length
        · obtain ⟨b, off, A1, c1, A2, c2, vs, es1, p, rfl, _, q0, q1, q2, HB, HI1, HI2⟩ := HAT.out k hlt
          have hq0 := (HXW.out.trans HX.out).no q0
          have hq1 := (HXW.out.trans HX.out).no q1
          have hq2 := (HXW.out.trans HX.out).no q2
          obtain ⟨A2', c2', hA2, _, _, hat2⟩ := HI2.out.at
          simp only [Value.slice.injEq, true_and] at hA2
          obtain ⟨rfl, rfl⟩ := hA2
          have HAT2 := Sid.mk hat2
          obtain ⟨b4, off4, s4, rfl, _, hc4, HC4⟩ := HS4.out k (by simpa using hlt)
          have hs4 : s4 = ofTo vs := by have := HC4.out; rw [List.getElem?_map, HB.out] at this; simpa using this.symm
          subst hs4
          have hr4 := fun o => (ext_box (w := wo) o).no (HX.out.no hc4)
          obtain ⟨hf1, hf2, hf3, hf4⟩ := HBF.out k _ HB.out
          have HF1 := Sid.mk hf1
          have HF2 := Sid.mk hf2
          clear q0 q1 q2 hat2 hf1 hf2 hc4
          go_wp2
          go_loop [10, 44] (fun yv jv => ∃ j y : Nat, j ≤ es1.length ∧ jv = .int .i64 (j : Int) ∧ yv = .int .u64 (y : Int) ∧ y < 4294967296 ∧ Sid (y = byS (es.map ofTo) (es1.take j))) (fun _ jv => es1.length - (intOf jv).toNat)
          case atStart => exact ⟨0, 0, Nat.zero_le _, rfl, rfl, by omega, ⟨rfl⟩⟩
          case round =>
            obtain ⟨j, y, hj, rfl, rfl, hy, HY⟩ := hrel
            by_cases hjl : j < es1.length
            · obtain ⟨b5, off5, x5, hA5, _, hc5, HX5⟩ := HAT2.out j hjl
              subst hA5
              obtain ⟨hx0, hx1, _⟩ := risesB_iff.1 HF2.out j x5 HX5.out
              obtain ⟨n5, rfl⟩ := Int.eq_ofNat_of_zero_le hx0
              have hn5 : n5 < es.length := by omega
              obtain ⟨b6, off6, s6, rfl, _, hc6, HX6⟩ := HS3.out n5 (by simpa using hn5)
              have hr5 := fun o => (ext_box (w := wo) o).no ((HXW.out.trans HX.out).no hc5)
              have hr6 := fun o => (ext_box (w := wo) o).no (HX.out.no hc6)
              have hs6 : s6 < 4294967296 := smallS_of HSM.out s6 (List.mem_of_getElem? HX6.out)
              have HGD : Sid ((es.map ofTo).getD (n5 : Int).toNat 0 = s6) := ⟨by rw [List.getD_eq_getElem?_getD, Int.toNat_natCast, HX6.out]; rfl⟩
              clear hc5 hc6
              go_wp2
              go_round
              case rel => exact ⟨j + 1, y ||| s6, by omega, by go_num, congrArg _ (or_u64 hy hs6), or_lt hy hs6, ⟨by rw [byS_succ HX5.out, ← HY.out, HGD.out]⟩⟩
              case measure => simp [intOf]; omega
            · have HY2 : Sid (y = byS (es.map ofTo) es1) := ⟨by have := HY.out; rwa [List.take_of_length_le (by omega)] at this⟩
              have hov : ofTo vs < 4294967296 := ofTo_lt (risesB_small HF1.out hp2)
              cases hok : okByB (es.map ofTo) ⟨vs, es1, p⟩ with
              | true =>
                have hne : (bits .andNot .u64 (ofTo vs : Int) (y : Int) != 0) = false := by
                  rw [andNot_u64 hov hy]; simp only [okByB, beq_iff_eq] at hok; rw [HY2.out, hok]; rfl
                have HOK := Sid.mk hok
                clear hok
                go_wp2
                go_roundw
                case rel => exact ⟨k + 1, by omega, by go_num, ⟨fun i x hi hx => by
                  by_cases hik : i = k
                  · subst hik; rw [HB.out] at hx; cases hx; exact HOK.out
                  · exact HS.out i x (by omega) hx⟩, ⟨HX.out.alloc _⟩⟩
                case measure => simp [intOf]; omega
              | false =>
                have hne : (bits .andNot .u64 (ofTo vs : Int) (y : Int) != 0) = true := by
                  rw [andNot_u64 hov hy]; simp only [okByB, beq_eq_false_iff_ne] at hok; rw [← HY2.out] at hok; simp; omega
                have HOK := Sid.mk hok
                clear hok
                go_wp2
                go_ret
                have hch : checkE many es bs = 310 := by rw [checkE, G1.out, G2.out, allB_false HB.out HOK.out]; simp
                exact ⟨ret_int hch.symm, (HXW.out.trans HX.out).alloc _⟩
        · have HL1 : Sid (allB (okByB (es.map ofTo)) bs = true) := ⟨by
            rw [allB, List.all_eq_true]
            intro x hx
            obtain ⟨i, hi⟩ := List.mem_iff_getElem?.1 hx
            exact HS.out i x (by have := (List.getElem?_eq_some_iff.1 hi).1; omega) hi⟩
          have HR4W : Sid (IntsR .u64 (fun k => w3.heap.size ≤ k) wo (.slice A4 bs.length c4) (natsI (bs.map fun b => ofTo b.vs))) := ⟨by have := HR4.out.no (hW ▸ HX.out); exact this⟩
          go_wp2
          go_loopw [65] (fun i wr => ∃ k : Nat, k ≤ es.length ∧ i = .int .i64 k ∧ Sid (∀ i e, i < k → (es.map ofTo)[i]? = some e → okInB (bs.map fun b => ofTo b.vs) e = true) ∧ Sid (Ext No wo wr)) (fun i _ => es.length - (intOf i).toNat)
          case atStart => exact ⟨0, Nat.zero_le _, rfl, ⟨fun i b hi => by omega⟩, ⟨Ext.refl _ _⟩⟩
          case round =>
            obtain ⟨k2, hk2, rfl, HS2, HX2'⟩ := hrel
            obtain ⟨wp, rfl⟩ : ∃ wp : World, wp = wr := ⟨_, rfl⟩
            by_cases hlt2 : k2 < es.length
            · obtain ⟨b6, off6, s6, rfl, _, hc6, HX6⟩ := HS3.out k2 (by simpa using hlt2)
              have hr6 := (HX.out.trans HX2'.out).no hc6
              have hs6 : s6 < 4294967296 := smallS_of HSM.out s6 (List.mem_of_getElem? HX6.out)
              have HT : Sid (∀ t ∈ bs.map (fun b => ofTo b.vs), t < 4294967296) := ⟨fun t ht => by
                obtain ⟨bb, hb, rfl⟩ := List.mem_map.1 ht
                exact ofTo_lt (HSB.out bb hb)⟩
              clear hc6
              cases hok : okInB (bs.map fun b => ofTo b.vs) s6 with
              | true =>
                have HOK := Sid.mk hok
                clear hok
                go_wp2_with (go_at_call 52; refine (hasSets_any 53 enters53 #[.pointer (some ⟨wp.heap.size, 0, none⟩)] (subB s6) _ _ _ (HR4W.out.no (HX2'.out.alloc _)) (fun t wx hwx ht => subIn_any s6 t wp.heap.size hs6 (HT.out t ht) wx (hwx.no (by simp)))).mono ?_; rintro e w5 ⟨rfl, hx5⟩; rw [show List.any (bs.map fun b => ofTo b.vs) (subB s6) = true from HOK.out]; have HX5 := Sid.mk hx5; clear hx5)
                go_roundw
                case rel => exact ⟨k2 + 1, by omega, by go_num, ⟨fun i x hi hx => by
                  by_cases hik : i = k2
                  · subst hik; rw [HX6.out] at hx; cases hx; exact HOK.out
                  · exact HS2.out i x (by omega) hx⟩, ⟨(HX2'.out.alloc _).trans HX5.out⟩⟩
                case measure => simp [intOf]; omega
              | false =>
                have HOK := Sid.mk hok
                clear hok
                go_wp2_with (go_at_call 52; refine (hasSets_any 53 enters53 #[.pointer (some ⟨wp.heap.size, 0, none⟩)] (subB s6) _ _ _ (HR4W.out.no (HX2'.out.alloc _)) (fun t wx hwx ht => subIn_any s6 t wp.heap.size hs6 (HT.out t ht) wx (hwx.no (by simp)))).mono ?_; rintro e w5 ⟨rfl, hx5⟩; rw [show List.any (bs.map fun b => ofTo b.vs) (subB s6) = false from HOK.out]; have HX5 := Sid.mk hx5; clear hx5)
                go_ret
                have hch : checkE many es bs = 310 := by rw [checkE, G1.out, G2.out, HL1.out, allB_false HX6.out HOK.out]; simp
                exact ⟨ret_int hch.symm, ((HXW.out.trans HX.out).trans (HX2'.out.alloc _)).trans HX5.out⟩
            · have HL2 : Sid (allB (okInB (bs.map fun b => ofTo b.vs)) (es.map ofTo) = true) := ⟨by
                rw [allB, List.all_eq_true]
                intro x hx
                obtain ⟨i, hi⟩ := List.mem_iff_getElem?.1 hx
                exact HS2.out i x (by have := (List.getElem?_eq_some_iff.1 hi).1; simp at this; omega) hi⟩
              have hm9 := (HB0.out _ (HBW.out.trans (HX.out.trans HX2'.out))).1
              obtain ⟨mm, rfl⟩ := Int.eq_ofNat_of_zero_le hp1
              go_wp2
              go_loopw [76] (fun i wr => ∃ v : Nat, v ≤ mm ∧ i = .int .i64 v ∧ Sid (∀ u, u < v → topsC bs (bs.map fun b => ofTo b.vs) u bs.length = 1) ∧ Sid (Ext No wp wr)) (fun i _ => mm - (intOf i).toNat)
              case atStart => exact ⟨0, Nat.zero_le _, rfl, ⟨fun u hu => by omega⟩, ⟨Ext.refl _ _⟩⟩
              case round =>
                obtain ⟨vt, hvt, rfl, HS3', HX3'⟩ := hrel
                obtain ⟨wq, rfl⟩ : ∃ wq : World, wq = wr := ⟨_, rfl⟩
                by_cases hlt3 : vt < mm
                · go_wp2
                  go_loopw [16, 81] (fun tv i wr => ∃ k : Nat, k ≤ bs.length ∧ i = .int .i64 k ∧ tv = .int .i64 (topsC bs (bs.map fun b => ofTo b.vs) vt k : Nat) ∧ Sid (Ext No wq wr)) (fun _ i _ => bs.length - (intOf i).toNat)
                  case atStart => exact ⟨0, Nat.zero_le _, rfl, rfl, ⟨Ext.refl _ _⟩⟩
                  case round =>
                    obtain ⟨k3, hk3, rfl, rfl, HX4'⟩ := hrel
                    obtain ⟨wz, rfl⟩ : ∃ wz : World, wz = wr := ⟨_, rfl⟩
                    by_cases hlt4 : k3 < bs.length
                    · obtain ⟨b, off, A1, c1, A2, c2, vs, es1, p, rfl, _, q0, q1, q2, HB, HI1, HI2⟩ := HAT.out k3 hlt4
                      have HWZ : Sid (Ext No W wz) := ⟨((HX.out.trans HX2'.out).trans HX3'.out).trans HX4'.out⟩
                      have hq0 := (HXW.out.trans HWZ.out).no q0
                      have hq1 := (HXW.out.trans HWZ.out).no q1
                      have hq2 := (HXW.out.trans HWZ.out).no q2
                      obtain ⟨b4, off4, s4, rfl, _, hc4, HC4⟩ := HS4.out k3 (by simpa using hlt4)
                      have hs4l : s4 < 4294967296 := by
                        obtain ⟨bb, hb, rfl⟩ := List.mem_map.1 (List.mem_of_getElem? HC4.out)
                        exact ofTo_lt (HSB.out bb hb)
                      have hr4 := fun o => (ext_box (w := wz) o).no (HWZ.out.no hc4)
                      have hsb := shr_bit (u := vt) hs4l
                      have HTC : Sid (topC (bs.map fun b => ofTo b.vs) vt (k3, (bs[k3]?).getD ⟨[], [], 0⟩) = (s4.testBit vt && (decide (p < 0) || !((bs.map fun b => ofTo b.vs).getD p.toNat 0).testBit vt))) := ⟨by rw [HB.out, topC, List.getD_eq_getElem?_getD, HC4.out]; rfl⟩
                      obtain ⟨_, _, hf3, hf4⟩ := HBF.out k3 _ HB.out
                      clear q0 q1 q2
                      cases htb : s4.testBit vt with
                      | false =>
                        rw [htb] at hsb
                        go_wp2
                        go_roundw
                        case rel => exact ⟨k3 + 1, by omega, by go_num, by rw [topsC_succ, if_neg (by rw [HTC.out, htb]; simp)]; rfl, ⟨HX4'.out.alloc _⟩⟩
                        case measure => simp [intOf]; omega
                      | true =>
                        rw [htb] at hsb
                        by_cases hneg : p < 0
                        · go_wp2
                          go_roundw
                          case rel => exact ⟨k3 + 1, by omega, by go_num, by rw [topsC_succ, if_pos (by rw [HTC.out, htb]; simp [hneg])]; exact congrArg _ (wrap_succ (by have := topsC_le bs (bs.map fun b => ofTo b.vs) vt k3; omega)), ⟨HX4'.out.alloc _⟩⟩
                          case measure => simp [intOf]; omega
                        · obtain ⟨q, rfl⟩ := Int.eq_ofNat_of_zero_le (by omega : 0 ≤ p)
                          have hql : q < k3 := by simp only at hf4; omega
                          obtain ⟨b5, off5, s5, hA5, _, hc5, HC5⟩ := HS4.out q (by simp; omega)
                          simp only [Option.some.injEq, Addr.mk.injEq, and_true] at hA5
                          obtain ⟨rfl, rfl⟩ := hA5
                          have hs5l : s5 < 4294967296 := by
                            obtain ⟨bb, hb, rfl⟩ := List.mem_map.1 (List.mem_of_getElem? HC5.out)
                            exact ofTo_lt (HSB.out bb hb)
                          have hr5 := fun o => (ext_box (w := wz) o).no (HWZ.out.no hc5)
                          have hsb5 := shr_bit0 (u := vt) hs5l
                          have HT5 : Sid (topC (bs.map fun b => ofTo b.vs) vt (k3, (bs[k3]?).getD ⟨[], [], 0⟩) = !s5.testBit vt) := ⟨by
                            rw [HTC.out, htb, Int.toNat_natCast, List.getD_eq_getElem?_getD, HC5.out]
                            have : ¬ ((q : Int) < 0) := by omega
                            simp [this]⟩
                          clear hc5 hc4
                          cases ht5 : s5.testBit vt with
                          | true =>
                            rw [ht5] at hsb5
                            go_wp2
                            go_roundw
                            case rel => exact ⟨k3 + 1, by omega, by go_num, by rw [topsC_succ, if_neg (by rw [HT5.out, ht5]; simp)]; rfl, ⟨HX4'.out.alloc _⟩⟩
                            case measure => simp [intOf]; omega
                          | false =>
                            rw [ht5] at hsb5
                            go_wp2
                            go_roundw
                            case rel => exact ⟨k3 + 1, by omega, by go_num, by rw [topsC_succ, if_pos (by rw [HT5.out, ht5]; simp)]; exact congrArg _ (wrap_succ (by have := topsC_le bs (bs.map fun b => ofTo b.vs) vt k3; omega)), ⟨HX4'.out.alloc _⟩⟩
                            case measure => simp [intOf]; omega
                    · obtain rfl : k3 = bs.length := by omega
                      by_cases hone : topsC bs (bs.map fun b => ofTo b.vs) vt bs.length = 1
                      · rw [hone]
                        have HONE := Sid.mk hone
                        clear hone
                        go_wp2
                        go_roundw
                        case rel => exact ⟨vt + 1, by omega, by go_num, ⟨fun u hu => by
                          by_cases hik : u = vt
                          · subst hik; exact HONE.out
                          · exact HS3'.out u (by omega)⟩, ⟨HX3'.out.trans HX4'.out⟩⟩
                        case measure => simp [intOf] <;> omega
                      · have hne : ((topsC bs (bs.map fun b => ofTo b.vs) vt bs.length : Int) == 1) = false := by rw [beq_eq_false_iff_ne]; omega
                        have HONE := Sid.mk hone
                        clear hone
                        go_wp2
                        go_ret
                        have hch : checkE (mm : Int) es bs = 310 := by
                          have h3 : allB (fun v => topsC bs (bs.map fun b => ofTo b.vs) v bs.length == 1) (List.range (mm : Int).toNat) = false :=
                            allB_false (k := vt) (x := vt) (by rw [Int.toNat_natCast]; simp [hlt3]) (by simp [HONE.out])
                          rw [checkE, G1.out, G2.out, HL1.out, HL2.out, h3]; simp
                        exact ⟨ret_int hch.symm, ((HXW.out.trans (HX.out.trans HX2'.out)).trans HX3'.out).trans HX4'.out⟩
                · obtain rfl : vt = mm := by omega
                  go_wp2
                  go_ret
                  have hch : checkE (vt : Int) es bs = 0 := by
                    have h3 : allB (fun v => topsC bs (bs.map fun b => ofTo b.vs) v bs.length == 1) (List.range (vt : Int).toNat) = true := by
                      rw [allB, List.all_eq_true]
                      intro u hu
                      rw [Int.toNat_natCast, List.mem_range] at hu
                      simp [HS3'.out u hu]
                    rw [checkE, G1.out, G2.out, HL1.out, HL2.out, h3]; simp
                  exact ⟨ret_int hch.symm, (HXW.out.trans (HX.out.trans HX2'.out)).trans HX3'.out⟩
end Go.Proofs.YtceiaekkfabeaaaDoor

/- The chapter's hypergraph; rows that are written outright. -/
namespace Go.Proofs.YtceiaekkfabeaaaDoor
open Go.RowKit Go.Shelf Pl

theorem Own.litN {w : World} {base e b n size : Nat} {cur : Array Value} (h : w.heap[b]? = some (.cells cur e)) (hb : base ≤ b) (hs : cur.size = n * size) (hn : n ≤ 1000) (hz : size ≤ 1000) : Own base e size w (.slice (some ⟨b, 0, none⟩) n n) n cur.toList :=
  ⟨by simp [hs], .inr ⟨b, n, cur, rfl, hb, h, Nat.le_refl _, by simp [maxLen]; omega, by omega, by rw [List.take_of_length_le (by simp [hs])]⟩⟩
theorem intsR_lit {P : Nat → Prop} {w : World} {b e : Nat} (xs : List Int) (h : w.heap[b]? = some (.cells (xs.map (.int .i64)).toArray e)) (hl : xs.length ≤ 1000) (hP : P b) : IntsR .i64 P w (.slice (some ⟨b, 0, none⟩) xs.length xs.length) xs :=
  ints_own (Own.litN (base := 0) (size := 1) h (Nat.zero_le _) (by simp) hl (by omega)) (by omega) (fun k hk => by simp [Value.ownBlock] at hk; exact hk ▸ hP)

theorem alloc_at (w : World) (o : Obj) (i : Nat) : (w.alloc o).heap[i]? = if i = w.heap.size then some o else w.heap[i]? := by
  show (w.heap.push o)[i]? = _
  rw [Array.getElem?_push]

set_option maxHeartbeats 4000000 in
theorem ring_any (w : World) : Calls Tryd.prog 31 #[] w fun e w' => ∃ ev, e = .returned (.agg #[.int .i64 3, ev]) ∧ RowsR (fun k => w.heap.size ≤ k) w' ev [[0, 1], [1, 2], [0, 2]] ∧ Ext No w w' := by
  go_enter Tryd.func31, Tryd.ntmps31
  go_wp2
  obtain ⟨W, hW⟩ : ∃ W, W = (((((w.alloc (.cells #[.int .i64 3, .slice (some ⟨w.heap.size + 1 + 1 + 1 + 1, 0, none⟩) 3 3] 24)).alloc (.cells #[.int .i64 0, .int .i64 1] 3)).alloc (.cells #[.int .i64 1, .int .i64 2] 3)).alloc (.cells #[.int .i64 0, .int .i64 2] 3)).alloc
    (.cells #[.slice (some ⟨w.heap.size + 1, 0, none⟩) 2 2, .slice (some ⟨w.heap.size + 1 + 1, 0, none⟩) 2 2, .slice (some ⟨w.heap.size + 1 + 1 + 1, 0, none⟩) 2 2] 28)) := ⟨_, rfl⟩
  have hx : Ext No w W := by rw [hW]; exact (((((Ext.refl No w).alloc _).alloc _).alloc _).alloc _).alloc _
  have h0 : W.cell? ⟨w.heap.size, 0, none⟩ = some (.int .i64 3) := by rw [hW]; simp [go_sem]
  have h1 : W.cell? ⟨w.heap.size, 1, none⟩ = some (.slice (some ⟨w.heap.size + 1 + 1 + 1 + 1, 0, none⟩) 3 3) := by rw [hW]; simp [go_sem]
  have g1 : W.heap[w.heap.size + 1]? = some (.cells (([0, 1] : List Int).map (.int .i64)).toArray 3) := by rw [hW]; simp only [alloc_at, World.size_alloc]; simp
  have g2 : W.heap[w.heap.size + 1 + 1]? = some (.cells (([1, 2] : List Int).map (.int .i64)).toArray 3) := by rw [hW]; simp only [alloc_at, World.size_alloc]; simp
  have g3 : W.heap[w.heap.size + 1 + 1 + 1]? = some (.cells (([0, 2] : List Int).map (.int .i64)).toArray 3) := by rw [hW]; simp only [alloc_at, World.size_alloc]; simp
  have g4 : W.heap[w.heap.size + 1 + 1 + 1 + 1]? = some (.cells #[.slice (some ⟨w.heap.size + 1, 0, none⟩) 2 2, .slice (some ⟨w.heap.size + 1 + 1, 0, none⟩) 2 2, .slice (some ⟨w.heap.size + 1 + 1 + 1, 0, none⟩) 2 2] 28) := by rw [hW]; simp only [alloc_at, World.size_alloc]; simp
  rw [← hW]
  refine bodyPost_ret (v := .agg #[.int .i64 3, .slice (some ⟨w.heap.size + 1 + 1 + 1 + 1, 0, none⟩) 3 3]) (by simp [results, go_sem, h0, h1]) rfl ⟨_, rfl, ?_, hx⟩
  refine (Own.litN (base := w.heap.size) (n := 3) (size := 1) g4 (by omega) rfl (by omega) (by omega)).rows (by simp) (fun k hk => by simp [Value.ownBlock] at hk; omega) (fun j u xs hu hxs => ?_)
  rcases j with _ | _ | _ | j
  · simp at hu hxs; subst hu; subst hxs; exact intsR_lit [0, 1] g1 (by simp) (by omega)
  · simp at hu hxs; subst hu; subst hxs; exact intsR_lit [1, 2] g2 (by simp) (by omega)
  · simp at hu hxs; subst hu; subst hxs; exact intsR_lit [0, 2] g3 (by simp) (by omega)
  · simp at hu
end Go.Proofs.YtceiaekkfabeaaaDoor
