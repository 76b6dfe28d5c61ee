/- Words and contracts for: DecompAcyclic: for every hypergraph the law answers true, and its arguments read as before. No condition; the library's table math/bits.deBruijn64tab is laid by its text. -/
import Derived.Test.YtceiaekkfabeaaaDoorZyp
/- The law DecompAcyclic: walked. -/
namespace Go.Proofs.YtceiaekkfabeaaaDoor
open Go.RowKit Go.Shelf Pl

theorem bagsR_box {P : Nat → Prop} {W : World} {b : Nat} {v1 v2 : Value} {vs es : List Int} {p : Int} (h : W.heap[b]? = some (.cells #[v1, v2, .int .i64 p] 51)) (h1 : IntsR .i64 P W v1 vs) (h2 : IntsR .i64 P W v2 es) (hP : P b) : BagsR P W (.slice (some ⟨b, 0, none⟩) 1 1) [⟨vs, es, p⟩] := by
  refine ⟨some ⟨b, 0, none⟩, 1, rfl, ⟨Nat.le_refl _, fun h => by cases h⟩, by simp, fun _ => ⟨_, rfl, hP, rfl, fun j hj => ?_⟩⟩
  have hj0 : j = 0 := by simpa using hj
  subst hj0
  refine ⟨[v1, v2, .int .i64 p], ⟨_, _, rfl, h1, h2⟩, rfl, fun i u hu => ?_⟩
  simp only [World.cell?, h]
  simpa using hu
theorem OwnRows.weak {P : Nat → Prop} {base base' : Nat} {w : World} {v : Value} {xss : List (List Int)} (h : OwnRows P base w v xss) (hb : base' ≤ base) : OwnRows (fun _ => True) base' w v xss := by
  obtain ⟨vs, h1, h2⟩ := h
  refine ⟨vs, ?_, fun j u xs hu hxs => (h2 j u xs hu hxs).imp (fun k _ hk => ⟨trivial, hk.2⟩)⟩
  obtain ⟨g0, g1⟩ := h1
  refine ⟨g0, ?_⟩
  rcases g1 with g1 | ⟨g, cap, cur, a1, a2, a3⟩
  · exact .inl g1
  · exact .inr ⟨g, cap, cur, a1, Nat.le_trans hb a2, a3⟩
theorem inB_of_many {many : Int} {es : List (List Int)} (h : hyperB many es = true) {e : List Int} (he : e ∈ es) {x : Int} (hx : x ∈ e) : 0 ≤ x ∧ x < many := by
  obtain ⟨h1, _, _, h4⟩ := hyperB_parts h
  obtain ⟨mm, rfl⟩ := Int.eq_ofNat_of_zero_le h1
  exact inB_of_rises (h4 e he) x hx
theorem take_verts2 {many : Int} {k : Nat} (h : (k : Int) < many) : (vertsL many).take (k + 1) = (vertsL many).take k ++ [(k : Int)] := take_succ_of (vertsL_at h)
set_option maxHeartbeats 8000000 in
set_option maxRecDepth 100000 in
theorem acyclic_law_any {P : Nat → Prop} (many : Int) (ev : Value) (es : List (List Int)) (w : World) (he : RowsR P w ev es) (hT : TabW w) :
    Calls Tryd.prog 7 #[.agg #[.int .i64 many, ev]] w fun e w' => e = .returned (.bool true) ∧ Ext No w w' := by
  obtain ⟨Ae, ce, rfl, _⟩ := he.at
  have HE := Sid.mk he
  have HT := Sid.mk hT
  clear he hT
  have HB0 : Sid (∀ w', Ext No (w.alloc (.cells #[.int .i64 many, .slice Ae es.length ce] 24)) w' → w'.cell? ⟨w.heap.size, 0, none⟩ = some (.int .i64 many) ∧ w'.cell? ⟨w.heap.size, 1, none⟩ = some (.slice Ae es.length ce)) := ⟨fun w' hx => ⟨hx.no (by simp), hx.no (by simp)⟩⟩
  cases hob : ownB many es with
  | false =>
    have HOB := Sid.mk hob
    clear hob
    go_enter Tryd.func7, Tryd.ntmps7
    go_wp2_with (first
      | (go_at_call 8; refine (wakes_any _ (HT.out.no (ext_box _))).mono ?_; rintro e w1 ⟨rfl, hx1⟩; have h0 := (HB0.out _ hx1).1; have h1 := (HB0.out _ hx1).2; have HX1 := Sid.mk hx1; clear hx1)
      | (go_at_call 9; refine (own_any many _ es _ (HE.out.no ((ext_box _).trans HX1.out))).mono ?_; rintro e w2 ⟨hx2, hif⟩; rw [HOB.out] at hif; simp only [Bool.false_eq_true, if_false] at hif; subst hif; have HX2 := Sid.mk hx2; clear hx2)
      | fail)
    go_ret
    exact ⟨rfl, (((ext_box _).trans HX1.out).trans HX2.out).alloc _⟩
  | true =>
    have HOB := Sid.mk hob
    have h8 : es.length ≤ 7 ∧ many ≤ 6 := by simp only [ownB, Bool.and_eq_true, decide_eq_true_eq] at hob; exact hob.1
    clear hob
    cases hg1 : hyperB many es with
    | false =>
      have HCE : Sid (hyperE many es = 300) := ⟨by simp [hyperE, hg1]⟩
      clear hg1
      go_enter Tryd.func7, Tryd.ntmps7
      go_wp2_with (first
        | (go_at_call 8; refine (wakes_any _ (HT.out.no (ext_box _))).mono ?_; rintro e w1 ⟨rfl, hx1⟩; have h0 := (HB0.out _ hx1).1; have h1 := (HB0.out _ hx1).2; have HX1 := Sid.mk hx1; clear hx1)
        | (go_at_call 9; refine (own_any many _ es _ (HE.out.no ((ext_box _).trans HX1.out))).mono ?_; rintro e w2 ⟨hx2, hif⟩; rw [HOB.out] at hif; simp only [if_true] at hif; obtain ⟨v2, rfl, hr2⟩ := hif; obtain ⟨A2, c2, rfl, _⟩ := hr2.at; have HR2 := Sid.mk hr2; have HX2 := Sid.mk hx2; clear hr2 hx2)
        | (go_at_call 27; refine (hyperCheck_any many _ es _ (HR2.out.no (ext_box _))).mono ?_; rintro e w3 ⟨rfl, hx3⟩; rw [HCE.out]; have hg0 := hx3.no (p := ⟨w2.heap.size, 0, none⟩) (v := .int .i64 many) (by simp); have hg1 := hx3.no (p := ⟨w2.heap.size, 1, none⟩) (v := .slice A2 es.length c2) (by simp); have HX3 := Sid.mk hx3; clear hx3)
        | fail)
      go_ret
      exact ⟨rfl, ((ext_box _).trans (HX1.out.trans HX2.out)).trans ((ext_box _).trans HX3.out)⟩
    | true =>
      have HCE : Sid (hyperE many es = 0) := ⟨by simp [hyperE, hg1]⟩
      have HG1 := Sid.mk hg1
      have hm0 := (hyperB_parts hg1).1
      obtain ⟨mm, hmm⟩ := Int.eq_ofNat_of_zero_le hm0
      have HMM := Sid.mk hmm
      cases hg3 : bareB many es with
      | true =>
        have HLA : Sid (leastA many es = (0, 4)) := ⟨by
          have h1 := hg1; have h3 := hg3
          rw [HMM.out] at h1 h3 ⊢
          have hb' : beginE (mm : Int) es 1 = 4 := by rw [begin_bare h1 (Int.le_refl _), h3]; rfl
          rw [leastA, if_pos (by rw [hb']; decide), hb']⟩
        have K1 := trivial
        clear hg1 hg3 hmm
        go_enter Tryd.func7, Tryd.ntmps7
        go_wp2_with (first
          | (go_at_call 8; refine (wakes_any _ (HT.out.no (ext_box _))).mono ?_; rintro e w1 ⟨rfl, hx1⟩; have h0 := (HB0.out _ hx1).1; have h1 := (HB0.out _ hx1).2; have HX1 := Sid.mk hx1; clear hx1)
          | (go_at_call 9; refine (own_any many _ es _ (HE.out.no ((ext_box _).trans HX1.out))).mono ?_; rintro e w2 ⟨hx2, hif⟩; rw [HOB.out] at hif; simp only [if_true] at hif; obtain ⟨v2, rfl, hr2⟩ := hif; obtain ⟨A2, c2, rfl, _⟩ := hr2.at; have HR2 := Sid.mk hr2; have HX2 := Sid.mk hx2; clear hr2 hx2)
          | (go_at_call 27; refine (hyperCheck_any many _ es _ (HR2.out.no (ext_box _))).mono ?_; rintro e w3 ⟨rfl, hx3⟩; rw [HCE.out]; have hg0 := hx3.no (p := ⟨w2.heap.size, 0, none⟩) (v := .int .i64 many) (by simp); have hg1 := hx3.no (p := ⟨w2.heap.size, 1, none⟩) (v := .slice A2 es.length c2) (by simp); have HX3 := Sid.mk hx3; clear hx3)
          | (go_at_call 16; have := K1; clear K1; refine (Least_any many _ es _ (HR2.out.no ((ext_box _).trans HX3.out)) (by omega) (HT.out.no (((ext_box _).trans (HX1.out.trans HX2.out)).trans ((ext_box _).trans HX3.out)))).mono ?_; rintro e w4 ⟨rfl, hx4⟩; rw [HLA.out]; have hg2 := hx4.no hg0; have hg3 := hx4.no hg1; have HX4 := Sid.mk hx4; clear hx4)
          | fail)
        go_ret
        exact ⟨rfl, ((ext_box _).trans (HX1.out.trans HX2.out)).trans ((ext_box _).trans (HX3.out.trans HX4.out))⟩
      | false =>
        have HLW : Sid (∃ n : Nat, leastA many es = ((n : Int), 0) ∧ n ≤ 41 ∧ (n = 0 ↔ mm = 0) ∧ (0 < n → ∃ l, Elim (es.map ofTo) (n : Int) (2 ^ mm - 1) 0 l) ∧ (∀ j : Nat, 1 ≤ j → j < n → ¬ ∃ l, Elim (es.map ofTo) (j : Int) (2 ^ mm - 1) 0 l)) := ⟨by
          rw [HMM.out] at hg1 hg3 ⊢
          exact least_law hg1 (by omega) hg3⟩
        obtain ⟨n, hla, hn41, hn0, hn1, hn2⟩ := HLW.out
        have HFC : Sid (∃ c, covO (es.map ofTo) (ofTo (vertsL many)) = some c) := ⟨by rw [HMM.out] at hg1 hg3 ⊢; exact full_cover hg1 hg3⟩
        obtain ⟨cov, hcov⟩ := HFC.out
        have HCA : Sid (coverA many es (vertsL many) = (0, some cov)) := ⟨by rw [HMM.out] at hg1 hg3 hcov ⊢; exact full_coverA hg1 hg3 hcov⟩
        have HNC : Sid (n ≤ cov.length) := ⟨by rw [HMM.out] at hg1 hcov; exact least_cover hg1 hcov hn0 hn2⟩
        have HON : Sid (checkE many es [⟨vertsL many, cov, -1⟩] = 0) := ⟨by rw [HMM.out] at hg1 hcov ⊢; exact one_right hg1 hcov⟩
        have HCL : Sid (cov.length ≤ 7) := ⟨by have h := (cov_found hcov).1; rw [List.length_map] at h; omega⟩
        have HML : Sid (leastA many (moreE es mm) = (min many 1, 0)) := ⟨by rw [HMM.out] at hg1 ⊢; exact more_least hg1 (by omega) (by omega)⟩
        obtain ⟨nI, hnI⟩ : ∃ nI : Int, nI = (n : Int) := ⟨_, rfl⟩
        have HNI := Sid.mk hnI
        have HLA : Sid (leastA many es = (nI, 0)) := ⟨by rw [hla, hnI]⟩
        have HAC : Sid (∀ {b : Bool} {g : Nat → Option Nat}, Reach (startG es) g → Stuck g → (b = true ↔ ∀ i, g i = none) → b = decide (nI ≤ 1)) := ⟨fun {b g} hR hS hb => by
          rw [HMM.out] at hg1 hg3
          have h := acyclic_law hg1 hg3 hn0 hn1 hn2 hR hS
          rw [h] at hb
          rw [HNI.out]
          cases b with
          | true => have := hb.1 rfl; simp; omega
          | false =>
            have : ¬ n ≤ 1 := fun hh => by have := hb.2 hh; cases this
            simp; omega⟩
        have K1 := trivial
        have hmI : many ≤ 6 := h8.2
        clear hg3 hmm hla hn0 hn1 hn2 HLW HFC hcov hnI hg1
        go_enter Tryd.func7, Tryd.ntmps7
        go_wp2_with (first
          | (go_at_call 8; refine (wakes_any _ (HT.out.no (ext_box _))).mono ?_; rintro e w1 ⟨rfl, hx1⟩; have h0 := (HB0.out _ hx1).1; have h1 := (HB0.out _ hx1).2; have HX1 := Sid.mk hx1; clear hx1)
          | (go_at_call 9; refine (own_any many _ es _ (HE.out.no ((ext_box _).trans HX1.out))).mono ?_; rintro e w2 ⟨hx2, hif⟩; rw [HOB.out] at hif; simp only [if_true] at hif; obtain ⟨v2, rfl, hr2⟩ := hif; obtain ⟨A2, c2, rfl, _⟩ := hr2.at; have HR2 := Sid.mk hr2; have HX2 := Sid.mk hx2; clear hr2 hx2)
          | (go_at_call 27; refine (hyperCheck_any many _ es _ (HR2.out.no (ext_box _))).mono ?_; rintro e w3 ⟨rfl, hx3⟩; rw [HCE.out]; have hg0 := hx3.no (p := ⟨w2.heap.size, 0, none⟩) (v := .int .i64 many) (by simp); have hg1 := hx3.no (p := ⟨w2.heap.size, 1, none⟩) (v := .slice A2 es.length c2) (by simp); have HX3 := Sid.mk hx3; clear hx3)
          | (go_at_call 16; have := K1; clear K1; refine (Least_any many _ es _ (HR2.out.no ((ext_box _).trans HX3.out)) (by omega) (HT.out.no (((ext_box _).trans (HX1.out.trans HX2.out)).trans ((ext_box _).trans HX3.out)))).mono ?_; rintro e w4 ⟨rfl, hx4⟩; rw [HLA.out]; have hg2 := hx4.no hg0; have hg3 := hx4.no hg1; have HX4 := Sid.mk hx4; clear hx4)
          | (go_at_call 28; refine (Acyclic_any many _ es _ (HR2.out.no ((ext_box _).trans (HX3.out.trans HX4.out))) HG1.out (by omega) (HT.out.no (((ext_box _).trans (HX1.out.trans HX2.out)).trans ((ext_box _).trans (HX3.out.trans HX4.out))))).mono ?_; rintro e w5 ⟨bA, gA, rfl, hre, hst, hbA, hx5⟩; have hbd := HAC.out hre hst hbA; subst hbd; have hg4 := hx5.no hg2; have hg5 := hx5.no hg3; have HX5 := Sid.mk hx5; clear hx5 hre hst hbA)
          | fail)
        obtain ⟨W, hW⟩ : ∃ W : World, W = w5 := ⟨_, rfl⟩
        have HXW : Sid (Ext No w W) := ⟨by rw [hW]; exact ((ext_box _).trans (HX1.out.trans HX2.out)).trans ((ext_box _).trans (HX3.out.trans (HX4.out.trans HX5.out)))⟩
        have HRW : Sid (RowsR (fun k => w1.heap.size ≤ k) W (.slice A2 es.length c2) es) := ⟨by rw [hW]; exact HR2.out.no ((ext_box _).trans (HX3.out.trans (HX4.out.trans HX5.out)))⟩
        have HCW : Sid (∀ w', Ext No W w' → w'.cell? ⟨w2.heap.size, 0, none⟩ = some (.int .i64 many) ∧ w'.cell? ⟨w2.heap.size, 1, none⟩ = some (.slice A2 es.length c2)) := ⟨fun w' hx => ⟨hx.no (by rw [hW]; exact hg4), hx.no (by rw [hW]; exact hg5)⟩⟩
        rw [← hW]
        clear hW hg0 hg1 hg2 hg3 hg4 hg5 h0 h1
        go_loopw [7, 49] (fun v i wr => ∃ k : Nat, k ≤ many.toNat ∧ i = .int .i64 (k : Int) ∧ Sid (Own W.heap.size 3 1 wr v k (((vertsL many).take k).map (.int .i64))) ∧ Sid (Ext No W wr)) (fun _ i _ => many.toNat - (intOf i).toNat)
        case atStart => exact ⟨0, Nat.zero_le _, rfl, ⟨by simpa using Own.nil _ _ _ _⟩, ⟨Ext.refl _ _⟩⟩
        case round =>
          obtain ⟨k, hk, rfl, HO, HX⟩ := hrel
          have HSZ : Sid (W.heap.size ≤ wr.heap.size) := ⟨HX.out.size⟩
          obtain ⟨wo, rfl⟩ : ∃ wo : World, wo = wr := ⟨_, rfl⟩
          by_cases hlt : (k : Int) < many
          · go_wp2_with (at_builtin; refine app1 W.heap.size rfl (.tmp 52) (.tmp 54) 28 3 (.int .i64 0) 8 rfl Tryd.underlying28 info3 rfl (by decide) _ _ _ _ rfl rfl (by simp) rfl HO.out HSZ.out (by omega) ?_; intro v1 w7 ho1 hx1 hb1 hs1; have HO1 := Sid.mk ho1; have HX7 := Sid.mk hx1; clear ho1 hx1 hb1 hs1)
            go_roundw
            case rel => exact ⟨k + 1, by omega, by go_num, ⟨by rw [take_verts2 hlt, List.map_append]; exact HO1.out⟩, ⟨HO.out.step HX.out HX7.out⟩⟩
            case measure => simp [intOf]; omega
          · have hk' : k = many.toNat := by omega
            obtain ⟨Av, cv, rfl⟩ := HO.out.slice
            have HIL : Sid (IntsR .i64 (fun j => W.heap.size ≤ j) wo (.slice Av (vertsL many).length cv) (vertsL many)) := ⟨by
              have h := HO.out
              rw [hk', List.take_of_length_le (by rw [vertsL_len]; omega), ← vertsL_len many] at h
              exact h.ints (by rw [vertsL_len]; omega) (fun j hj => (h.ge j hj).1)⟩
            have hkv : k = (vertsL many).length := by rw [vertsL_len]; exact hk'
            rw [hkv] at hlt ⊢
            have hgm := (HCW.out _ HX.out).1
            have hge := (HCW.out _ HX.out).2
            clear HO hk hk' hkv
            go_wp2
            obtain ⟨mo, hmo⟩ : ∃ mo, mo = moreE es mm := ⟨_, rfl⟩
            obtain ⟨E7, hE7⟩ : ∃ E7, E7 = es ++ [vertsL many] := ⟨_, rfl⟩
            have HE7 := Sid.mk hE7
            have HMO : Sid (mo = E7.map fun e => membersL (ofTo e)) := ⟨by rw [hmo, moreE, hE7, HMM.out]⟩
            have HEL : Sid (E7.length ≤ 1000) := ⟨by rw [hE7]; simp; omega⟩
            rw [← hmo] at HML
            have HSB : Sid (sizesB many E7.length = true) := ⟨by rw [hE7]; simp [sizesB]; omega⟩
            have HVB : Sid (allI (fun _ e => allI (fun _ x => vertB many x) 0 e) 0 E7 = true) := ⟨by
              rw [hE7]
              refine allI_iff.2 fun i e he => allI_iff.2 fun j x hx => ?_
              have hmem := List.mem_of_getElem? he
              have hxm := List.mem_of_getElem? hx
              have hb : 0 ≤ x ∧ x < many := by
                rcases List.mem_append.1 hmem with h | h
                · exact inB_of_many HG1.out h hxm
                · rw [List.mem_singleton.1 h] at hxm
                  exact mem_vertsL.1 hxm
              simp [vertB, hb.1, hb.2]⟩
            have HSE : Sid (smallE E7) := ⟨fun e he => by
              rw [hE7] at he
              rcases List.mem_append.1 he with h | h
              · exact hyperB_small HG1.out e h
              · rw [List.mem_singleton.1 h]
                intro x hx
                have := mem_vertsL.1 hx
                omega⟩
            clear hmo hgm hge hE7
            refine (wpIn_wide (n := 0)).1 ?_
            refine wpIn_slotsB (fun s => { tmps := #[Value.agg #[.int .i64 many, .slice Ae es.length ce], Value.pointer (some ⟨w.heap.size, 0, none⟩), Value.bool false, Value.pointer (some ⟨w2.heap.size, 0, none⟩), Value.bool true, Value.int .i64 nI, s 14, Value.slice Av (vertsL many).length cv, u8, s 12, undef, undef, undef, undef, undef, Value.bool true, Value.bool false, Value.tuple #[.agg #[.int .i64 many, .slice A2 es.length c2], .bool true], Value.agg #[.int .i64 many, .slice Ae es.length ce], Value.tuple #[.agg #[.int .i64 many, .slice A2 es.length c2], .bool true], Value.agg #[.int .i64 many, .slice A2 es.length c2], Value.bool true, Value.bool true, Value.bool false, Value.bool false, Value.agg #[.int .i64 many, .slice A2 es.length c2], Value.int .i64 0, Value.bool false, Value.bool false, Value.tuple #[.int .i64 nI, .int .i64 0], Value.agg #[.int .i64 many, .slice A2 es.length c2], Value.tuple #[.int .i64 nI, .int .i64 0], Value.int .i64 nI, Value.int .i64 0, Value.int .i64 0, Value.bool false, undef, undef, undef, undef, undef, undef, Value.int .i64 nI, Value.bool (decide (nI ≤ 1)), Value.agg #[.int .i64 many, .slice A2 es.length c2], Value.bool (decide (nI ≤ 1)), Value.bool false, Value.pointer (some ⟨w2.heap.size, 0, none⟩), Value.int .i64 many, Value.int .i64 ((vertsL many).length : Int), Value.bool false, u51, u52, u53, u54, u55, u56, s 9, s 0, s 1, s 2, s 3, s 4, s 5, s 6, s 7, s 8, s 10, s 11, undef, undef, undef, undef, undef, undef, undef, undef, undef, undef, undef, undef, undef, undef, undef, undef, undef, undef, undef, undef, undef, undef, undef, undef, undef, undef, undef, undef, undef, undef, undef, undef, undef, undef, undef, undef, undef, undef, undef, undef, undef, undef, undef, undef], defers := [] }) (RgC wo.drew many es (.slice A2 es.length c2) (.slice Av (vertsL many).length cv) w2.heap.size mo (vertsL many)) (fun i => #[undef, undef, undef, undef, undef, undef, undef, undef, undef, undef, undef, undef, undef, undef, .int .i64 0].getD i undef) (by kernel_rfl) (by kernel_rfl) ⟨fun _ _ => rfl, fun _ _ => rfl, fun _ _ => rfl, fun _ _ => rfl, fun _ _ => rfl, fun _ _ => rfl, fun _ _ => rfl, fun _ _ => rfl, fun _ _ => rfl, fun _ _ => rfl, fun _ _ => rfl, fun _ _ => rfl, fun _ _ => rfl, fun _ _ => rfl, fun _ _ => rfl, trivial⟩ ?ha ?h0
              ⟨?s0, ?s1, ?s2, ?s3, ?s4, ?s5, ?s6, ?s7, ?s8, ?s9, ?s10, ?s11, ?s12, ?s13, ?s14, trivial⟩ ?hend
            case ha => rfl
            case h0 => exact RgC.start rfl
            case s0 =>
              rintro s l w' K hl hd hp hK
              have HP := Sid.mk (hp.op0 hl rfl (Ext.refl _ _))
              clear hp hd
              gi_wp2
              exact HP.out
            case s1 =>
              rintro s l w' K hl hd hp hK
              have n13 : l 13 = false := by
                cases hh : l 13 with
                | false => rfl
                | true => have := hp.d13 hh 1 (by decide) (by decide); rw [hl] at this; cases this
              have hx := hp.x n13
              have hxW : Ext No W w' := HX.out.trans ((Ext.refl No wo).drew.trans hx)
              have hcm := (HCW.out _ hxW).1
              have e0 := hp.p0 (hd { on := 0, ground := .data } (by simp) rfl)
              simp only [e0] at hK
              have HP := Sid.mk (hp.op1 hl rfl (Ext.refl _ _))
              clear hp hd hx hxW n13
              gi_wp2
              exact HP.out
            case s2 =>
              rintro s l w' K hl hd hp hK
              have HP := Sid.mk (hp.op2 hl rfl (Ext.refl _ _))
              clear hp hd
              gi_wp2
              exact HP.out
            case s3 =>
              rintro s l w' K hl hd hp hK
              have n13 : l 13 = false := by
                cases hh : l 13 with
                | false => rfl
                | true => have := hp.d13 hh 3 (by decide) (by decide); rw [hl] at this; cases this
              have hx := hp.x n13
              have hxW : Ext No W w' := HX.out.trans ((Ext.refl No wo).drew.trans hx)
              have hcm := (HCW.out _ hxW).2
              have e2 := hp.p2 (hd { on := 2, ground := .data } (by simp) rfl)
              simp only [e2] at hK
              have HP := Sid.mk (hp.op3 hl rfl (Ext.refl _ _))
              clear hp hd hx hxW n13
              gi_wp2
              exact HP.out
            case s4 =>
              rintro s l w' K hl hd hp hK
              have n13 : l 13 = false := by
                cases hh : l 13 with
                | false => rfl
                | true => have := hp.d13 hh 4 (by decide) (by decide); rw [hl] at this; cases this
              have hx := hp.x n13
              have hxW : Ext No W w' := HX.out.trans ((Ext.refl No wo).drew.trans hx)
              have e3 := hp.p3 (hd { on := 3, ground := .data } (by simp) rfl)
              simp only [e3] at hK
              have HXW4 := Sid.mk hxW
              have HPP := Sid.mk hp
              have HL := Sid.mk hl
              have HSW : Sid (wo.heap.size ≤ w'.heap.size) := ⟨by have := hx.size; simpa using this⟩
              clear hp hd hx hxW n13 hl
              gi_wp2_with (refine ⟨trivial, rfl, ?_⟩; gi_at_call 30; refine (callsIn_wide.2 (CloneRows_any _ es _ (HRW.out.no HXW4.out) (by omega))).mono ?_; rintro e wz ⟨vz, rfl, hoz, hxz⟩; have HOZ := Sid.mk hoz; have HXZ := Sid.mk hxz; clear hoz hxz)
              exact HPP.out.op4 HL.out HXZ.out (HOZ.out.weak (by have := HSW.out; simpa using this)) (fun g hg => (HOZ.out.ge g hg).1)
            case s5 =>
              rintro s l w' K hl hd hp hK
              have HP := Sid.mk (hp.op5 hl rfl (Ext.refl _ _))
              clear hp hd
              gi_wp2
              exact HP.out
            case s6 =>
              rintro s l w' K hl hd hp hK
              have n13 : l 13 = false := by
                cases hh : l 13 with
                | false => rfl
                | true => have := hp.d13 hh 6 (by decide) (by decide); rw [hl] at this; cases this
              have hx := hp.x n13
              have hxW : Ext No W w' := HX.out.trans ((Ext.refl No wo).drew.trans hx)
              have e5 := hp.p5 (hd { on := 5, ground := .data } (by simp) rfl)
              simp only [e5] at hK
              have HXW4 := Sid.mk hxW
              have HPP := Sid.mk hp
              have HL := Sid.mk hl
              have HX0 := Sid.mk hx
              clear hp hd hx hxW n13 hl
              gi_wp2
              refine HPP.out.op6 HL.out (g := w'.heap.size) (ext_box _) rfl rfl ((Own.lit1 w' w'.heap.size 28 (.slice Av (vertsL many).length cv) (Nat.le_refl _)).rows (xss := [vertsL many]) (by simp) (fun j hj => Or.inl (by simpa [Value.ownBlock] using hj.symm)) (fun j u xs hu hxs => ?_))
              rcases j with _ | j
              · simp only [List.getElem?_cons_zero, Option.some.injEq] at hu hxs
                subst hu; subst hxs
                exact (((HIL.out.imp (P' := fun j => j = w'.heap.size ∨ j < wo.drew.heap.size) (fun k hk _ => Or.inr hk)).no (Ext.refl No wo).drew).no HX0.out).no (ext_box _)
              · simp at hu
            case s7 =>
              rintro s l w' K hl hd hp hK
              have n13 : l 13 = false := by
                cases hh : l 13 with
                | false => rfl
                | true => have := hp.d13 hh 7 (by decide) (by decide); rw [hl] at this; cases this
              have hx := hp.x n13
              have hxW : Ext No W w' := HX.out.trans ((Ext.refl No wo).drew.trans hx)
              have hl4 := (hd { on := 4, ground := .data } (by simp) rfl)
              have hl6 := (hd { on := 6, ground := .data } (by simp) rfl)
              have ho := hp.q4 hl4 hl
              obtain ⟨g, e6, hgW, hr6, hne⟩ := hp.q6 hl6 hl
              obtain ⟨v4, hv4⟩ : ∃ v4, s 4 = v4 := ⟨_, rfl⟩
              rw [hv4] at ho
              rw [e6] at hr6
              refine appRowIn (P := fun _ => True) wo.drew.heap.size (.tmp 62) (.tmp 64) 22 rfl Tryd.underlying22 info28 v4 es (vertsL many) hv4 ⟨g, 0, none⟩ 1 e6 ho (hr6.imp (fun k _ hk => ⟨trivial, fun he => by
                rcases hk with rfl | hk
                · exact hne hl4 (by rw [hv4]; exact he.symm)
                · have := (ho.ge k he.symm).1; omega⟩)) hx.size (by omega) ?_
              intro v1 w1 ho1 hx1 hb1 hs1
              exact hK v1 w1 (hp.op7 hl hl4 (by rw [hv4]; exact hx1) (ho1.rows (by simp; omega) (fun _ _ => trivial) (fun _ _ => trivial)))
            case s8 =>
              rintro s l w' K hl hd hp hK
              have n13 : l 13 = false := by
                cases hh : l 13 with
                | false => rfl
                | true => have := hp.d13 hh 8 (by decide) (by decide); rw [hl] at this; cases this
              have hx := hp.x n13
              have hxW : Ext No W w' := HX.out.trans ((Ext.refl No wo).drew.trans hx)
              have hl7 := (hd { on := 7, ground := .data } (by simp) rfl)
              have e1 := hp.p1 (hd { on := 1, ground := .data } (by simp) rfl)
              have hr7 := hp.q7 hl7 hl
              rw [← HE7.out] at hr7
              obtain ⟨A7, c7, e7, _⟩ := hr7.at
              rw [e7] at hr7
              simp only [e1, e7] at hK
              have HR7 := Sid.mk hr7
              have HXW4 := Sid.mk hxW
              have HPP := Sid.mk hp
              have HL := Sid.mk hl
              have HL7 := Sid.mk hl7
              clear hp hd hx hxW n13 hl hr7 hl7
              gi_wp2_with (refine ⟨trivial, rfl, ?_⟩; gi_at_call 29; refine (callsIn_wide.2 (hyperOf_any many _ E7 _ HR7.out HSB.out HVB.out HSE.out HEL.out (HT.out.no (HXW.out.trans HXW4.out)))).mono ?_; rintro e wz ⟨vz, rfl, hrz, hxz⟩; have HRZ := Sid.mk hrz; have HXZ := Sid.mk hxz; clear hrz hxz)
              exact HPP.out.op8 HL.out HL7.out HXZ.out rfl (HMO.out ▸ HRZ.out)
            case s9 =>
              rintro s l w' K hl hd hp hK
              have HP := Sid.mk (hp.op9 hl (hd { on := 8, ground := .data } (by simp) rfl) rfl (Ext.refl _ _))
              clear hp hd
              gi_wp2
              exact HP.out
            case s10 =>
              rintro s l w' K hl hd hp hK
              have n13 : l 13 = false := by
                cases hh : l 13 with
                | false => rfl
                | true => have := hp.d13 hh 10 (by decide) (by decide); rw [hl] at this; cases this
              have hx := hp.x n13
              have hxW : Ext No W w' := HX.out.trans ((Ext.refl No wo).drew.trans hx)
              have hl9 := (hd { on := 9, ground := .data } (by simp) rfl)
              have hl8 := hp.d9 hl9
              obtain ⟨v8, e8, _⟩ := hp.q8 hl8 n13
              have e9 : s 9 = .tuple #[.agg #[.int .i64 many, v8], .int .i64 0] := (hp.q9 hl9).trans e8
              simp only [e9] at hK
              have HP := Sid.mk (hp.op10 hl hl8 (v := .agg #[.int .i64 many, v8]) (fun v' hv' => by rw [e8] at hv'; simp only [tupV, Value.tuple.injEq, Array.mk.injEq, List.cons.injEq, Value.agg.injEq, and_true, true_and] at hv'; rw [hv']) (Ext.refl _ _))
              clear hp hd hx hxW n13 e8
              gi_wp2
              exact HP.out
            case s11 =>
              rintro s l w' K hl hd hp hK
              have hl9 := (hd { on := 9, ground := .data } (by simp) rfl)
              have hl8 := hp.d9 hl9
              obtain ⟨v8, e8⟩ := hp.r8 hl8
              have e9 : s 9 = .tuple #[.agg #[.int .i64 many, v8], .int .i64 0] := (hp.q9 hl9).trans e8
              simp only [e9] at hK
              have HP := Sid.mk (hp.op11 (v := .int .i64 0) rfl)
              clear hp hd e8
              gi_wp2
              exact HP.out
            case s12 =>
              rintro s l w' K hl hd hp hK
              have HP := Sid.mk (hp.op12 hl (b := w'.heap.size) rfl rfl (ext_box (.cells #[.int .i64 0, .slice none 0 0] 24)) (World.alloc_heap_new w' _))
              clear hp hd
              gi_wp2
              exact HP.out
            case s13 =>
              rintro s l w' K hl hd hp hK
              have hall : ∀ j, j < 13 → j ≠ 11 → l j = true := by
                intro j hj hn
                rcases (by omega : j = 0 ∨ j = 1 ∨ j = 2 ∨ j = 3 ∨ j = 4 ∨ j = 5 ∨ j = 6 ∨ j = 7 ∨ j = 8 ∨ j = 9 ∨ j = 10 ∨ j = 12) with rfl | rfl | rfl | rfl | rfl | rfl | rfl | rfl | rfl | rfl | rfl | rfl
                · first | exact hd { on := 0, ground := .phase } (by simp) rfl | exact hd { on := 0, ground := .data } (by simp) rfl
                · first | exact hd { on := 1, ground := .phase } (by simp) rfl | exact hd { on := 1, ground := .data } (by simp) rfl
                · first | exact hd { on := 2, ground := .phase } (by simp) rfl | exact hd { on := 2, ground := .data } (by simp) rfl
                · first | exact hd { on := 3, ground := .phase } (by simp) rfl | exact hd { on := 3, ground := .data } (by simp) rfl
                · first | exact hd { on := 4, ground := .phase } (by simp) rfl | exact hd { on := 4, ground := .data } (by simp) rfl
                · first | exact hd { on := 5, ground := .phase } (by simp) rfl | exact hd { on := 5, ground := .data } (by simp) rfl
                · first | exact hd { on := 6, ground := .phase } (by simp) rfl | exact hd { on := 6, ground := .data } (by simp) rfl
                · first | exact hd { on := 7, ground := .phase } (by simp) rfl | exact hd { on := 7, ground := .data } (by simp) rfl
                · first | exact hd { on := 8, ground := .phase } (by simp) rfl | exact hd { on := 8, ground := .data } (by simp) rfl
                · first | exact hd { on := 9, ground := .phase } (by simp) rfl | exact hd { on := 9, ground := .data } (by simp) rfl
                · first | exact hd { on := 10, ground := .phase } (by simp) rfl | exact hd { on := 10, ground := .data } (by simp) rfl
                · first | exact hd { on := 12, ground := .phase } (by simp) rfl | exact hd { on := 12, ground := .data } (by simp) rfl
              obtain ⟨b, e12, hbW, hbc⟩ := hp.q12 (hall 12 (by decide) (by decide)) hl
              obtain ⟨v8, e8, hr8⟩ := hp.q8 (hall 8 (by decide) (by decide)) hl
              have e10 : s 10 = .agg #[.int .i64 many, v8] := hp.q10 (hall 10 (by decide) (by decide)) v8 e8
              obtain ⟨A8, c8, rfl, _⟩ := hr8.at
              simp only [e12, e10] at hK
              have hz0 : w'.cell? ⟨b, 0, none⟩ = some (.int .i64 0) := by simp [World.cell?, hbc]
              have hz1 : w'.cell? ⟨b, 1, none⟩ = some (.slice none 0 0) := by simp [World.cell?, hbc]
              have hz2 : w'.frozen? ⟨b, 0, none⟩ = false := by simp [World.frozen?, hbc]
              have hz3 : w'.frozen? ⟨b, 1, none⟩ = false := by simp [World.frozen?, hbc]
              have hxs : Ext (fun k => k = b) w' ((w'.setCell ⟨b, 0, none⟩ (.int .i64 many)).setCell ⟨b, 1, none⟩ (.slice A8 mo.length c8)) := ((Ext.refl (fun k => k = b) w').setCell (p := ⟨b, 0, none⟩) (Or.inl rfl) _).setCell (p := ⟨b, 1, none⟩) (Or.inl rfl) _
              have HP := Sid.mk (hp.op13 hl hall (v := undef) e12 e8 hxs (by rw [World.cell?_setCell_other _ _ _ _ (by simp)]; exact World.cell?_setCell_same' _ _ _ (by rw [hz0]; rfl)) (World.cell?_setCell_same' _ _ _ (by rw [World.cell?_setCell_other _ _ _ _ (by simp), hz1]; rfl)))
              clear hp hd hall hbc hr8 hxs e8
              gi_wp2
              exact hK undef _ HP.out
            case s14 =>
              rintro s l w' K hl hd hp hK
              have hl13 := hd { on := 13, ground := .chain } (by simp) rfl
              have e11 := hp.p11 (hd { on := 11, ground := .data } (by simp) rfl)
              simp only [e11] at hK
              have HP := Sid.mk (hp.op14 hl13 (v := .int .i64 0) rfl)
              clear hp hd
              gi_wp2
              exact HP.out
            case hend =>
              intro s l wz hl hp
              obtain ⟨b, v8, e12, hxz, hb0, hb1, hr8⟩ := hp.q13 (hl 13 (by decide))
              have e14 := hp.p14
              obtain ⟨A8, c8, rfl, _⟩ := hr8.at
              have HXZ : Sid (Ext No W wz) := ⟨HX.out.trans ((Ext.refl No wo).drew.trans hxz)⟩
              have HR8 := Sid.mk hr8
              have HIZ : Sid (IntsR .i64 (fun j => W.heap.size ≤ j) wz (.slice Av (vertsL many).length cv) (vertsL many)) := ⟨HIL.out.no ((Ext.refl No wo).drew.trans hxz)⟩
              rw [e12, e14]
              clear hp hl hxz hr8 e12 e14
              dsimp only
              simp only [Exit.then]
              apply_assumption
              go_wp2_with (first
                | (go_at_call 16; refine (Least_any many _ mo _ HR8.out (by omega) (HT.out.no (HXW.out.trans HXZ.out))).mono ?_; rintro e wa ⟨rfl, hxa⟩; rw [HML.out]; have hg0 := (HCW.out _ (HXZ.out.trans hxa)).1; have hg1 := (HCW.out _ (HXZ.out.trans hxa)).2; have HXA := Sid.mk hxa; clear hxa)
                | (go_at_call 11; refine (Cover_any many _ _ es (vertsL many) _ (HRW.out.no (HXZ.out.trans HXA.out)) (HIZ.out.no HXA.out)).mono ?_; rintro e wb ⟨vr, rfl, hr, hxb⟩; rw [HCA.out] at hr ⊢; simp only [rowO] at hr; obtain ⟨Ar, cr, rfl, _⟩ := hr.at; have hg2 := (HCW.out _ (HXZ.out.trans (HXA.out.trans hxb))).1; have hg3 := (HCW.out _ (HXZ.out.trans (HXA.out.trans hxb))).2; have hg4 := (HCW.out _ ((HXZ.out.trans (HXA.out.trans hxb)).trans (ext_box (.cells #[.slice Av (vertsL many).length cv, .slice Ar cov.length cr, .int .i64 (-1)] 51)))).1; have hg5 := (HCW.out _ ((HXZ.out.trans (HXA.out.trans hxb)).trans (ext_box (.cells #[.slice Av (vertsL many).length cv, .slice Ar cov.length cr, .int .i64 (-1)] 51)))).2; have HRC := Sid.mk hr; have HXB := Sid.mk hxb; clear hxb hr)
                | (go_at_call 23; refine (Check_any many _ _ es [⟨vertsL many, cov, -1⟩] _ (HRW.out.no ((HXZ.out.trans (HXA.out.trans HXB.out)).trans (ext_box _))) (bagsR_box (P := fun _ => True) (World.alloc_heap_new _ _) ((HIZ.out.no ((HXA.out.trans HXB.out).trans (ext_box _))).imp (fun _ _ _ => trivial)) ((HRC.out.no (ext_box _)).imp (fun _ _ _ => trivial)) trivial)).mono ?_; rintro e wd ⟨rfl, hxd⟩; rw [HON.out]; have HXD := Sid.mk hxd; clear hxd)
                | fail)
              all_goals first
                | (exfalso; have := HNC.out; have := HNI.out; omega)
                | skip
              go_ret
              exact ⟨rfl, HXW.out.trans (HXZ.out.trans ((HXA.out.trans HXB.out).trans ((ext_box _).trans HXD.out)))⟩
end Go.Proofs.YtceiaekkfabeaaaDoor
