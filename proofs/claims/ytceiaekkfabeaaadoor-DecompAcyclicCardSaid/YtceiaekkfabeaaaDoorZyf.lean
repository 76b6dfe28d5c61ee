/- Words and contracts for: DecompAcyclic: for every hypergraph the law answers true, and its arguments read as before. No condition; the library's table math/bits.deBruijn64tab is laid by its text. -/
import Derived.Test.YtceiaekkfabeaaaDoorZye
namespace Go.Proofs.YtceiaekkfabeaaaDoor
open Go.RowKit Pl

set_option maxHeartbeats 800000 in
theorem check1_any {P : Nat → Prop} (i many : Int) (B : Nat) (v : Value) (xs : List Int) (w : World) (hv : IntsR .i64 P w v xs) (hb : w.cell? ⟨B, 0, none⟩ = some (.int .i64 many)) :
    Calls Tryd.prog 61 #[.int .i64 i, v, .pointer (some ⟨B, 0, none⟩)] w fun e w' => e = .returned (.bool (risesB xs many)) ∧ Ext No w w' := by
  have HV := Sid.mk (hv.no (ext_box (.cells #[v] 28)))
  obtain ⟨A, c, rfl, hc, hm, _⟩ := hv.at
  clear hv
  have HB : Sid ((w.alloc (.cells #[.slice A xs.length c] 28)).cell? ⟨w.heap.size, 0, none⟩ = some (.slice A xs.length c)) := ⟨by simp⟩
  have hba := fun o => (ext_box (w := w) o).no hb
  have hcell := HB.out
  cases hg1 : allI (fun _ x => vertB many x) 0 xs with
  | false =>
    have G1 := Sid.mk hg1
    clear hg1
    go_enter Tryd.func61, Tryd.ntmps61
    go_wp2_with (go_at_call 62; refine (vertices_any _ xs many _ HV.out).mono ?_; rintro e w1 ⟨rfl, hx1⟩; rw [G1.out]; have HX1 := Sid.mk hx1; clear hx1)
    go_ret
    exact ⟨ret_bool (by rw [risesB_eq, G1.out]; rfl), (ext_box _).trans HX1.out⟩
  | true =>
    have G1 := Sid.mk hg1
    clear hg1
    go_enter Tryd.func61, Tryd.ntmps61
    go_wp2_with (first | (go_at_call 62; refine (vertices_any _ xs many _ HV.out).mono ?_; rintro e w1 ⟨rfl, hx1⟩; rw [G1.out]; have hcell1 := hx1.no hcell; have HX1 := Sid.mk hx1; clear hx1) | (go_at_call 63; refine (allInts_any 64 enters64 #[.pointer (some ⟨w.heap.size, 0, none⟩)] (precB xs) _ xs _ (HV.out.no HX1.out) ?hf).mono ?_; (case hf => exact fun i x wx hwx hix => prec_any i x _ _ xs wx (HV.out.no (HX1.out.trans hwx)) (hwx.no (HX1.out.no HB.out)) (List.getElem?_eq_some_iff.1 hix).1); rintro e w2 ⟨rfl, hx2⟩; have HX2 := Sid.mk hx2; clear hx2))
    go_ret
    exact ⟨ret_bool (by rw [risesB_eq, G1.out]; rfl), ((ext_box _).trans HX1.out).trans HX2.out⟩

/-- Error numbers. -/
def hyperE (many : Int) (es : List (List Int)) : Int := if hyperB many es = true then 0 else 300
theorem hyperB_eq (many : Int) (es : List (List Int)) : hyperB many es = (sizesB many es.length && allI (fun _ e => risesB e many) 0 es) := by
  have h : decide ((es.length : Int) ≤ 40) = decide (es.length ≤ 40) := decide_eq_decide.2 (by omega)
  rw [allI_const]; simp [hyperB, sizesB, Bool.and_assoc, h]

set_option maxHeartbeats 800000 in
theorem hyperCheck_any {P : Nat → Prop} (many : Int) (ev : Value) (es : List (List Int)) (w : World) (he : RowsR P w ev es) :
    Calls Tryd.prog 27 #[.agg #[.int .i64 many, ev]] w fun e w' => e = .returned (.int .i64 (hyperE many es)) ∧ Ext No w w' := by
  have HV := Sid.mk (he.no (ext_box (.cells #[.int .i64 many, ev] 24)))
  obtain ⟨A, c, rfl, hc, hm, _⟩ := he.at
  clear he
  have HB : Sid ((w.alloc (.cells #[.int .i64 many, .slice A es.length c] 24)).cell? ⟨w.heap.size, 0, none⟩ = some (.int .i64 many)) := ⟨by simp⟩
  cases hg1 : sizesB many es.length with
  | false =>
    have G1 := Sid.mk hg1
    clear hg1
    go_enter Tryd.func27, Tryd.ntmps27
    go_wp2_with (go_at_call 59; refine (sizes_any many es.length _).mono ?_; rintro e w1 ⟨rfl, rfl⟩; rw [G1.out])
    go_ret
    exact ⟨ret_int (by simp [hyperE, hyperB_eq, G1.out]), ext_box _⟩
  | true =>
    have G1 := Sid.mk hg1
    clear hg1
    cases hg2 : allI (fun _ e => risesB e many) 0 es with
    | false =>
      have G2 := Sid.mk hg2
      clear hg2
      go_enter Tryd.func27, Tryd.ntmps27
      go_wp2_with (first | (go_at_call 59; refine (sizes_any many es.length _).mono ?_; rintro e w1 ⟨rfl, rfl⟩; rw [G1.out]) | (go_at_call 60; refine (allRows_any 61 enters61 #[.pointer (some ⟨w.heap.size, 0, none⟩)] (fun _ e => risesB e many) _ es _ HV.out ?hf).mono ?_; (case hf => exact fun i u x wx hwx _ hu => check1_any i many _ u x wx hu (hwx.no HB.out)); rintro e w2 ⟨rfl, hx2⟩; rw [G2.out]; have HX2 := Sid.mk hx2; clear hx2))
      go_ret
      exact ⟨ret_int (by simp [hyperE, hyperB_eq, G1.out, G2.out]), (ext_box _).trans HX2.out⟩
    | true =>
      have G2 := Sid.mk hg2
      clear hg2
      go_enter Tryd.func27, Tryd.ntmps27
      go_wp2_with (first | (go_at_call 59; refine (sizes_any many es.length _).mono ?_; rintro e w1 ⟨rfl, rfl⟩; rw [G1.out]) | (go_at_call 60; refine (allRows_any 61 enters61 #[.pointer (some ⟨w.heap.size, 0, none⟩)] (fun _ e => risesB e many) _ es _ HV.out ?hf).mono ?_; (case hf => exact fun i u x wx hwx _ hu => check1_any i many _ u x wx hu (hwx.no HB.out)); rintro e w2 ⟨rfl, hx2⟩; rw [G2.out]; have HX2 := Sid.mk hx2; clear hx2))
      go_ret
      exact ⟨ret_int (by simp [hyperE, hyperB_eq, G1.out, G2.out]), (ext_box _).trans HX2.out⟩
end Go.Proofs.YtceiaekkfabeaaaDoor

/- The walk over hyper.Parts. -/
namespace Go.Proofs.YtceiaekkfabeaaaDoor
open Go.RowKit Go.Shelf Pl

theorem and_pow_u64 {a v : Nat} (ha : a < 4294967296) (hv : v < 32) : (bits .and .u64 (a : Int) ((2 ^ v : Nat) : Int) != 0) = a.testBit v := by
  rw [and_u64 ha (pow_lt_32 hv)]
  cases h : a.testBit v with
  | true =>
    have : a &&& 2 ^ v ≠ 0 := fun h0 => by
      have := congrArg (fun x => x.testBit v) h0
      simp [h] at this
    simp only [bne_iff_ne, ne_eq]; omega
  | false =>
    have : a &&& 2 ^ v = 0 := Nat.eq_of_testBit_eq fun i => by
      rw [Nat.testBit_and, Nat.testBit_two_pow, Nat.zero_testBit]
      by_cases hi : v = i
      · subst hi; simp [h]
      · simp [hi]
    rw [this]; rfl
theorem meets_u64 {p s : Nat} (hp : p < 4294967296) (hs : s < 4294967296) : meetsB p s = ((bits .and .u64 (s : Int) (p : Int) != 0) && (bits .andNot .u64 (s : Int) (p : Int) != 0)) := by
  rw [and_u64 hs hp, andNot_u64 hs hp, meetsB]
  have : ∀ n : Nat, (n != 0) = ((n : Int) != 0) := fun n => by
    cases n with
    | zero => rfl
    | succ n => simp; omega
  rw [this, this]

theorem find_first {α : Type} {f : α → Bool} : ∀ {l : List α} {j : Nat} {x : α}, l[j]? = some x → f x = true → (∀ i y, i < j → l[i]? = some y → f y = false) → l.find? f = some x
  | [], j, x, hx, _, _ => by simp at hx
  | y :: l, 0, x, hx, hf, _ => by simp at hx; subst hx; simp [hf]
  | y :: l, j + 1, x, hx, hf, h => by
    rw [List.find?_cons, h 0 y (by omega) rfl]
    exact find_first (j := j) (by simpa using hx) hf (fun i z hi hz => h (i + 1) z (by omega) (by simpa using hz))
theorem find_no {α : Type} {f : α → Bool} {l : List α} (h : ∀ (i : Nat) y, l[i]? = some y → f y = false) : l.find? f = none := by
  rw [List.find?_eq_none]
  intro x hx
  obtain ⟨i, hi⟩ := List.mem_iff_getElem?.1 hx
  simp [h i x hi]

/-- The label of a scope is come to; what stands behind it is walked once. -/
theorem wp_scope_label {P : Program} {c rest : Code} {Q : Exit → Act → World → Prop} {a : Act} {w : World} (l : Nat) (J : Act → World → Prop) (μ : Act → World → Nat) (hf : findLabel c l = some (Code.skip.seq rest))
    (first : (∀ a w, J a w → rest.wp P (Exit.jump l J Q) a w) → c.wp P (Exit.jump l J Q) a w)
    (pass : ∀ a w, J a w → rest.wp P (Exit.jump l (fun a' w' => J a' w' ∧ μ a' w' < μ a w) Q) a w) : (Code.scope c).wp P Q a w := by
  refine wp_scope_jumps l J μ hf (first fun a w h => wp_mono (pass a w h) ?_) (fun a w h => wp_seq (wp_skip (pass a w h)))
  intro e a' w' hq
  cases e with
  | goto l' =>
    obtain ⟨h1, h2, _⟩ := hq
    exact ⟨h1, h2⟩
  | _ => exact hq

set_option maxHeartbeats 1000000 in
set_option maxRecDepth 100000 in
theorem parts_any {P : Nat → Prop} (many : Int) (ev : Value) (es : List (List Int)) (w : World) (he : RowsR P w ev es) (hh : hyperB many es = true) (hT : TabW w) :
    Calls Tryd.prog 43 #[.agg #[.int .i64 many, ev]] w fun e w' => ∃ v', e = .returned v' ∧ RowsR (fun k => w.heap.size ≤ k) w' v' ((partsL (es.map ofTo) many.toNat).map membersL) ∧ Ext No w w' := by
  obtain ⟨A, c, rfl, hc, hm, hat⟩ := he.at
  obtain ⟨hp1, hp2, hp3, hp4⟩ := hyperB_parts hh
  have HSM : Sid (smallE es) := ⟨hyperB_small hh⟩
  have HSS : Sid (smallS (es.map ofTo)) := ⟨smallS_of HSM.out⟩
  have hce1 : hyperE many es = 0 := by simp [hyperE, hh]
  have HE := Sid.mk he
  have HT := Sid.mk hT
  clear hat he hT hh
  obtain ⟨mm, rfl⟩ := Int.eq_ofNat_of_zero_le hp1
  rw [Int.toNat_natCast]
  have HB0 : Sid (∀ w', Ext No (w.alloc (.cells #[.int .i64 (mm : Int), .slice A es.length c] 24)) w' → w'.cell? ⟨w.heap.size, 0, none⟩ = some (.int .i64 (mm : Int)) ∧ w'.cell? ⟨w.heap.size, 1, none⟩ = some (.slice A es.length c)) := ⟨fun w' hx => ⟨hx.no (by simp), hx.no (by simp)⟩⟩
  go_enter Tryd.func43, Tryd.ntmps43
  go_wp2_with (go_at_call 27; refine (hyperCheck_any (mm : Int) _ es _ (HE.out.no (ext_box _))).mono ?_; rintro e w1 ⟨rfl, hx1⟩; rw [hce1]; have h0 := (HB0.out _ hx1).1; have h1 := (HB0.out _ hx1).2; have HX1 := Sid.mk hx1; clear hx1)
  obtain ⟨w0, hw0⟩ : ∃ w0 : World, w0 = w1 := ⟨_, rfl⟩
  rw [← hw0] at h0 h1 ⊢
  have HX0 : Sid (Ext No (w.alloc (.cells #[.int .i64 (mm : Int), .slice A es.length c] 24)) w0) := ⟨hw0 ▸ HX1.out⟩
  clear HX1
  clear hw0
  have HC0 := Sid.mk h0
  have HC1 := Sid.mk h1
  clear h0 h1
  go_loopw [3, 4, 14] (fun v m i wr => ∃ k mt : Nat, k ≤ mm ∧ i = .int .i64 (k : Int) ∧ m = .int .u64 (mt : Int) ∧ mt < 4294967296 ∧ Sid (mt = (partsF (es.map ofTo) k).2) ∧ Sid (OwnRows (fun k => w.heap.size ≤ k) w0.heap.size wr v ((partsL (es.map ofTo) k).map membersL)) ∧ Sid (Ext No w0 wr)) (fun _ _ i _ => mm - (intOf i).toNat)
  case atStart => exact ⟨0, 0, Nat.zero_le _, rfl, rfl, by omega, ⟨rfl⟩, ⟨OwnRows.nil _ _ _⟩, ⟨Ext.refl _ _⟩⟩
  case round =>
    obtain ⟨k, mt, hk, rfl, rfl, hmt, HMT, HO, HX⟩ := hrel
    obtain ⟨wo, rfl⟩ : ∃ wo : World, wo = wr := ⟨_, rfl⟩
    by_cases hlt : k < mm
    · obtain ⟨q, hq⟩ : ∃ q : Nat, q = 2 ^ k := ⟨_, rfl⟩
      have hand := and_pow_u64 hmt (show k < 32 by omega)
      rw [← hq] at hand
      have HQ := Sid.mk hq

      have HSK : Sid (smallL [(k : Int)]) := ⟨by intro x hx; simp at hx; omega⟩
      have HOF2 : Sid (∀ (W : World) (b : Nat), b = W.heap.size → Calls Tryd.prog 67 #[.slice (some ⟨b, 0, none⟩) 1 1] (W.alloc (.cells #[.int .i64 (k : Int)] 3)) fun e w' => e = .returned (.int .u64 (q : Int)) ∧ W.alloc (.cells #[.int .i64 (k : Int)] 3) = w') := ⟨fun W b hb => by subst hb; have := hof_any _ [(k : Int)] _ (ints_own (P := fun _ => True) (xs := [(k : Int)]) (Own.lit1 W 0 3 _ (Nat.zero_le _)) (by simp) (fun _ _ => trivial)) HSK.out; rwa [ofTo_one, ← HQ.out] at this⟩
      clear hq
      have hsz0 : Sid (w.heap.size < wo.heap.size) := ⟨by have h1 := HX0.out.size; have h2 := HX.out.size; simp at h1; omega⟩
      go_wp2
      obtain ⟨J, hJ⟩ : ∃ J : Act → World → Prop, J = (fun a' w' => ∃ (p n : Nat) (u8 u17 u18 u19 u20 u21 u22 u23 u24 u25 u26 u27 u28 u29 u30 u31 u32 u33 u34 u35 u36 u37 u38 u39 u40 u41 u42 u43 u44 u45 u46 u47 u48 u49 u50 u51 u52 u53 u54 u55 u56 : Value), a' = { tmps := #[Value.agg #[Value.int IntKind.i64 (mm : Int), Value.slice A es.length c], Value.pointer (some { block := w.heap.size, off := 0 }), Value.slice none 0 0, u3, Value.int IntKind.u64 (mt : Int), Value.int IntKind.i64 (k : Int), Value.int IntKind.u64 (p : Int), undef, u8, Value.agg #[Value.int IntKind.i64 (mm : Int), Value.slice A es.length c], Value.int IntKind.i64 0, Value.bool false, Value.pointer (some { block := w.heap.size, off := 0 }), Value.int IntKind.i64 (mm : Int), Value.int IntKind.i64 (k : Int), Value.bool true, Value.int IntKind.i64 (k : Int), u17, u18, u19, u20, u21, u22, u23, u24, u25, u26, u27, u28, u29, u30, u31, u32, u33, u34, u35, u36, u37, u38, u39, u40, u41, u42, u43, u44, u45, u46, u47, u48, u49, u50, u51, u52, u53, u54, u55, u56, undef], defers := [] } ∧ p < 4294967296 ∧ Sid (growF (es.map ofTo) n p = growX (es.map ofTo) (2 ^ k)) ∧ Sid (33 ≤ (membersN p).length + n) ∧ Sid (mt.testBit k = false) ∧ Sid (Ext No wo w')) := ⟨_, rfl⟩
      have HJ := Sid.mk hJ
      clear hJ
      refine wp_scope_label 0 J (fun a' _ => 64 - (membersN (intOf (a'.tmps.getD 6 undef)).toNat).length) rfl ?_ ?_
      · intro hlab
        cases htb : mt.testBit k with
        | true =>
          rw [htb] at hand
          go_wp2_with (go_at_call 67; refine (HOF2.out _ _ (by simp)).mono ?_; rintro e w2 ⟨rfl, rfl⟩)
          apply_assumption
          go_wp2
          go_roundw
          case rel => exact ⟨k + 1, mt, by omega, by go_num, rfl, hmt, ⟨by rw [partsF_succ, ← HMT.out, htb, if_pos rfl]; exact HMT.out⟩, ⟨by rw [partsL, partsF_succ, ← HMT.out, htb, if_pos rfl]; exact HO.out.no ((ext_box _))⟩, ⟨HX.out.alloc _⟩⟩
          case measure => simp [intOf]; omega
        | false =>
          rw [htb] at hand
          go_wp2_with (go_at_call 67; refine (HOF2.out _ _ (by simp)).mono ?_; rintro e w2 ⟨rfl, rfl⟩)
          refine wp_label ?_
          simp only [Exit.then]
          apply_assumption
          refine hlab _ _ ?_
          rw [HJ.out]
          exact ⟨q, 32, _, _, _, _, _, _, _, _, _, _, _, _, _, _, _, _, _, _, _, _, _, _, _, _, _, _, _, _, _, _, _, _, _, _, _, _, _, _, _, _, _, rfl, HQ.out ▸ pow_lt_32 (by omega), ⟨by rw [HQ.out]; exact (growX_eq _ _).symm⟩, ⟨by rw [HQ.out]; have := members_pow_len (v := k) (by omega); omega⟩, ⟨htb⟩, ⟨((Ext.refl No wo).alloc _).alloc _⟩⟩
      · intro a' w' hj
        rw [HJ.out] at hj
        obtain ⟨p, n, u8, u17, u18, u19, u20, u21, u22, u23, u24, u25, u26, u27, u28, u29, u30, u31, u32, u33, u34, u35, u36, u37, u38, u39, u40, u41, u42, u43, u44, u45, u46, u47, u48, u49, u50, u51, u52, u53, u54, u55, u56, rfl, hpl, HG, HN, HTB, HXP⟩ := hj
        obtain ⟨wp, rfl⟩ : ∃ wp : World, wp = w' := ⟨_, rfl⟩
        have hq0 := (HX.out.trans HXP.out).no HC0.out
        have hq1 := (HX.out.trans HXP.out).no HC1.out
        have HW : Sid (Ext No w wp) := ⟨(ext_box _).trans (HX0.out.trans (HX.out.trans HXP.out))⟩
        go_wp2_with (go_at_call 74; refine (sets_any (mm : Int) _ es _ (HE.out.no HW.out) HSM.out (by omega)).mono ?_; rintro e w6 ⟨v6, rfl, hr6, hx6⟩; obtain ⟨A6, c6, rfl, _⟩ := hr6.at; rw [natsI_len, List.length_map] at hr6 ⊢; have HR6 := Sid.mk hr6; have HX6 := Sid.mk hx6; clear hr6 hx6)
        obtain ⟨_, hs6⟩ := SetsR_at HR6.out
        have HS6 := Sid.mk hs6
        clear hs6
        go_loopw [6, 29] (fun pv i wr => ∃ j : Nat, j ≤ es.length ∧ i = .int .i64 (j : Int) ∧ pv = .int .u64 (p : Int) ∧ Sid (∀ i x, i < j → (es.map ofTo)[i]? = some x → meetsB p x = false) ∧ Sid (Ext No w6 wr)) (fun _ i _ => es.length - (intOf i).toNat)
        case atStart => exact ⟨0, Nat.zero_le _, rfl, rfl, ⟨fun i x hi => by omega⟩, ⟨Ext.refl _ _⟩⟩
        case round =>
          obtain ⟨j, hj, rfl, rfl, HNM, HX7⟩ := hrel
          by_cases hjl : j < es.length
          · obtain ⟨b6, off6, s6, rfl, _, hc6, HC6⟩ := HS6.out j (by simpa using hjl)
            have hr6 := HX7.out.no hc6
            have hs6 : s6 < 4294967296 := HSS.out s6 (List.mem_of_getElem? HC6.out)
            have hme := meets_u64 hpl hs6
            clear hc6
            cases hm1 : (bits .and .u64 (s6 : Int) (p : Int) != 0) with
            | false =>
              rw [hm1, Bool.false_and] at hme
              have HME := Sid.mk hme
              clear hme
              go_wp2
              go_roundw
              case rel => exact ⟨j + 1, by omega, by go_num, rfl, ⟨fun i x hi hx => by
                by_cases hij : i = j
                · subst hij; rw [HC6.out] at hx; cases hx; exact HME.out
                · exact HNM.out i x (by omega) hx⟩, HX7⟩
              case measure => simp [intOf]; omega
            | true =>
              cases hm2 : (bits .andNot .u64 (s6 : Int) (p : Int) != 0) with
              | false =>
                rw [hm1, hm2] at hme
                have HME : Sid (meetsB p s6 = false) := ⟨hme⟩
                clear hme
                go_wp2
                go_roundw
                case rel => exact ⟨j + 1, by omega, by go_num, rfl, ⟨fun i x hi hx => by
                  by_cases hij : i = j
                  · subst hij; rw [HC6.out] at hx; cases hx; exact HME.out
                  · exact HNM.out i x (by omega) hx⟩, HX7⟩
                case measure => simp [intOf]; omega
              | true =>
                rw [hm1, hm2] at hme
                have HME : Sid (meetsB p s6 = true) := ⟨hme⟩
                clear hme
                have hor := or_u64 hpl hs6
                go_wp2
                go_step3
                refine ⟨rfl, HJ.out ▸ ⟨p ||| s6, n - 1, _, _, _, _, _, _, _, _, _, _, _, _, _, _, _, _, _, _, _, _, _, _, _, _, _, _, _, _, _, _, _, _, _, _, _, _, _, _, _, _, _, rfl, or_lt hpl hs6, ?_, ?_, HTB, ⟨HXP.out.trans (HX6.out.trans HX7.out)⟩⟩, ?_⟩
                · exact ⟨by
                    have h1 := members_or_len hs6 HME.out
                    have h2 := membersN_len p
                    have h3 := HN.out
                    rw [← HG.out, show n = (n - 1) + 1 by omega, growF_some (find_first HC6.out HME.out HNM.out)]; rfl⟩
                · exact ⟨by
                    have h1 := members_or_len hs6 HME.out
                    have h3 := HN.out
                    omega⟩
                · have h1 := members_or_len hs6 HME.out
                  have h2 := membersN_len (p ||| s6)
                  simp [intOf]; omega
          · obtain rfl : j = es.length := by omega
            have HFX : Sid (growX (es.map ofTo) q = p) := ⟨by
              rw [HQ.out, ← HG.out]
              exact growF_none (find_no fun i x hx => HNM.out i x (by have := (List.getElem?_eq_some_iff.1 hx).1; simpa using this) hx) n⟩
            have hor := or_u64 hmt hpl
            have HWR : Sid (Ext No wo wr) := ⟨HXP.out.trans (HX6.out.trans HX7.out)⟩
            have HTW : Sid (TabW wr) := ⟨HT.out.no (((ext_box _).trans HX0.out).trans (HX.out.trans HWR.out))⟩
            have HB0' : Sid (wr.heap.size ≠ 0) := ⟨by have := HWR.out.size; have := hsz0.out; omega⟩
            go_wp2_with (first | (go_at_call 68; refine (each_any _ _).mono ?_; rintro e w8 ⟨rfl, rfl⟩) | (go_at_call 75; refine (collect_any p wr.heap.size hpl HB0'.out _ ⟨HTW.out.no ((Ext.refl No _).alloc _), by simp [go_sem], by simp [go_sem]⟩).mono ?_; rintro e w9 ⟨v9, rfl, hr9, hx9⟩; obtain ⟨A9, c9, rfl, _⟩ := hr9.at; have HR9 := Sid.mk hr9; have HX9 : Sid (Ext No wr w9) := ⟨((Ext.refl No wr).alloc _).step hx9 (fun i hi hh => by omega)⟩; clear hr9 hx9) | (at_builtin; refine appRow w0.heap.size rfl (.tmp 50) (.tmp 54) 22 rfl Tryd.underlying22 info28 _ _ _ (membersL p) rfl rfl (by simp) (HO.out.no (HWR.out.trans HX9.out)) ?c1 ?c2 ?c3 ?_; (case c1 => exact HR9.out.imp (fun j _ hp => by have h1 := HWR.out.size; have h2 := hsz0.out; simp at hp; exact ⟨by omega, fun he => by have := (HO.out.ge j he.symm).2; omega⟩)); (case c2 => have h1 := HWR.out.size; have h2 := HX.out.size; have h3 := HX9.out.size; omega); (case c3 => have := partsF_len (es.map ofTo) k; simp [partsL]; omega); intro v3 w3 ho3 hx3 hb3 hs3; have HO3 := Sid.mk ho3; have HX3 := Sid.mk hx3; clear ho3 hx3 hb3 hs3))
            apply_assumption
            go_wp2
            go_roundw
            case rel =>
              exact ⟨k + 1, mt ||| p, by omega, by go_num, rfl, or_lt hmt hpl, ⟨by rw [partsF_succ, ← HMT.out, HTB.out, if_neg (by simp), ← HQ.out, HFX.out]⟩, ⟨by
              have h := HO3.out
              rw [partsL, partsF_succ, ← HMT.out, HTB.out, if_neg (by simp), ← HQ.out, HFX.out, List.map_append]; exact h⟩, ⟨(HO.out.no (HWR.out.trans HX9.out)).step (HX.out.trans (HWR.out.trans HX9.out)) HX3.out⟩⟩
            case measure => simp [intOf]; omega
    · obtain rfl : k = mm := by omega
      go_wp2
      go_ret
      exact ⟨_, rfl, HO.out.rows (by have := partsF_len (es.map ofTo) k; simp [partsL]; omega) (fun j hj => by have h1 := (HO.out.ge j hj).1; have h2 := HX0.out.size; simp at h2; omega) (fun j hj => hj), ((ext_box _).trans HX0.out).trans HX.out⟩
end Go.Proofs.YtceiaekkfabeaaaDoor

namespace Go.Proofs.YtceiaekkfabeaaaDoor
open Go.RowKit Pl

theorem enters51 : Enters 51 := fun l w => by kernel_rfl

set_option maxHeartbeats 400000 in
theorem ofBag_any {P : Nat → Prop} (v u : Value) (p : Int) (xs ys : List Int) (w : World) (hv : IntsR .i64 P w v xs) (hu : IntsR .i64 P w u ys) (hs : smallL xs) :
    Calls Tryd.prog 51 #[.agg #[v, u, .int .i64 p]] w fun e w' => e = .returned (.int .u64 (ofTo xs : Nat)) ∧ Ext No w w' := by
  obtain ⟨A, c, rfl, _⟩ := hv.at
  obtain ⟨A2, c2, rfl, _⟩ := hu.at
  have HV := Sid.mk hv
  have HS := Sid.mk hs
  clear hv hu hs
  go_enter Tryd.func51, Tryd.ntmps51
  go_wp2_with (go_at_call 34; refine (of_any _ xs _ (HV.out.no (ext_box _)) HS.out).mono ?_; rintro e w1 ⟨rfl, rfl⟩)
  go_ret
  exact ⟨rfl, ext_box _⟩

set_option maxHeartbeats 1600000 in
theorem madeBag_any {P : Nat → Prop} (v : Value) (bs : List Bag) (w : World) (hv : BagsR P w v bs) (hs : ∀ b ∈ bs, smallL b.vs) (hl : bs.length ≤ 100000) :
    Calls Tryd.prog 50 #[v, .func (.func 51) #[] #[]] w fun e w' => ∃ v', e = .returned v' ∧ IntsR .u64 (fun k => w.heap.size ≤ k) w' v' (natsI (bs.map fun b => ofTo b.vs)) ∧ Ext No w w' := by
  obtain ⟨A, c, rfl, hc, hm, hat⟩ := hv.at
  have HAT := Sid.mk hat
  have HS := Sid.mk hs
  clear hat hv hs
  go_enter Tryd.func50, Tryd.ntmps50
  go_wp2
  go_loopw [5, 10] (fun v i wr => ∃ (k : Nat), k ≤ bs.length ∧ i = .int .i64 k ∧ Sid (Own w.heap.size 65 1 wr v k ((natsI ((bs.take k).map fun b => ofTo b.vs)).map (.int .u64))) ∧ Sid (Ext No w wr)) (fun _ i _ => bs.length - (intOf i).toNat)
  case atStart => exact ⟨0, Nat.zero_le _, rfl, ⟨by simpa [natsI] using Own.nil _ _ _ _⟩, ⟨Ext.refl _ _⟩⟩
  case round =>
    obtain ⟨k, hk, rfl, HO, HX⟩ := hrel
    by_cases hlt : k < bs.length
    · obtain ⟨b, off, A1, c1, A2, c2, vs, es, p, rfl, _, q0, q1, q2, HB, HI1, HI2⟩ := HAT.out k hlt
      have hq0 := HX.out.no q0
      have hq1 := HX.out.no q1
      have hq2 := HX.out.no q2
      clear q0 q1 q2
      have HSM : Sid (smallL vs) := ⟨HS.out _ (List.mem_of_getElem? HB.out)⟩
      go_wp2_with (first | (go_at_call 51; refine (ofBag_any _ _ p vs es _ (HI1.out.no (HX.out.trans (ext_box _))) (HI2.out.no (HX.out.trans (ext_box _))) HSM.out).mono ?_; rintro e w1 ⟨rfl, hx1⟩; have HX1 := Sid.mk hx1; clear hx1) | (at_builtin; refine app1 w.heap.size rfl (.tmp 14) (.tmp 18) 79 65 (.int .u64 0) 8 rfl Tryd.underlying79 info65 rfl (by decide) _ _ _ _ rfl rfl (by simp) rfl (HO.out.ext ((ext_box _).trans HX1.out) (fun _ _ h => h)) (by have := HX.out.size; have := HX1.out.size; simp at this; omega) (by omega) ?_; intro v1 w2 ho1 hx1 hb1 hs1; have HO1 := Sid.mk ho1; have HX2 := Sid.mk hx1; clear ho1 hx1 hb1 hs1))
      go_roundw
      case rel => exact ⟨k+1, by omega, by go_num, ⟨by rw [take_map_succ HB.out]; simpa [natsI] using HO1.out⟩, ⟨HO.out.step HX.out (((ext_box _).trans HX1.out).mono (fun _ h => h.elim) |>.trans HX2.out)⟩⟩
      case measure => simp [intOf]; omega
    · go_wp2
      go_ret
      have h1 := HO.out
      rw [List.take_of_length_le (by omega)] at h1
      exact ⟨_, rfl, ints_own h1 (by simp [natsI]; omega) (fun k hk => (h1.ge k hk).1), HX.out⟩
end Go.Proofs.YtceiaekkfabeaaaDoor

namespace Go.Proofs.YtceiaekkfabeaaaDoor
open Go.RowKit Pl

set_option maxHeartbeats 400000 in
theorem Width_any {P : Nat → Prop} (v : Value) (bs : List Bag) (w : World) (hv : BagsR P w v bs) :
    Calls Tryd.prog 21 #[v] w fun e w' => e = .returned (.int .i64 (widthTo 0 bs)) ∧ Ext No w w' := by
  obtain ⟨A, c, rfl, hc, hm, hat⟩ := hv.at
  have HAT := Sid.mk hat
  have HV := Sid.mk hv
  clear hat hv
  go_enter Tryd.func21, Tryd.ntmps21
  go_wp2
  go_loopw [3, 8] (fun m i wr => ∃ k : Nat, k ≤ bs.length ∧ i = .int .i64 k ∧ m = .int .i64 (widthTo 0 (bs.take k)) ∧ Sid (Ext No w wr)) (fun _ i _ => bs.length - (intOf i).toNat)
  case atStart => exact ⟨0, Nat.zero_le _, rfl, by simp [widthTo], ⟨Ext.refl _ _⟩⟩
  case round =>
    obtain ⟨k, hk, rfl, rfl, HX⟩ := hrel
    by_cases hlt : k < bs.length
    · obtain ⟨b, off, A1, c1, A2, c2, vs, es, p, rfl, _, e0, e1, e2, HB, H1, H2⟩ := HAT.out k hlt
      replace e0 := HX.out.no e0
      replace e1 := HX.out.no e1
      replace e2 := HX.out.no e2
      go_wp2
      go_roundw
      case rel => exact ⟨k+1, by omega, by go_num, congrArg _ (by rw [widthTo_succ HB.out]; simp only; split <;> omega), ⟨HX.out.alloc _⟩⟩
      case measure => simp [intOf]; omega
    · go_wp2
      go_ret
      exact ⟨ret_int (by rw [List.take_of_length_le (by omega)]), HX.out⟩

set_option maxHeartbeats 1000000 in
theorem Right20_any {P : Nat → Prop} (many : Int) (ev : Value) (es : List (List Int)) (w : World) (he : RowsR P w ev es) :
    Calls Tryd.prog 12 #[.agg #[.int .i64 many, ev]] w fun e w' => e = .returned (.bool (hyperB many es)) ∧ Ext No w w' := by
  obtain ⟨Ae, ce, rfl, hce, hme, hate⟩ := (he.no (ext_box (w := w) (.cells #[.int .i64 many, ev] 24))).at
  have HE := Sid.mk hate
  clear hate he
  by_cases h1 : many < 0
  · go_enter Tryd.func12, Tryd.ntmps12
    go_wp2
    go_ret
    exact ⟨ret_bool (by simp [hyperB]; omega), ext_box _⟩
  by_cases h2 : 32 < many
  · go_enter Tryd.func12, Tryd.ntmps12
    go_wp2
    go_ret
    exact ⟨ret_bool (by simp [hyperB]; omega), ext_box _⟩
  by_cases h3 : 40 < es.length
  · go_enter Tryd.func12, Tryd.ntmps12
    go_wp2
    go_ret
    exact ⟨ret_bool (by simp [hyperB]; omega), ext_box _⟩
  have hh : hyperB many es = allB (fun e => risesB e many) es := by
    simp [hyperB, show 0 ≤ many by omega, show many ≤ 32 by omega, show es.length ≤ 40 by omega]
  rw [hh]
  clear hh
  go_enter Tryd.func12, Tryd.ntmps12
  go_wp2
  go_loop [24] (fun i => ∃ k : Nat, k ≤ es.length ∧ i = .int .i64 k ∧ Sid (allB (fun e => risesB e many) (es.take k) = true)) (fun i => es.length - (intOf i).toNat)
  case atStart => exact ⟨0, Nat.zero_le _, rfl, ⟨by simp [allB]⟩⟩
  case round =>
    obtain ⟨k, hk, rfl, hs⟩ := hrel
    by_cases hlt : k < es.length
    · obtain ⟨be, offe, A', c', xs, rfl, _, hcelle, HR, HI⟩ := HE.out k hlt
      obtain ⟨A2, c2, hA, hc2, hm2, hat⟩ := HI.out.at
      cases hA
      have HAT := Sid.mk hat
      clear hat
      go_wp2
      go_loop [30] (fun i => ∃ j : Nat, j ≤ xs.length ∧ i = .int .i64 j ∧ Sid (∀ i, i < j → goodAt xs many i)) (fun i => xs.length - (intOf i).toNat)
      case atStart => exact ⟨0, Nat.zero_le _, rfl, ⟨by omega⟩⟩
      case round =>
        obtain ⟨j, hj, rfl, ht⟩ := hrel
        by_cases hjt : j < xs.length
        · obtain ⟨b, off, x, rfl, _, hcell, HX⟩ := HAT.out j hjt
          by_cases h1 : x < 0
          · go_wp2
            go_ret
            exact ⟨ret_bool (allB_false HR.out (risesB_false (i := j) (fun hg => by have := hg x HX.out; omega))).symm, ext_box _⟩
          · by_cases h2 : many ≤ x
            · go_wp2
              go_ret
              exact ⟨ret_bool (allB_false HR.out (risesB_false (i := j) (fun hg => by have := hg x HX.out; omega))).symm, ext_box _⟩
            · by_cases h0 : j = 0
              · subst h0
                simp only [Nat.add_zero] at hcell
                go_wp2
                go_round
                case rel => exact ⟨1, by omega, by go_num, ⟨fun i hi z hz => by obtain rfl : i = 0 := by omega
                                                                                rw [HX.out] at hz; cases hz; exact ⟨by omega, by omega, by omega⟩⟩⟩
                case measure => simp [intOf]; omega
              · have hk0 : 0 < j := by omega
                obtain ⟨b', off', y, hb, _, hcell', HY⟩ := HAT.out (j - 1) (by omega)
                cases hb
                by_cases h3 : x ≤ y
                · go_wp2
                  go_ret
                  exact ⟨ret_bool (allB_false HR.out (risesB_false (i := j) (fun hg => by have := (hg x HX.out).2.2 y hk0 HY.out; omega))).symm, ext_box _⟩
                · go_wp2
                  go_round
                  case rel => exact ⟨j+1, by omega, by go_num, ⟨fun i hi => by
                                by_cases hik : i < j
                                · exact ht.out i hik
                                · obtain rfl : i = j := by omega
                                  intro z hz
                                  rw [HX.out] at hz; cases hz
                                  exact ⟨by omega, by omega, fun u _ hu => by rw [HY.out] at hu; cases hu; omega⟩⟩⟩
                  case measure => simp [intOf]; omega
        · go_wp2
          go_round
          case rel => exact ⟨k+1, by omega, by go_num, ⟨allB_succ hs.out HR.out (risesB_iff.2 (fun i => by
            by_cases hik : i < j
            · exact ht.out i hik
            · intro z hz; rw [List.getElem?_eq_none (by omega)] at hz; cases hz))⟩⟩
          case measure => simp [intOf]; omega
    · go_wp2
      go_ret
      exact ⟨ret_bool (allB_all hlt hs.out).symm, ext_box _⟩

set_option maxHeartbeats 400000 in
theorem Bare_any {P : Nat → Prop} (many : Int) (ev : Value) (es : List (List Int)) (w : World) (he : RowsR P w ev es) (hm : many ≤ 1000) :
    Calls Tryd.prog 17 #[.agg #[.int .i64 many, ev]] w fun e w' => e = .returned (.bool (bareB many es)) ∧ Ext No w w' := by
  obtain ⟨Ae, ce, rfl, hce, hme, hate⟩ := (he.no (ext_box (w := w) (.cells #[.int .i64 many, ev] 24))).at
  have HE := Sid.mk hate
  clear hate he
  unfold bareB
  go_enter Tryd.func17, Tryd.ntmps17
  go_wp2
  go_loop [9] (fun i => ∃ k : Nat, (k : Int) ≤ max 0 many ∧ i = .int .i64 k ∧ Sid (allB (fun v => anyB (fun e => hasB e v) es) ((vertsL many).take k) = true)) (fun i => many.toNat - (intOf i).toNat)
  case atStart => exact ⟨0, by omega, rfl, ⟨by simp [allB]⟩⟩
  case round =>
    obtain ⟨k, hk, rfl, hs⟩ := hrel
    by_cases hlt : (k : Int) < many
    · have HV := Sid.mk (vertsL_at hlt)
      go_wp2
      go_loop [4, 15] (fun b i => ∃ j : Nat, j ≤ es.length ∧ i = .int .i64 j ∧ b = .bool (anyB (fun e => hasB e (k : Int)) (es.take j))) (fun _ i => es.length - (intOf i).toNat)
      case atStart => exact ⟨0, Nat.zero_le _, rfl, by simp [anyB]⟩
      case round =>
        obtain ⟨j, hj, rfl, rfl⟩ := hrel
        by_cases hjt : j < es.length
        · obtain ⟨be, offe, A', c', r, rfl, _, hcelle, HR', HI'⟩ := HE.out j hjt
          cases hb : anyB (fun e => hasB e (k : Int)) (es.take j) with
          | true =>
            have HB := Sid.mk hb
            clear hb
            go_wp2
            go_round
            case rel => exact ⟨j+1, by omega, by go_num, by rw [anyB_succ HR'.out, HB.out]; rfl⟩
            case measure => simp [intOf]; omega
          | false =>
            have HB := Sid.mk hb
            clear hb
            go_wp2_with (go_at_call 40; refine (has_any _ r _ _ HI'.out).mono ?_; rintro e w' ⟨rfl, rfl⟩)
            go_round
            case rel => exact ⟨j+1, by omega, by go_num, by rw [anyB_succ HR'.out, HB.out]; rfl⟩
            case measure => simp [intOf]; omega
        · cases hb : anyB (fun e => hasB e (k : Int)) (es.take j) with
          | true =>
            have HB := Sid.mk hb
            clear hb
            go_wp2
            go_round
            case rel => exact ⟨k+1, by omega, by go_num, ⟨allB_succ hs.out HV.out (by have := HB.out; rwa [List.take_of_length_le (by omega)] at this)⟩⟩
            case measure => simp [intOf]; omega
          | false =>
            have HB := Sid.mk hb
            clear hb
            go_wp2
            go_ret
            exact ⟨ret_bool (by rw [allB_false HV.out (by have := HB.out; rwa [List.take_of_length_le (by omega)] at this)]; rfl), ext_box _⟩
    · go_wp2
      go_ret
      exact ⟨ret_bool (by rw [allB_all (by rw [vertsL_len]; omega) hs.out]; rfl), ext_box _⟩
end Go.Proofs.YtceiaekkfabeaaaDoor

namespace Go.Proofs.YtceiaekkfabeaaaDoor
open Go.RowKit Pl

set_option maxHeartbeats 4000000 in
theorem shaped_any {P P1 : Nat → Prop} (many : Int) (ev bv : Value) (es : List (List Int)) (bs : List Bag) (w : World) (he : RowsR P w ev es) (hv : BagsR P1 w bv bs) :
    Calls Tryd.prog 48 #[.agg #[.int .i64 many, ev], bv] w fun e w' => e = .returned (.bool (shapedB many es.length bs)) ∧ Ext No w w' := by
  obtain ⟨A, c, rfl, hc, hm, hat⟩ := hv.at
  obtain ⟨Ae, ce, rfl, hce, hme, _⟩ := he.at
  have HAT := Sid.mk hat
  clear hat hv he
  by_cases h64 : bs.length ≤ 64
  · have HB0 : Sid (∀ w', Ext No (w.alloc (.cells #[.int .i64 many, .slice Ae es.length ce] 24)) w' → w'.cell? ⟨w.heap.size, 0, none⟩ = some (.int .i64 many) ∧ w'.cell? ⟨w.heap.size, 1, none⟩ = some (.slice Ae es.length ce)) := ⟨fun w' hx => ⟨hx.no (by simp), hx.no (by simp)⟩⟩
    go_enter Tryd.func48, Tryd.ntmps48
    go_wp2
    go_loopw [12] (fun i wr => ∃ k : Nat, k ≤ bs.length ∧ i = .int .i64 k ∧ Sid (∀ i x, i < k → bs[i]? = some x → bagFormB many es.length i x = true) ∧ Sid (Ext No (w.alloc (.cells #[.int .i64 many, .slice Ae es.length ce] 24)) wr)) (fun i _ => bs.length - (intOf i).toNat)
    case atStart => exact ⟨0, Nat.zero_le _, rfl, ⟨fun i x hi => by omega⟩, ⟨Ext.refl _ _⟩⟩
    case round =>
      obtain ⟨k, hk, rfl, HA, HX⟩ := hrel
      by_cases hlt : k < bs.length
      · obtain ⟨b, off, A1, c1, A2, c2, vs, es1, p, rfl, _, q0, q1, q2, HB, HI1, HI2⟩ := HAT.out k hlt
        have hxw := (ext_box (w := w) (.cells #[.int .i64 many, .slice Ae es.length ce] 24)).trans HX.out
        have hq0 := hxw.no q0
        have hq1 := hxw.no q1
        have hq2 := hxw.no q2
        have HXW := Sid.mk hxw
        have hb0 := fun o => (HB0.out _ (HX.out.alloc o)).1
        have hb1 := fun o => (HB0.out _ (HX.out.alloc o)).2
        clear q0 q1 q2 hxw
        cases hr1 : risesB vs many with
        | false =>
          have HF : Sid (shapedB many es.length bs = false) := ⟨by rw [shapedB, allI_false HB.out (by simp [bagFormB, hr1])]; simp⟩
          have HR1 := Sid.mk hr1
          clear hr1
          go_wp2_with (go_at_call 32; refine (rises_any _ vs many _ (HI1.out.no (HXW.out.alloc _))).mono ?_; rintro e w2 ⟨rfl, rfl⟩; rw [HR1.out])
          go_ret
          exact ⟨ret_bool HF.out.symm, HXW.out.alloc _⟩
        | true =>
          cases hr2 : risesB es1 es.length with
          | false =>
            have HF : Sid (shapedB many es.length bs = false) := ⟨by rw [shapedB, allI_false HB.out (by simp [bagFormB, hr2])]; simp⟩
            have HR1 := Sid.mk hr1
            have HR2 := Sid.mk hr2
            clear hr1 hr2
            go_wp2_with (first | (with_reducible go_at_call 32; with_reducible refine (rises_any _ vs many _ (HI1.out.no (HXW.out.alloc _))).mono ?_; rintro e w2 ⟨rfl, rfl⟩; rw [HR1.out]; clear HR1) | (go_at_call 32; refine (rises_any _ es1 es.length _ (HI2.out.no (HXW.out.alloc _))).mono ?_; rintro e w2 ⟨rfl, rfl⟩; rw [HR2.out]))
            go_ret
            exact ⟨ret_bool HF.out.symm, HXW.out.alloc _⟩
          | true =>
            by_cases hp1 : p < -1
            · have HF : Sid (shapedB many es.length bs = false) := ⟨by rw [shapedB, allI_false HB.out (by simp [bagFormB]; omega)]; simp⟩
              have HR1 := Sid.mk hr1
              have HR2 := Sid.mk hr2
              clear hr1 hr2
              go_wp2_with (first | (with_reducible go_at_call 32; with_reducible refine (rises_any _ vs many _ (HI1.out.no (HXW.out.alloc _))).mono ?_; rintro e w2 ⟨rfl, rfl⟩; rw [HR1.out]; clear HR1) | (go_at_call 32; refine (rises_any _ es1 es.length _ (HI2.out.no (HXW.out.alloc _))).mono ?_; rintro e w2 ⟨rfl, rfl⟩; rw [HR2.out]))
              go_ret
              exact ⟨ret_bool HF.out.symm, HXW.out.alloc _⟩
            · by_cases hp2 : (k : Int) ≤ p
              · have HF : Sid (shapedB many es.length bs = false) := ⟨by rw [shapedB, allI_false HB.out (by simp [bagFormB]; omega)]; simp⟩
                have HR1 := Sid.mk hr1
                have HR2 := Sid.mk hr2
                clear hr1 hr2
                go_wp2_with (first | (with_reducible go_at_call 32; with_reducible refine (rises_any _ vs many _ (HI1.out.no (HXW.out.alloc _))).mono ?_; rintro e w2 ⟨rfl, rfl⟩; rw [HR1.out]; clear HR1) | (go_at_call 32; refine (rises_any _ es1 es.length _ (HI2.out.no (HXW.out.alloc _))).mono ?_; rintro e w2 ⟨rfl, rfl⟩; rw [HR2.out]))
                go_ret
                exact ⟨ret_bool HF.out.symm, HXW.out.alloc _⟩
              · have HT : Sid (bagFormB many es.length k ⟨vs, es1, p⟩ = true) := ⟨by simp [bagFormB, hr1, hr2]; omega⟩
                have HR1 := Sid.mk hr1
                have HR2 := Sid.mk hr2
                clear hr1 hr2
                go_wp2_with (first | (with_reducible go_at_call 32; with_reducible refine (rises_any _ vs many _ (HI1.out.no (HXW.out.alloc _))).mono ?_; rintro e w2 ⟨rfl, rfl⟩; rw [HR1.out]; clear HR1) | (go_at_call 32; refine (rises_any _ es1 es.length _ (HI2.out.no (HXW.out.alloc _))).mono ?_; rintro e w2 ⟨rfl, rfl⟩; rw [HR2.out]))
                go_roundw
                case rel => exact ⟨k + 1, by omega, by go_num, ⟨fun i x hi hx => by
                  by_cases hik : i = k
                  · subst hik; rw [HB.out] at hx; cases hx; exact HT.out
                  · exact HA.out i x (by omega) hx⟩, ⟨HX.out.alloc _⟩⟩
                case measure => simp [intOf]; omega
      · go_wp2
        go_ret
        exact ⟨ret_bool (by rw [shapedB, allI_of hlt (fun i x hi hx => HA.out i x hi hx)]; simp [h64]), (ext_box _).trans HX.out⟩
  · go_enter Tryd.func48, Tryd.ntmps48
    go_wp2
    go_ret
    exact ⟨ret_bool (by simp [shapedB]; omega), ext_box _⟩
end Go.Proofs.YtceiaekkfabeaaaDoor

namespace Go.Proofs.YtceiaekkfabeaaaDoor
open Go.RowKit Pl

/-- The first place at which something holds; -1: there is none. -/
def idxF {α : Type} (f : α → Bool) (l : List α) : Int := match l.findIdx? f with | some i => (i : Int) | none => -1
theorem idxF_at {α : Type} {f : α → Bool} {l : List α} {k : Nat} {x : α} (h : ∀ (i : Nat) (y : α), i < k → l[i]? = some y → f y = false) (hx : l[k]? = some x) (hf : f x = true) : idxF f l = k := by
  obtain ⟨hk, rfl⟩ := List.getElem?_eq_some_iff.1 hx
  have : l.findIdx? f = some k := by
    rw [List.findIdx?_eq_some_iff_getElem]
    exact ⟨hk, hf, fun j hj => by rw [h j _ hj (List.getElem?_eq_getElem (by omega))]; simp⟩
  rw [idxF, this]
theorem idxF_none {α : Type} {f : α → Bool} {l : List α} (h : ∀ (i : Nat) (y : α), l[i]? = some y → f y = false) : idxF f l = -1 := by
  have : l.findIdx? f = none := by
    rw [List.findIdx?_eq_none_iff]
    intro x hx
    obtain ⟨i, hi⟩ := List.mem_iff_getElem?.1 hx
    exact h i x hi
  rw [idxF, this]
theorem idxF_any {α : Type} {f : α → Bool} {l : List α} : decide (idxF f l ≥ 0) = l.any f := by
  unfold idxF
  cases h : l.findIdx? f with
  | some i =>
    obtain ⟨hi, h1, _⟩ := List.findIdx?_eq_some_iff_getElem.1 h
    have : l.any f = true := List.any_eq_true.2 ⟨_, List.getElem_mem hi, h1⟩
    rw [this]; simp
  | none =>
    have : l.any f = false := by
      rw [List.any_eq_false]
      intro x hx
      rw [List.findIdx?_eq_none_iff.1 h x hx]; simp
    rw [this]; simp

set_option maxHeartbeats 1000000 in
theorem idxSets_any {P : Nat → Prop} (g : Nat) (hg : Enters g) (caps : Array Value) (f : Nat → Bool) (v : Value) (S : List Nat) (w : World) (hv : IntsR .u64 P w v (natsI S))
    (hf : ∀ (s : Nat) (wx : World), Ext No w wx → s ∈ S → Calls Tryd.prog g (#[.int .u64 (s : Int)] ++ caps) wx fun e w' => e = .returned (.bool (f s)) ∧ Ext No wx w') :
    Calls Tryd.prog 80 #[v, .func (.func g) #[] caps] w fun e w' => e = .returned (.int .i64 (idxF f S)) ∧ Ext No w w' := by
  obtain ⟨A, c, rfl, _⟩ := hv.at
  rw [natsI_len] at hv ⊢
  obtain ⟨hm, hat⟩ := SetsR_at hv
  have HAT := Sid.mk hat
  have HF := Sid.mk hf
  clear hat hv hf
  unfold Enters at hg
  go_enter Tryd.func80, Tryd.ntmps80
  go_wp2
  go_loopw [8] (fun i wr => ∃ k : Nat, k ≤ S.length ∧ i = .int .i64 k ∧ Sid (∀ i y, i < k → S[i]? = some y → f y = false) ∧ Sid (Ext No w wr)) (fun i _ => S.length - (intOf i).toNat)
  case atStart => exact ⟨0, Nat.zero_le _, rfl, ⟨fun i y hi => by omega⟩, ⟨Ext.refl _ _⟩⟩
  case round =>
    obtain ⟨k, hk, rfl, HS, HX⟩ := hrel
    by_cases hlt : k < S.length
    · obtain ⟨b, off, x, rfl, _, hcell0, HB⟩ := HAT.out k hlt
      have hcell := HX.out.no hcell0
      clear hcell0
      cases hb : f x with
      | true =>
        have HH := Sid.mk hb
        clear hb
        go_wp2_with (refine (HF.out x _ HX.out (List.mem_of_getElem? HB.out)).mono ?_; rintro e w1 ⟨rfl, hx1⟩; rw [HH.out]; have HX1 := Sid.mk hx1; clear hx1)
        go_ret
        exact ⟨ret_int (idxF_at HS.out HB.out HH.out).symm, HX.out.trans HX1.out⟩
      | false =>
        have HH := Sid.mk hb
        clear hb
        go_wp2_with (refine (HF.out x _ HX.out (List.mem_of_getElem? HB.out)).mono ?_; rintro e w1 ⟨rfl, hx1⟩; rw [HH.out]; have HX1 := Sid.mk hx1; clear hx1)
        go_roundw
        case rel => exact ⟨k + 1, by omega, by go_num, ⟨fun i y hi hy => by
          by_cases hik : i = k
          · subst hik; rw [HB.out] at hy; cases hy; exact HH.out
          · exact HS.out i y (by omega) hy⟩, ⟨HX.out.trans HX1.out⟩⟩
        case measure => simp [intOf]; omega
    · go_wp2
      go_ret
      exact ⟨ret_int (idxF_none (fun i y hy => HS.out i y (by have := (List.getElem?_eq_some_iff.1 hy).1; omega) hy)).symm, HX.out⟩
set_option maxHeartbeats 1000000 in
theorem idxRows_any {P : Nat → Prop} (g : Nat) (hg : Enters g) (caps : Array Value) (f : List Int → Bool) (v : Value) (S : List (List Int)) (w : World) (hv : RowsR P w v S)
    (hf : ∀ (u : Value) (s : List Int) (wx : World), Ext No w wx → s ∈ S → IntsR .i64 P wx u s → Calls Tryd.prog g (#[u] ++ caps) wx fun e w' => e = .returned (.bool (f s)) ∧ Ext No wx w') :
    Calls Tryd.prog 88 #[v, .func (.func g) #[] caps] w fun e w' => e = .returned (.int .i64 (idxF f S)) ∧ Ext No w w' := by
  obtain ⟨A, c, rfl, hc, hm, hat⟩ := hv.at
  have HAT := Sid.mk hat
  have HF := Sid.mk hf
  clear hat hv hf
  unfold Enters at hg
  go_enter Tryd.func88, Tryd.ntmps88
  go_wp2
  go_loopw [8] (fun i wr => ∃ k : Nat, k ≤ S.length ∧ i = .int .i64 k ∧ Sid (∀ i y, i < k → S[i]? = some y → f y = false) ∧ Sid (Ext No w wr)) (fun i _ => S.length - (intOf i).toNat)
  case atStart => exact ⟨0, Nat.zero_le _, rfl, ⟨fun i y hi => by omega⟩, ⟨Ext.refl _ _⟩⟩
  case round =>
    obtain ⟨k, hk, rfl, HS, HX⟩ := hrel
    by_cases hlt : k < S.length
    · obtain ⟨b, off, A', c', x, rfl, _, hcell0, HB, HI⟩ := HAT.out k hlt
      have hcell := HX.out.no hcell0
      clear hcell0
      cases hb : f x with
      | true =>
        have HH := Sid.mk hb
        clear hb
        go_wp2_with (refine (HF.out _ x _ HX.out (List.mem_of_getElem? HB.out) (HI.out.no HX.out)).mono ?_; rintro e w1 ⟨rfl, hx1⟩; rw [HH.out]; have HX1 := Sid.mk hx1; clear hx1)
        go_ret
        exact ⟨ret_int (idxF_at HS.out HB.out HH.out).symm, HX.out.trans HX1.out⟩
      | false =>
        have HH := Sid.mk hb
        clear hb
        go_wp2_with (refine (HF.out _ x _ HX.out (List.mem_of_getElem? HB.out) (HI.out.no HX.out)).mono ?_; rintro e w1 ⟨rfl, hx1⟩; rw [HH.out]; have HX1 := Sid.mk hx1; clear hx1)
        go_roundw
        case rel => exact ⟨k + 1, by omega, by go_num, ⟨fun i y hi hy => by
          by_cases hik : i = k
          · subst hik; rw [HB.out] at hy; cases hy; exact HH.out
          · exact HS.out i y (by omega) hy⟩, ⟨HX.out.trans HX1.out⟩⟩
        case measure => simp [intOf]; omega
    · go_wp2
      go_ret
      exact ⟨ret_int (idxF_none (fun i y hy => HS.out i y (by have := (List.getElem?_eq_some_iff.1 hy).1; omega) hy)).symm, HX.out⟩

theorem hasSets_any {P : Nat → Prop} (g : Nat) (hg : Enters g) (caps : Array Value) (f : Nat → Bool) (v : Value) (S : List Nat) (w : World) (hv : IntsR .u64 P w v (natsI S))
    (hf : ∀ (s : Nat) (wx : World), Ext No w wx → s ∈ S → Calls Tryd.prog g (#[.int .u64 (s : Int)] ++ caps) wx fun e w' => e = .returned (.bool (f s)) ∧ Ext No wx w') :
    Calls Tryd.prog 52 #[v, .func (.func g) #[] caps] w fun e w' => e = .returned (.bool (S.any f)) ∧ Ext No w w' := by
  obtain ⟨A, c, rfl, _⟩ := hv.at
  have HV := Sid.mk hv
  have HF := Sid.mk hf
  clear hv hf
  go_enter Tryd.func52, Tryd.ntmps52
  go_wp2_with (go_at_call 80; refine (idxSets_any g hg caps f _ S _ HV.out HF.out).mono ?_; rintro e w1 ⟨rfl, hx1⟩; have HX1 := Sid.mk hx1; clear hx1)
  go_ret
  exact ⟨ret_bool idxF_any, HX1.out⟩
theorem hasRows_any {P : Nat → Prop} (g : Nat) (hg : Enters g) (caps : Array Value) (f : List Int → Bool) (v : Value) (S : List (List Int)) (w : World) (hv : RowsR P w v S)
    (hf : ∀ (u : Value) (s : List Int) (wx : World), Ext No w wx → s ∈ S → IntsR .i64 P wx u s → Calls Tryd.prog g (#[u] ++ caps) wx fun e w' => e = .returned (.bool (f s)) ∧ Ext No wx w') :
    Calls Tryd.prog 72 #[v, .func (.func g) #[] caps] w fun e w' => e = .returned (.bool (S.any f)) ∧ Ext No w w' := by
  obtain ⟨A, c, rfl, _⟩ := hv.at
  have HV := Sid.mk hv
  have HF := Sid.mk hf
  clear hv hf
  go_enter Tryd.func72, Tryd.ntmps72
  go_wp2_with (go_at_call 88; refine (idxRows_any g hg caps f _ S _ HV.out HF.out).mono ?_; rintro e w1 ⟨rfl, hx1⟩; have HX1 := Sid.mk hx1; clear hx1)
  go_ret
  exact ⟨ret_bool idxF_any, HX1.out⟩
end Go.Proofs.YtceiaekkfabeaaaDoor

namespace Go.Proofs.YtceiaekkfabeaaaDoor
open Go.RowKit Pl

theorem enters53 : Enters 53 := fun l w => by kernel_rfl
theorem enters73 : Enters 73 := fun l w => by kernel_rfl
theorem enters55 : Enters 55 := fun l w => by kernel_rfl
/-- Is a set within another? -/
def subB (e s : Nat) : Bool := sdn e s == 0
set_option maxHeartbeats 400000 in
theorem subIn_any (e s Bx : Nat) (he : e < 4294967296) (hs : s < 4294967296) (w : World) (hb : w.cell? ⟨Bx, 0, none⟩ = some (.int .u64 (e : Int))) :
    Calls Tryd.prog 53 #[.int .u64 (s : Int), .pointer (some ⟨Bx, 0, none⟩)] w fun en w' => en = .returned (.bool (subB e s)) ∧ Ext No w w' := by
  have hd : (bits .andNot .u64 (e : Int) (s : Int) == 0) = subB e s := by
    rw [andNot_u64 he hs, subB]
    cases h : sdn e s == 0 with
    | true => rw [beq_iff_eq] at h; rw [h]; rfl
    | false => rw [beq_eq_false_iff_ne] at h ⊢; omega
  go_enter Tryd.func53, Tryd.ntmps53
  go_wp2
  go_ret
  exact ⟨rfl, Ext.refl _ _⟩
set_option maxHeartbeats 400000 in
theorem long_any {P : Nat → Prop} (u : Value) (xs : List Int) (w : World) (hu : IntsR .i64 P w u xs) :
    Calls Tryd.prog 73 #[u] w fun en w' => en = .returned (.bool (decide (10 < xs.length))) ∧ Ext No w w' := by
  obtain ⟨A, c, rfl, _⟩ := hu.at
  clear hu
  go_enter Tryd.func73, Tryd.ntmps73
  go_wp2
  go_ret
  exact ⟨ret_bool (decide_eq_decide.2 (by omega)), Ext.refl _ _⟩
end Go.Proofs.YtceiaekkfabeaaaDoor

namespace Go.Proofs.YtceiaekkfabeaaaDoor
open Go.RowKit Pl

theorem ret_pair {a b : Value} {c d : Value} (h1 : a = b) (h2 : c = d) : Ending.returned (.tuple #[a, c]) = .returned (.tuple #[b, d]) := by rw [h1, h2]
/-- A row, and whether there is one. -/
def optRow (P : Nat → Prop) (w : World) (v : Value) (b : Bool) : Option (List Int) → Prop
  | some r => b = true ∧ IntsR .i64 P w v r
  | none => b = false ∧ v = .slice none 0 0

set_option maxHeartbeats 1000000 in
theorem refCover_any {P P1 : Nat → Prop} (many : Int) (ev vv : Value) (es : List (List Int)) (vs : List Int) (w : World) (he : RowsR P w ev es) (hv : IntsR .i64 P1 w vv vs) (hb : es.length ≤ 20) (hb2 : vs.length ≤ 900) :
    Calls Tryd.prog 14 #[.agg #[.int .i64 many, ev], vv] w fun e w' => ∃ v' b, e = .returned (.tuple #[v', .bool b]) ∧ optRow (fun k => w.heap.size ≤ k) w' v' b (refCover es vs) ∧ Ext No w w' := by
  obtain ⟨Ae, ce, rfl, hce, hme, _⟩ := he.at
  obtain ⟨Av, cv, rfl, hcv, hmv, _⟩ := hv.at
  have HE := Sid.mk he
  have HV := Sid.mk hv
  clear he hv
  go_enter Tryd.func14, Tryd.ntmps14
  go_wp2
  go_loopw [6] (fun n wr => ∃ (k : Nat), k ≤ vs.length + 1 ∧ n = .int .i64 k ∧ Sid (((List.range k).flatMap fun k => rowsL es.length k 0).find? (fun row => coversB es row vs) = none) ∧ Sid (Ext No w wr) ∧ wr.cell? ⟨w.heap.size, 0, none⟩ = some (.int .i64 many) ∧ wr.cell? ⟨w.heap.size, 1, none⟩ = some (.slice Ae es.length ce)) (fun n _ => vs.length + 1 - (intOf n).toNat)
  case atStart => exact ⟨0, by omega, rfl, ⟨by simp⟩, ⟨ext_box _⟩, by simp, by simp⟩
  case round =>
    obtain ⟨k, hk, rfl, HS, HX, hb0, hb1⟩ := hrel
    by_cases hlt : k ≤ vs.length
    · go_wp2_with (go_at_call 37; refine (Rows_any es.length (by omega) k 0 (k : Int) _ (by omega) (by omega) rfl (by omega)).mono ?_; rintro e w1 ⟨v1, rfl, hr1, hx1⟩; obtain ⟨A1, c1, rfl, hc1, hm1, hat1⟩ := hr1.at; have hb0a := hx1.no hb0; have hb1a := hx1.no hb1; have HR1 := Sid.mk hr1; have HX1 := Sid.mk hx1; have HAT := Sid.mk hat1; clear hr1 hx1 hat1)
      obtain ⟨wo, rfl⟩ : ∃ wo : World, wo = wr := ⟨_, rfl⟩
      have HW : Sid (Ext No w w1) := ⟨HX.out.trans HX1.out⟩
      have HWS : Sid (w.heap.size ≤ wo.heap.size) := ⟨HX.out.size⟩
      go_loopw [21] (fun i ws => ∃ (j : Nat), j ≤ (rowsL es.length k 0).length ∧ i = .int .i64 j ∧ Sid (((rowsL es.length k 0).take j).find? (fun row => coversB es row vs) = none) ∧ Sid (Ext No w ws) ∧ Sid (Ext No w1 ws) ∧ ws.cell? ⟨w.heap.size, 0, none⟩ = some (.int .i64 many) ∧ ws.cell? ⟨w.heap.size, 1, none⟩ = some (.slice Ae es.length ce)) (fun i _ => (rowsL es.length k 0).length - (intOf i).toNat)
      case atStart => exact ⟨0, by omega, rfl, ⟨by simp⟩, HW, ⟨Ext.refl _ _⟩, hb0a, hb1a⟩
      case round =>
        clear HX hb0 hb1 hb0a hb1a HW
        obtain ⟨j, hj, rfl, HJ, HX, HY, hb0, hb1⟩ := hrel
        by_cases hjt : j < (rowsL es.length k 0).length
        · obtain ⟨b, off, A', c', r, rfl, hPb, hcell0, HR', HI'⟩ := HAT.out j hjt
          have hcell := HY.out.no hcell0
          clear hcell0
          have HIN : Sid (inB r es.length) := ⟨fun e he => rowsL_in _ _ _ (by omega) r (List.mem_of_getElem? HR'.out) e he⟩
          cases hc : coversB es r vs with
          | false =>
            have HC := Sid.mk hc
            clear hc
            go_wp2_with (go_at_call 38; refine (covers_any many _ _ _ es r vs _ (HE.out.no HX.out) (HI'.out.no HY.out) (HV.out.no HX.out) HIN.out).mono ?_; rintro e w2 ⟨rfl, hx2⟩; rw [HC.out]; have hb0a := hx2.no hb0; have hb1a := hx2.no hb1; have HX2 := Sid.mk hx2; clear hx2)
            go_roundw
            case rel => exact ⟨j+1, by omega, by go_num, ⟨find_take_succ HR'.out HJ.out HC.out⟩, ⟨HX.out.trans HX2.out⟩, ⟨HY.out.trans HX2.out⟩, hb0a, hb1a⟩
            case measure => simp [intOf]; omega
          | true =>
            have HC := Sid.mk hc
            clear hc
            go_wp2_with (go_at_call 38; refine (covers_any many _ _ _ es r vs _ (HE.out.no HX.out) (HI'.out.no HY.out) (HV.out.no HX.out) HIN.out).mono ?_; rintro e w2 ⟨rfl, hx2⟩; rw [HC.out]; have HX2 := Sid.mk hx2; clear hx2)
            go_ret2
            refine ⟨_, _, rfl, ?_, HX.out.trans HX2.out⟩
            rw [show refCover es vs = some r from find_flat (by omega) HR'.out HS.out HJ.out HC.out]
            exact ⟨rfl, ((HI'.out.no HY.out).no HX2.out).imp (fun k _ hk => Nat.le_trans HWS.out hk)⟩
        · go_wp2
          go_roundw
          case rel => exact ⟨k+1, by omega, by go_num, ⟨find_range_succ HS.out (by have := HJ.out; rwa [List.take_of_length_le (by omega)] at this)⟩, HX, hb0, hb1⟩
          case measure => simp [intOf]; omega
    · go_wp2
      go_ret2
      refine ⟨_, _, rfl, ?_, HX.out⟩
      have h1 : k = vs.length + 1 := by omega
      rw [show refCover es vs = none from by subst h1; exact HS.out]
      exact ⟨rfl, rfl⟩
end Go.Proofs.YtceiaekkfabeaaaDoor

namespace Go.Proofs.YtceiaekkfabeaaaDoor
open Go.RowKit Pl

/-- What Cover answers: the error, the row. -/
def coverA (many : Int) (es : List (List Int)) (vs : List Int) : Int × Option (List Int) :=
  if hyperB many es = false then (300, none) else if risesB vs many = false then (2, none) else if sdn (ofTo vs) (orTo (es.map ofTo)) ≠ 0 then (4, none) else (0, covO (es.map ofTo) (ofTo vs))

/-- A row that is none, or one that is read. -/
def rowO (P : Nat → Prop) (w : World) (v : Value) : Option (List Int) → Prop
  | some r => IntsR .i64 P w v r
  | none => v = .slice none 0 0

set_option maxHeartbeats 4000000 in
theorem Cover_any {P P1 : Nat → Prop} (many : Int) (ev vv : Value) (es : List (List Int)) (vs : List Int) (w : World) (he : RowsR P w ev es) (hv : IntsR .i64 P1 w vv vs) :
    Calls Tryd.prog 11 #[.agg #[.int .i64 many, ev], vv] w fun e w' => ∃ v', e = .returned (.tuple #[v', .int .i64 (coverA many es vs).1]) ∧ rowO (fun k => w.heap.size ≤ k) w' v' (coverA many es vs).2 ∧ Ext No w w' := by
  obtain ⟨A, c, rfl, hc, hm, _⟩ := he.at
  obtain ⟨A1, c1, rfl, hc1, hm1, _⟩ := hv.at
  cases hg1 : hyperB many es with
  | false =>
    have hce : hyperE many es = 300 := by simp [hyperE, hg1]
    have HA : Sid (coverA many es vs = (300, none)) := ⟨by simp [coverA, hg1]⟩
    have HE := Sid.mk he
    clear he hv hg1
    go_enter Tryd.func11, Tryd.ntmps11
    go_wp2_with (go_at_call 27; refine (hyperCheck_any many _ es _ (HE.out.no (ext_box _))).mono ?_; rintro e w1 ⟨rfl, hx1⟩; rw [hce]; have HX1 := Sid.mk hx1; clear hx1)
    go_ret2
    exact ⟨_, ret_pair rfl (by simp only [HA.out]; rfl), by rw [HA.out]; rfl, (ext_box _).trans HX1.out⟩
  | true =>
    have hce : hyperE many es = 0 := by simp [hyperE, hg1]
    obtain ⟨hp1, hp2, hp3, _⟩ := hyperB_parts hg1
    have HSM : Sid (smallE es) := ⟨hyperB_small hg1⟩
    have HE := Sid.mk he
    have HV := Sid.mk hv
    have hb0 : ∀ w', Ext No (w.alloc (.cells #[.int .i64 many, .slice A es.length c] 24)) w' → w'.cell? ⟨w.heap.size, 0, none⟩ = some (.int .i64 many) := fun w' hx => hx.no (by simp)
    have hb1 : ∀ w', Ext No (w.alloc (.cells #[.int .i64 many, .slice A es.length c] 24)) w' → w'.cell? ⟨w.heap.size, 1, none⟩ = some (.slice A es.length c) := fun w' hx => hx.no (by simp)
    have HB0 := Sid.mk hb0
    have HB1 := Sid.mk hb1
    clear hb0 hb1
    cases hg2 : risesB vs many with
    | false =>
      have HA : Sid (coverA many es vs = (2, none)) := ⟨by simp [coverA, hg1, hg2]⟩
      have G2 := Sid.mk hg2
      clear he hv hg1 hg2
      go_enter Tryd.func11, Tryd.ntmps11
      go_wp2_with (first
        | (go_at_call 27; refine (hyperCheck_any many _ es _ (HE.out.no (ext_box _))).mono ?_; rintro e w1 ⟨rfl, hx1⟩; rw [hce]; have h0 := HB0.out _ hx1; have h1 := HB1.out _ hx1; have HX1 := Sid.mk hx1; clear hx1)
        | (go_at_call 32; refine (rises_any _ vs many _ (HV.out.no ((ext_box _).trans HX1.out))).mono ?_; rintro e w2 ⟨rfl, rfl⟩; rw [G2.out]))
      go_ret2
      exact ⟨_, ret_pair rfl (by simp only [HA.out]; rfl), by rw [HA.out]; rfl, (ext_box _).trans HX1.out⟩
    | true =>
      have HSV : Sid (smallL vs) := ⟨risesB_small hg2 hp2⟩
      have G2 := Sid.mk hg2
      have hw1 : ofTo vs < 4294967296 := ofTo_lt HSV.out
      have hw2 : orTo (es.map ofTo) < 4294967296 := orTo_lt (smallS_of HSM.out)
      have HAN : Sid (bits .andNot .u64 (ofTo vs : Int) (orTo (es.map ofTo) : Int) = ((sdn (ofTo vs) (orTo (es.map ofTo)) : Nat) : Int)) := ⟨andNot_u64 hw1 hw2⟩
      by_cases hg3 : sdn (ofTo vs) (orTo (es.map ofTo)) = 0
      · obtain ⟨rr, hrr⟩ := covO_some hg3
        have hne : (bits .andNot .u64 (ofTo vs : Int) (orTo (es.map ofTo) : Int) != 0) = false := by rw [HAN.out, hg3]; rfl
        have HA : Sid (coverA many es vs = (0, some rr)) := ⟨by simp [coverA, hg1, hg2, hg3, hrr]⟩
        have HRR := Sid.mk hrr
        have HG3 := Sid.mk hg3
        clear he hv hg1 hg2 hg3 hrr
        go_enter Tryd.func11, Tryd.ntmps11
        go_wp2_with (first
          | (go_at_call 27; refine (hyperCheck_any many _ es _ (HE.out.no (ext_box _))).mono ?_; rintro e w1 ⟨rfl, hx1⟩; rw [hce]; have h0 := HB0.out _ hx1; have h1 := HB1.out _ hx1; have HX1 := Sid.mk hx1; clear hx1)
          | (go_at_call 32; refine (rises_any _ vs many _ (HV.out.no ((ext_box _).trans HX1.out))).mono ?_; rintro e w2 ⟨rfl, rfl⟩; rw [G2.out])
          | (go_at_call 33; refine (searching_any many _ es _ (HE.out.no ((ext_box _).trans HX1.out)) HSM.out (by omega)).mono ?_; rintro e w2 ⟨B, M, rfl, hs2, hk2, hB, hM, hx2⟩; have HS2 := Sid.mk hs2; have HK2 := Sid.mk hk2; have hMl := hk2.lt; have hsz := hx2.size; have HX2 := Sid.mk hx2; clear hs2 hk2 hx2)
          | (go_at_call 34; refine (of_any _ vs _ (HV.out.no (((ext_box _).trans HX1.out).trans HX2.out)) HSV.out).mono ?_; rintro e w2 ⟨rfl, rfl⟩)
          | (go_at_call 35; refine (covered_any B M many es (es.map ofTo) _ HS2.out (smallS_of HSM.out)).mono ?_; rintro e w2 ⟨rfl, rfl⟩)
          | (go_at_call 36; refine (cover_any B M many es (es.map ofTo) (smallS_of HSM.out) (by simp; omega) (ofTo vs) rr _ HS2.out HK2.out HRR.out hw1 (fun k hk => ⟨by omega, Or.inl (by omega)⟩) (fun h => h.1 rfl)).mono ?_; rintro e w3 ⟨v3, rfl, hi3, hx3, hk3⟩; have HI3 := Sid.mk hi3; have HX3 := Sid.mk hx3; clear hi3 hx3 hk3)
          | (go_at_call 10; refine (Clone_any _ rr _ HI3.out (by have := covO_len HRR.out; simp at this; omega)).mono ?_; rintro e w4 ⟨v4, rfl, hi4, hx4⟩; have HI4 := Sid.mk hi4; have HX4 := Sid.mk hx4; clear hi4 hx4))
        go_ret2
        refine ⟨_, ret_pair rfl (by simp only [HA.out]; rfl), ?_, ?_⟩
        · rw [HA.out]
          exact HI4.out.imp (fun k _ hk => by have := HX3.out.size; have := HX1.out.size; simp at this; omega)
        · exact (((ext_box _).trans HX1.out).trans HX2.out).step (HX3.out.step HX4.out (fun _ _ h => h.elim)) (fun i hi h => by have := HX1.out.size; simp at this; omega)
      · have hne : (bits .andNot .u64 (ofTo vs : Int) (orTo (es.map ofTo) : Int) != 0) = true := by rw [HAN.out]; simp; omega
        have HA : Sid (coverA many es vs = (4, none)) := ⟨by simp [coverA, hg1, hg2, hg3]⟩
        clear he hv hg1 hg2 hg3
        go_enter Tryd.func11, Tryd.ntmps11
        go_wp2_with (first
          | (go_at_call 27; refine (hyperCheck_any many _ es _ (HE.out.no (ext_box _))).mono ?_; rintro e w1 ⟨rfl, hx1⟩; rw [hce]; have h0 := HB0.out _ hx1; have h1 := HB1.out _ hx1; have HX1 := Sid.mk hx1; clear hx1)
          | (go_at_call 32; refine (rises_any _ vs many _ (HV.out.no ((ext_box _).trans HX1.out))).mono ?_; rintro e w2 ⟨rfl, rfl⟩; rw [G2.out])
          | (go_at_call 33; refine (searching_any many _ es _ (HE.out.no ((ext_box _).trans HX1.out)) HSM.out (by omega)).mono ?_; rintro e w2 ⟨B, M, rfl, hs2, hk2, hB, hM, hx2⟩; have HS2 := Sid.mk hs2; have HX2 := Sid.mk hx2; clear hs2 hk2 hx2)
          | (go_at_call 34; refine (of_any _ vs _ (HV.out.no (((ext_box _).trans HX1.out).trans HX2.out)) HSV.out).mono ?_; rintro e w2 ⟨rfl, rfl⟩)
          | (go_at_call 35; refine (covered_any B M many es (es.map ofTo) _ HS2.out (smallS_of HSM.out)).mono ?_; rintro e w2 ⟨rfl, rfl⟩))
        go_ret2
        exact ⟨_, ret_pair rfl (by simp only [HA.out]; rfl), by rw [HA.out]; rfl, ((ext_box _).trans HX1.out).trans HX2.out⟩
end Go.Proofs.YtceiaekkfabeaaaDoor
