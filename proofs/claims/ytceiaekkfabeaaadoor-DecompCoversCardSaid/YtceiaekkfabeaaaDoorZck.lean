/- Words and contracts for: DecompCovers: for every hypergraph and row of rows the law answers true, and its arguments read as before. No condition; the table of the library's math/bits is laid by its text. -/
import Derived.Test.YtceiaekkfabeaaaDoorZcj
/- The law's own copy of a hypergraph. -/
namespace Go.Proofs.YtceiaekkfabeaaaDoor
open Go.RowKit Go.Shelf Pl
attribute [local go_sem] Oper.semAt_some

theorem take_succ_of {α : Type} {l : List α} {k : Nat} {x : α} (h : l[k]? = some x) : l.take (k + 1) = l.take k ++ [x] := by
  obtain ⟨hk, rfl⟩ := List.getElem?_eq_some_iff.1 h
  exact List.take_succ_eq_append_getElem hk
/-- A hypergraph that can be gone through. -/
def ownB (many : Int) (es : List (List Int)) : Bool := decide (es.length ≤ 7) && decide (many ≤ 6) && allB (fun e => decide (e.length ≤ 8)) es

/-- What own answers. -/
def OwnPost (many : Int) (es : List (List Int)) (w : World) (e : Ending) (w' : World) : Prop :=
  Ext No w w' ∧ if ownB many es then ∃ v', e = .returned (.tuple #[.agg #[.int .i64 many, v'], .bool true]) ∧ RowsR (fun k => w.heap.size ≤ k) w' v' es else e = .returned (.tuple #[.agg #[.int .i64 0, .slice none 0 0], .bool false])
theorem OwnPost.no {many : Int} {es : List (List Int)} {w w' : World} (h : ownB many es = false) (hx : Ext No w w') : OwnPost many es w (.returned (.tuple #[.agg #[.int .i64 0, .slice none 0 0], .bool false])) w' := ⟨hx, by rw [h]; simp⟩
theorem OwnPost.yes {many : Int} {es : List (List Int)} {w w' : World} {v : Value} (h : ownB many es = true) (hx : Ext No w w') (hr : RowsR (fun k => w.heap.size ≤ k) w' v es) : OwnPost many es w (.returned (.tuple #[.agg #[.int .i64 many, v], .bool true])) w' := ⟨hx, by rw [h]; exact ⟨v, rfl, hr⟩⟩

set_option maxHeartbeats 4000000 in
set_option maxRecDepth 100000 in
theorem own_any {P : Nat → Prop} (many : Int) (ev : Value) (es : List (List Int)) (w : World) (he : RowsR P w ev es) :
    Calls Tryd.prog 9 #[.agg #[.int .i64 many, ev]] w (OwnPost many es w) := by
  obtain ⟨A, c, rfl, hc, hm, hat⟩ := he.at
  have HE := Sid.mk he
  have HAT := Sid.mk hat
  clear he hat
  by_cases h7 : es.length ≤ 7
  · by_cases h6 : many ≤ 6
    · have h7' : ¬ ((7 : Int) < (es.length : Int)) := by omega
      have h6' : ¬ ((6 : Int) < many) := by omega
      have HOK : Sid ((∀ e ∈ es, e.length ≤ 8) → ownB many es = true) := ⟨fun h => by simp only [ownB, Bool.and_eq_true, decide_eq_true_eq]; exact ⟨⟨h7, h6⟩, by rw [allB, List.all_eq_true]; exact fun e he => by simpa using h e he⟩⟩
      have HNO : Sid (∀ (k : Nat) (e : List Int), es[k]? = some e → ¬ e.length ≤ 8 → ownB many es = false) := ⟨fun k e hk h => by rw [ownB, allB_false hk (by simpa using h), Bool.and_false]⟩
      go_enter Tryd.func9, Tryd.ntmps9
      go_wp2
      obtain ⟨W0, hW0⟩ : ∃ W0, W0 = ((w.alloc (.cells #[.int .i64 many, .slice A es.length c] 24)).alloc (.cells #[.int .i64 0, .slice none 0 0] 24)).alloc (.cells #[.int .i64 many, .slice none 0 0] 24) := ⟨_, rfl⟩
      have HX0 : Sid (Ext No w W0) := ⟨by rw [hW0]; exact (((Ext.refl No w).alloc _).alloc _).alloc _⟩
      have HSZ0 : Sid (W0.heap.size = w.heap.size + 3) := ⟨by rw [hW0]; simp⟩
      have HC0 : Sid (W0.cell? ⟨w.heap.size + 1 + 1, 0, none⟩ = some (.int .i64 many) ∧ W0.cell? ⟨w.heap.size + 1 + 1, 1, none⟩ = some (.slice none 0 0) ∧ W0.frozen? ⟨w.heap.size + 1 + 1, 1, none⟩ = false) := ⟨by rw [hW0]; simp [go_sem]⟩
      have HC1 : Sid (W0.cell? ⟨w.heap.size + 1, 0, none⟩ = some (.int .i64 0) ∧ W0.cell? ⟨w.heap.size + 1, 1, none⟩ = some (.slice none 0 0) ∧ W0.frozen? ⟨w.heap.size + 1, 0, none⟩ = false ∧ W0.frozen? ⟨w.heap.size + 1, 1, none⟩ = false) := ⟨by rw [hW0]; simp [go_sem]⟩
      rw [← hW0]
      clear hW0
      go_loopw [23] (fun i wr => ∃ (k : Nat) (v : Value), k ≤ es.length ∧ i = .int .i64 (k : Int) ∧ Sid (∀ j e, j < k → es[j]? = some e → e.length ≤ 8) ∧ wr.cell? ⟨w.heap.size + 1 + 1, 1, none⟩ = some v ∧ wr.frozen? ⟨w.heap.size + 1 + 1, 1, none⟩ = false ∧ Sid (wr.cell? ⟨w.heap.size + 1 + 1, 0, none⟩ = some (.int .i64 many)) ∧ Sid (OwnRows (fun j => w.heap.size + 3 ≤ j) (w.heap.size + 3) wr v (es.take k)) ∧ Sid (Ext (fun j => j = w.heap.size + 1 + 1) W0 wr)) (fun i _ => es.length - (intOf i).toNat)
      case atStart => exact ⟨0, _, Nat.zero_le _, rfl, ⟨fun j e hj => by omega⟩, HC0.out.2.1, HC0.out.2.2, ⟨HC0.out.1⟩, ⟨OwnRows.nil _ _ _⟩, ⟨Ext.refl _ _⟩⟩
      case round =>
        obtain ⟨k, v, hk, rfl, HL, hcv, hfv, HCM, HO, HX⟩ := hrel
        obtain ⟨wo, rfl⟩ : ∃ wo : World, wo = wr := ⟨_, rfl⟩
        have hr0 := HX.out.cell (p := ⟨w.heap.size + 1, 0, none⟩) (by simp) HC1.out.1
        have hr1 := HX.out.cell (p := ⟨w.heap.size + 1, 1, none⟩) (by simp) HC1.out.2.1
        have hf0 : wo.frozen? ⟨w.heap.size + 1, 0, none⟩ = false := (HX.out.frozen (p := ⟨w.heap.size + 1, 0, none⟩) (by simp) (by rw [HSZ0.out]; simp)).trans HC1.out.2.2.1
        have hf1 : wo.frozen? ⟨w.heap.size + 1, 1, none⟩ = false := (HX.out.frozen (p := ⟨w.heap.size + 1, 1, none⟩) (by simp) (by rw [HSZ0.out]; simp)).trans HC1.out.2.2.2
        have HXF : Sid (Ext No w wo) := ⟨HX0.out.step HX.out (fun i hi he => by omega)⟩
        by_cases hlt : k < es.length
        · obtain ⟨b, off, A', c', r, rfl, hPb, hcell0, HR', HI'⟩ := HAT.out k hlt
          have hcell := HXF.out.no hcell0
          have HI2 : Sid (IntsR .i64 P wo (.slice A' r.length c') r) := ⟨HI'.out.no HXF.out⟩
          clear hcell0 HI'
          by_cases h8 : r.length ≤ 8
          · have h8' : ¬ ((8 : Int) < (r.length : Int)) := by omega
            have HRL : Sid (r.length ≤ 1000000) := ⟨by omega⟩
            obtain ⟨Fact, hFact⟩ : ∃ Fact : Nat → Value → World → Prop, Fact = fun i u W => (i = 3 → IntsR .i64 (fun j => wo.heap.size ≤ j) W u r) ∧ (i = 4 → ∃ g, u = .slice (some ⟨g, 0, none⟩) 1 1 ∧ RowsR (fun j => wo.heap.size ≤ j) W u [r]) := ⟨_, rfl⟩
            obtain ⟨Pure, hPure⟩ : ∃ Pure : Nat → Value → Prop, Pure = fun i u => (i = 0 → u = .pointer (some ⟨w.heap.size + 1 + 1, 1, none⟩)) ∧ (i = 1 → u = v) ∧ (i = 2 → u = .slice A' r.length c') ∧ (i = 6 → u = .pointer (some ⟨w.heap.size + 1 + 1, 1, none⟩)) := ⟨_, rfl⟩
            obtain ⟨Aft, hAft⟩ : ∃ Aft : (Nat → Value) → (Nat → Bool) → World → Prop, Aft = fun s l W =>
              (l 7 = false → OwnRows (fun j => w.heap.size + 3 ≤ j) (w.heap.size + 3) W (s 5) (es.take k ++ [r]) ∧ Ext (fun j => some j = v.ownBlock) wo W) ∧
              (l 7 = true → ∃ v1, W.cell? ⟨w.heap.size + 1 + 1, 1, none⟩ = some v1 ∧ W.frozen? ⟨w.heap.size + 1 + 1, 1, none⟩ = false ∧ W.cell? ⟨w.heap.size + 1 + 1, 0, none⟩ = some (.int .i64 many) ∧ OwnRows (fun j => w.heap.size + 3 ≤ j) (w.heap.size + 3) W v1 (es.take k ++ [r]) ∧ Ext (fun j => j = w.heap.size + 1 + 1 ∨ some j = v.ownBlock) wo W) := ⟨_, rfl⟩
            have HFA := Sid.mk hFact
            have HPU := Sid.mk hPure
            have HAF := Sid.mk hAft
            have HST : Sid (∀ i u W W', Ext No W W' → Fact i u W → Fact i u W') := ⟨fun i u W W' hx hf => by
              rw [hFact] at hf ⊢
              exact ⟨fun h => (hf.1 h).no hx, fun h => by obtain ⟨g, h1, h2⟩ := hf.2 h; exact ⟨g, h1, h2.no hx⟩⟩⟩
            have HF3 : Sid (∀ u W, Fact 3 u W = IntsR .i64 (fun j => wo.heap.size ≤ j) W u r) := ⟨fun u W => by rw [hFact]; simp⟩
            have HF4 : Sid (∀ u W, Fact 4 u W = ∃ g, u = .slice (some ⟨g, 0, none⟩) 1 1 ∧ RowsR (fun j => wo.heap.size ≤ j) W u [r]) := ⟨fun u W => by rw [hFact]; simp⟩
            have HFT : Sid (∀ i u W, i ≠ 3 → i ≠ 4 → Fact i u W) := ⟨fun i u W h3 h4 => by
              rw [hFact]; exact ⟨fun h => absurd h h3, fun h => absurd h h4⟩⟩
            have HP0 : Sid (∀ u, Pure 0 u = (u = .pointer (some ⟨w.heap.size + 1 + 1, 1, none⟩))) := ⟨fun u => by rw [hPure]; simp⟩
            have HP1 : Sid (∀ u, Pure 1 u = (u = v)) := ⟨fun u => by rw [hPure]; simp⟩
            have HP2 : Sid (∀ u, Pure 2 u = (u = .slice A' r.length c')) := ⟨fun u => by rw [hPure]; simp⟩
            have HP6 : Sid (∀ u, Pure 6 u = (u = .pointer (some ⟨w.heap.size + 1 + 1, 1, none⟩))) := ⟨fun u => by rw [hPure]; simp⟩
            have HPT : Sid (∀ i u, i = 3 ∨ i = 4 ∨ i = 5 ∨ i = 7 → Pure i u) := ⟨fun i u h => by rw [hPure]; rcases h with rfl | rfl | rfl | rfl <;> simp⟩
            clear hFact hPure hAft
            go_wp2
            refine (wpIn_wide (n := 0)).1 ?_
            refine wpIn_slots (fun s => { tmps := #[.agg #[.int .i64 many, .slice (some ⟨b, off, none⟩) es.length c], .pointer (some ⟨w.heap.size, 0, none⟩), .pointer (some ⟨w.heap.size + 1, 0, none⟩), u3, .pointer (some ⟨w.heap.size + 1 + 1, 0, none⟩), undef, .slice A' r.length c', .pointer (some ⟨w.heap.size, 1, none⟩), .slice (some ⟨b, off, none⟩) es.length c, .int .i64 (es.length : Int), .bool false, .bool false, .pointer (some ⟨w.heap.size, 0, none⟩), .int .i64 many, .bool false, .bool false, undef, .pointer (some ⟨w.heap.size, 0, none⟩), .int .i64 many, .agg #[.int .i64 many, .slice none 0 0], .pointer (some ⟨w.heap.size, 1, none⟩), .slice (some ⟨b, off, none⟩) es.length c, .int .i64 (es.length : Int), .int .i64 (k : Int), .bool true, .pointer (some ⟨b, off + k, none⟩), .slice A' r.length c', .slice A' r.length c', .int .i64 (r.length : Int), .bool false, u30, s 0, s 1, s 2, s 3, s 4, s 5, s 6, u38, undef], defers := [] })
              (PhA [(1, 0), (3, 2), (4, 3), (5, 1), (5, 4), (7, 5), (7, 6)] 5 wo.drew Fact Pure Aft) (fun i => #[u31, u32, u33, u34, u35, u36, u37].getD i undef) (by kernel_rfl) (by kernel_rfl) ⟨fun _ _ => rfl, fun _ _ => rfl, fun _ _ => rfl, fun _ _ => rfl, fun _ _ => rfl, fun _ _ => rfl, fun _ _ => rfl, fun _ _ => rfl, trivial⟩ ?ha ?h0
              ⟨?s0, ?s1, ?s2, ?s3, ?s4, ?s5, ?s6, ?s7, trivial⟩ ?hend
            case ha => rfl
            case h0 => exact PhA.start
            case s0 =>
              rintro s l w' K hl hd hp hK
              have hc : l 5 = false := by
                cases h5 : l 5 with
                | false => rfl
                | true =>
                  have h1 := hp.dep 5 1 (by simp) h5
                  have h0 := hp.dep 1 0 (by simp) h1
                  rw [hl] at h0; cases h0
              have hdp : ∀ j, (0, j) ∈ [(1, 0), (3, 2), (4, 3), (5, 1), (5, 4), (7, 5), (7, 6)] → l j = true := (by intro j hj; simp at hj)
              have HP := Sid.mk (hp.step HST.out (i := 0) (v := .pointer (some ⟨w.heap.size + 1 + 1, 1, none⟩)) (by decide) hdp hc (Ext.refl _ _) (HFT.out _ _ _ (by decide) (by decide)) (by rw [HP0.out]))
              clear hp hd hdp
              gi_wp2
              exact HP.out
            case s1 =>
              rintro s l w' K hl hd hp hK
              have hc : l 5 = false := by
                cases h5 : l 5 with
                | false => rfl
                | true =>
                  have h1 := hp.dep 5 1 (by simp) h5
                  rw [hl] at h1; cases h1
              have hdp : ∀ j, (1, j) ∈ [(1, 0), (3, 2), (4, 3), (5, 1), (5, 4), (7, 5), (7, 6)] → l j = true := (by intro j hj; simp at hj; subst hj; exact hd { on := 0, ground := .data } (by simp) rfl)
              have e0 : s 0 = .pointer (some ⟨w.heap.size + 1 + 1, 1, none⟩) := by have h := hp.pur 0 (hd { on := 0, ground := .data } (by simp) rfl); rwa [HP0.out] at h
              simp only [e0] at hK
              have hcw := (hp.bef hc).1.no (p := ⟨w.heap.size + 1 + 1, 1, none⟩) hcv
              have HP := Sid.mk (hp.step HST.out (i := 1) (v := v) (by decide) hdp hc (Ext.refl _ _) (HFT.out _ _ _ (by decide) (by decide)) (by rw [HP1.out]))
              clear hp hd hdp
              gi_wp2
              exact HP.out
            case s2 =>
              rintro s l w' K hl hd hp hK
              have hc : l 5 = false := by
                cases h5 : l 5 with
                | false => rfl
                | true =>
                  have h4 := hp.dep 5 4 (by simp) h5
                  have h3 := hp.dep 4 3 (by simp) h4
                  have h2 := hp.dep 3 2 (by simp) h3
                  rw [hl] at h2; cases h2
              have hdp : ∀ j, (2, j) ∈ [(1, 0), (3, 2), (4, 3), (5, 1), (5, 4), (7, 5), (7, 6)] → l j = true := (by intro j hj; simp at hj)
              have HP := Sid.mk (hp.step HST.out (i := 2) (v := .slice A' r.length c') (by decide) hdp hc (Ext.refl _ _) (HFT.out _ _ _ (by decide) (by decide)) (by rw [HP2.out]))
              clear hp hd hdp
              gi_wp2
              exact HP.out
            case s3 =>
              rintro s l w' K hl hd hp hK
              have hc : l 5 = false := by
                cases h5 : l 5 with
                | false => rfl
                | true =>
                  have h4 := hp.dep 5 4 (by simp) h5
                  have h3 := hp.dep 4 3 (by simp) h4
                  rw [hl] at h3; cases h3
              have hdp : ∀ j, (3, j) ∈ [(1, 0), (3, 2), (4, 3), (5, 1), (5, 4), (7, 5), (7, 6)] → l j = true := (by intro j hj; simp at hj; subst hj; exact hd { on := 2, ground := .data } (by simp) rfl)
              have e2 : s 2 = .slice A' r.length c' := by have h := hp.pur 2 (hd { on := 2, ground := .data } (by simp) rfl); rwa [HP2.out] at h
              simp only [e2] at hK
              have hx := (hp.bef hc).1
              have HIW : Sid (IntsR .i64 P w' (.slice A' r.length c') r) := ⟨HI2.out.no ((Ext.refl No wo).drew.trans hx)⟩
              have HSW : Sid (wo.heap.size ≤ w'.heap.size) := ⟨by have := hx.size; simpa using this⟩
              have HPP := Sid.mk hp
              have HC := Sid.mk hc
              have HDP := Sid.mk hdp
              clear hp hd hx hc hdp
              gi_wp2_with (refine ⟨trivial, rfl, ?_⟩; gi_at_call 10; refine (callsIn_wide.2 (Clone_any _ r _ HIW.out HRL.out)).mono ?_; rintro e w2 ⟨v2, rfl, hr2, hx2⟩; have HR2 := Sid.mk hr2; have HX2 := Sid.mk hx2; clear hr2 hx2)
              exact HPP.out.step HST.out (i := 3) (by decide) HDP.out HC.out HX2.out (by rw [HF3.out]; exact HR2.out.imp (fun j _ hj => by have := HSW.out; omega)) (HPT.out _ _ (by simp))
            case s4 =>
              rintro s l w' K hl hd hp hK
              have hc : l 5 = false := by
                cases h5 : l 5 with
                | false => rfl
                | true =>
                  have h4 := hp.dep 5 4 (by simp) h5
                  rw [hl] at h4; cases h4
              have hdp : ∀ j, (4, j) ∈ [(1, 0), (3, 2), (4, 3), (5, 1), (5, 4), (7, 5), (7, 6)] → l j = true := (by intro j hj; simp at hj; subst hj; exact hd { on := 3, ground := .data } (by simp) rfl)
              have hl3 := hd { on := 3, ground := .data } (by simp) rfl
              have hf3 := (hp.bef hc).2 3 hl3
              rw [HF3.out] at hf3
              obtain ⟨A3, c3, e3, _⟩ := hf3.at
              rw [e3] at hf3
              simp only [e3] at hK
              have HF := Sid.mk hf3
              have HSW : Sid (wo.heap.size ≤ w'.heap.size) := ⟨by have := (hp.bef hc).1.size; simpa using this⟩
              have HPP := Sid.mk hp
              have HC := Sid.mk hc
              have HDP := Sid.mk hdp
              clear hp hd hc hdp hf3
              gi_wp2
              exact HPP.out.step HST.out (i := 4) (by decide) HDP.out HC.out (ext_box _) (by
                rw [HF4.out]
                refine ⟨_, rfl, (Own.lit1 w' w'.heap.size 28 (.slice A3 r.length c3) (Nat.le_refl _)).rows (xss := [r]) (by simp) (fun j hj => by simp [Value.ownBlock] at hj; have := HSW.out; omega) (fun j u xs hu hxs => ?_)⟩
                rcases j with _ | j
                · simp at hu hxs; subst hu; subst hxs; exact HF.out.no (ext_box _)
                · simp at hu) (HPT.out _ _ (by simp))
            case s5 =>
              rintro s l w' K hl hd hp hK
              have hdp : ∀ j, (5, j) ∈ [(1, 0), (3, 2), (4, 3), (5, 1), (5, 4), (7, 5), (7, 6)] → l j = true := (by intro j hj; simp at hj; rcases hj with rfl | rfl; all_goals (first | exact hd { on := 1, ground := .data } (by simp) rfl | exact hd { on := 4, ground := .data } (by simp) rfl))
              have e1 : s 1 = v := by have h := hp.pur 1 (hd { on := 1, ground := .data } (by simp) rfl); rwa [HP1.out] at h
              have hl4 := hd { on := 4, ground := .data } (by simp) rfl
              obtain ⟨hx, hfs⟩ := hp.bef hl
              have hf4 := hfs 4 hl4
              rw [HF4.out] at hf4
              obtain ⟨g, e4, hr4⟩ := hf4
              rw [e4] at hr4
              have hxw : Ext No wo w' := (Ext.refl No wo).drew.trans hx
              refine appRowIn (P := fun j => w.heap.size + 3 ≤ j) (w.heap.size + 3) (.tmp 32) (.tmp 35) 22 rfl Tryd.underlying22 info28 v (es.take k) r e1 ⟨g, 0, none⟩ 1 e4 (HO.out.no hxw) (hr4.imp (fun j _ hj => ⟨by have := HX.out.size; have := HSZ0.out; omega, fun he => by have := (HO.out.ge j he.symm).2; omega⟩)) (by have := hxw.size; have := HX.out.size; have := HSZ0.out; omega) (by rw [List.length_take]; omega) ?_
              intro v1 w1 ho1 hx1 hb1 hs1
              refine hK v1 w1 (hp.after hdp setL_eq (HPT.out _ _ (by simp)) ?_)
              rw [HAF.out]
              refine ⟨fun _ => ⟨by rw [setS_eq]; exact ho1, (hxw.mono (Y := fun j => some j = v.ownBlock) (fun _ h => h.elim)).trans hx1⟩, fun h7 => ?_⟩
              rw [setL_ne (by decide)] at h7
              have := hp.dep 7 5 (by simp) h7
              rw [hl] at this; cases this
            case s6 =>
              rintro s l w' K hl hd hp hK
              have hdp : ∀ j, (6, j) ∈ [(1, 0), (3, 2), (4, 3), (5, 1), (5, 4), (7, 5), (7, 6)] → l j = true := (by intro j hj; simp at hj)
              have HP := Sid.mk (hp.pure (i := 6) (v := .pointer (some ⟨w.heap.size + 1 + 1, 1, none⟩)) (by decide) hdp (fun _ => HFT.out _ _ _ (by decide) (by decide)) (by rw [HP6.out]) (fun h => by
                rw [HAF.out] at h ⊢
                refine ⟨?_, ?_⟩
                · rw [setL_ne (by omega), setS_ne (by omega)]; exact h.1
                · rw [setL_ne (by omega)]; exact h.2))
              clear hp hd hdp
              gi_wp2
              exact HP.out
            case s7 =>
              rintro s l w' K hl hd hp hK
              have hdp : ∀ j, (7, j) ∈ [(1, 0), (3, 2), (4, 3), (5, 1), (5, 4), (7, 5), (7, 6)] → l j = true := (by intro j hj; simp at hj; rcases hj with rfl | rfl; all_goals (first | exact hd { on := 5, ground := .data } (by simp) rfl | exact hd { on := 6, ground := .data } (by simp) rfl))
              have e6 : s 6 = .pointer (some ⟨w.heap.size + 1 + 1, 1, none⟩) := by have h := hp.pur 6 (hd { on := 6, ground := .data } (by simp) rfl); rwa [HP6.out] at h
              have hl5 := hd { on := 5, ground := .data } (by simp) rfl
              have ha := hp.aft hl5
              rw [HAF.out] at ha
              obtain ⟨ho1, hx1⟩ := ha.1 hl
              obtain ⟨A5, c5, e5⟩ := ho1.slice
              have hlen : (es.take k ++ [r]).length = k + 1 := by rw [List.length_append, List.length_take]; simp; omega
              rw [hlen] at e5
              have hne : ¬ some (w.heap.size + 1 + 1) = v.ownBlock := fun he => by have := (HO.out.ge _ he.symm).1; omega
              have hcw := hx1.cell (p := ⟨w.heap.size + 1 + 1, 1, none⟩) hne hcv
              have hfw : w'.frozen? ⟨w.heap.size + 1 + 1, 1, none⟩ = false := (hx1.frozen (p := ⟨w.heap.size + 1 + 1, 1, none⟩) hne (World.block_lt_of_cell? wo _ hcv)).trans hfv
              have hcm := hx1.cell (p := ⟨w.heap.size + 1 + 1, 0, none⟩) hne HCM.out
              obtain ⟨v5, hv5⟩ : ∃ v5, s 5 = v5 := ⟨_, rfl⟩
              rw [hv5] at ho1 e5
              simp only [e6, hv5] at hK
              have HPP := Sid.mk hp
              have HO1 := Sid.mk ho1
              have HX1 := Sid.mk hx1
              have HDP := Sid.mk hdp
              have HCW := Sid.mk hcw
              have HFW := Sid.mk hfw
              have HCM2 := Sid.mk hcm
              clear hp hd hdp ho1 hx1 hcm ha
              subst e5
              have hxs : Ext (fun j => j = w.heap.size + 1 + 1) w' (w'.setCell ⟨w.heap.size + 1 + 1, 1, none⟩ (.slice A5 (k + 1) c5)) := (Ext.refl (fun j => j = w.heap.size + 1 + 1) w').setCell (p := ⟨w.heap.size + 1 + 1, 1, none⟩) (Or.inl rfl) _
              have HXS := Sid.mk hxs
              clear hxs
              gi_wp2
              refine hK undef _ ?_
              refine HPP.out.after HDP.out (by rw [setL_ne (by decide)]; exact hl5) (HPT.out _ _ (by simp)) ?_
              rw [HAF.out]
              refine ⟨fun h7 => (by rw [setL_eq] at h7; cases h7), fun _ => ⟨.slice A5 (k + 1) c5, World.cell?_setCell_same' _ _ _ (by rw [HCW.out]; rfl), by simp [HFW.out], ?_, HO1.out.ext HXS.out (fun j hj he => by have := (HO1.out.ge j hj).1; omega) (fun j hj he => by omega), ?_⟩⟩
              · have hcm2 := HCM2.out; have hcw2 := HCW.out; simp [go_sem, hcm2, hcw2]
              · exact (HX1.out.mono (fun _ h => Or.inr h)).trans (HXS.out.mono (fun _ h => Or.inl h))
            case hend =>
              rintro s l w' hl hp
              have ha := hp.aft (hl 5 (by decide))
              rw [HAF.out] at ha
              obtain ⟨v1, hc1, hf1', hcm1, ho1, hx1⟩ := ha.2 (hl 7 (by decide))
              have HO1 := Sid.mk ho1
              have HX1 := Sid.mk hx1
              have HCM1 := Sid.mk hcm1
              clear hp ho1 hx1 hcm1 ha hl
              dsimp only
              go_wp2
              go_roundw
              case rel => exact ⟨k + 1, v1, by omega, by go_num, ⟨fun j e hj he => by
                by_cases hjk : j = k
                · subst hjk; rw [HR'.out] at he; cases he; exact h8
                · exact HL.out j e (by omega) he⟩, hc1, hf1', HCM1, ⟨by rw [take_succ_of HR'.out]; exact HO1.out⟩, ⟨HX.out.step HX1.out (fun i hi he => by
                  rcases he with he | he
                  · exact he
                  · have := (HO.out.ge i he.symm).1; have := HSZ0.out; omega)⟩⟩
              case measure => simp [intOf]; omega
          · have h8' : ((8 : Int) < (r.length : Int)) := by omega
            have HA : Sid (ownB many es = false) := ⟨HNO.out k r HR'.out h8⟩
            go_wp2
            refine bodyPost_ret (v := .tuple #[.agg #[.int .i64 0, .slice none 0 0], .bool false]) (by simp [results, Tryd.results9, go_sem, hr0, hr1]) rfl (OwnPost.no HA.out ?_)
            exact HXF.out.step (((Ext.refl (fun j => j = w.heap.size + 1) wo).setCell (p := ⟨w.heap.size + 1, 0, none⟩) (Or.inl rfl) _).setCell (p := ⟨w.heap.size + 1, 1, none⟩) (Or.inl rfl) _) (fun i hi he => by omega)
        · obtain rfl : k = es.length := by omega
          have hcm := HCM.out
          have HA : Sid (ownB many es = true) := ⟨HOK.out (fun e he => by
            obtain ⟨j, hj⟩ := List.mem_iff_getElem?.1 he
            exact HL.out j e (List.getElem?_eq_some_iff.1 hj).1 hj)⟩
          have HO2 : Sid (OwnRows (fun j => w.heap.size + 3 ≤ j) (w.heap.size + 3) wo v es) := ⟨by have := HO.out; rwa [List.take_length] at this⟩
          obtain ⟨Av, cv, rfl⟩ := HO2.out.slice
          go_wp2
          obtain ⟨v9, hv9⟩ : ∃ v9 : Value, Value.slice Av es.length cv = v9 := ⟨_, rfl⟩
          obtain ⟨W9, hW9⟩ : ∃ W9, W9 = ((wo.setCell ⟨w.heap.size + 1, 0, none⟩ (.int .i64 many)).setCell ⟨w.heap.size + 1, 1, none⟩ (.slice Av es.length cv)) := ⟨_, rfl⟩
          have hx9 : Ext (fun j => j = w.heap.size + 1) wo W9 := by rw [hW9]; exact (((Ext.refl (fun j => j = w.heap.size + 1) wo).setCell (p := ⟨w.heap.size + 1, 0, none⟩) (Or.inl rfl) _).setCell (p := ⟨w.heap.size + 1, 1, none⟩) (Or.inl rfl) _)
          have g0 : W9.cell? ⟨w.heap.size + 1, 0, none⟩ = some (.int .i64 many) := by rw [hW9]; simp [go_sem, hr0, hr1, hf0, hf1]
          have g1 : W9.cell? ⟨w.heap.size + 1, 1, none⟩ = some (.slice Av es.length cv) := by rw [hW9]; simp [go_sem, hr0, hr1, hf0, hf1]
          rw [← hW9]
          refine bodyPost_ret (v := .tuple #[.agg #[.int .i64 many, .slice Av es.length cv], .bool true]) (by simp [results, Tryd.results9, go_sem, g0, g1]) rfl (OwnPost.yes HA.out (HXF.out.step hx9 (fun i hi he => by omega)) ?_)
          exact ((HO2.out.ext hx9 (fun j hj he => by have := (HO2.out.ge j hj).1; omega) (fun j hj he => by omega)).rows (by omega) (fun j hj => by have := (HO2.out.ge j hj).1; omega) (fun j hj => by omega))
    · have HA : Sid (ownB many es = false) := ⟨by simp [ownB, h6]⟩
      have h7' : ¬ ((7 : Int) < (es.length : Int)) := by omega
      have h6' : ((6 : Int) < many) := by omega
      go_enter Tryd.func9, Tryd.ntmps9
      go_wp2
      exact bodyPost_ret (v := .tuple #[.agg #[.int .i64 0, .slice none 0 0], .bool false]) (by simp [results, Tryd.results9, go_sem]) rfl (OwnPost.no HA.out (((Ext.refl No w).alloc _).alloc _))
  · have HA : Sid (ownB many es = false) := ⟨by simp [ownB, h7]⟩
    have h7' : ((7 : Int) < (es.length : Int)) := by omega
    go_enter Tryd.func9, Tryd.ntmps9
    go_wp2
    exact bodyPost_ret (v := .tuple #[.agg #[.int .i64 0, .slice none 0 0], .bool false]) (by simp [results, Tryd.results9, go_sem]) rfl (OwnPost.no HA.out (((Ext.refl No w).alloc _).alloc _))
end Go.Proofs.YtceiaekkfabeaaaDoor

/- DecompCovers: the walk over the law. -/
namespace Go.Proofs.YtceiaekkfabeaaaDoor
open Go.RowKit Go.Shelf Pl

theorem IntsR.takes {k : IntKind} {P : Nat → Prop} {w : World} {A : Option Addr} {n c : Nat} {xs : List Int} (h : IntsR k P w (.slice A n c) xs) (m : Nat) (hm : m ≤ n) : IntsR k P w (.slice A m c) (xs.take m) := by
  obtain ⟨A', c', hv, hc, hmx, hn⟩ := h
  simp only [Value.slice.injEq] at hv
  obtain ⟨rfl, rfl, rfl⟩ := hv
  have hl : (xs.take m).length = m := by rw [List.length_take]; omega
  refine ⟨A, c, by rw [hl], ⟨by omega, hc.2⟩, by omega, fun hp => ?_⟩
  obtain ⟨ad, ha, hpa, hs, hj⟩ := hn (by omega)
  refine ⟨ad, ha, hpa, hs, fun j hjl => ?_⟩
  obtain ⟨cs, h1, h2, h3⟩ := hj j (by omega)
  exact ⟨cs, by rw [h1]; simp, h2, h3⟩

set_option maxHeartbeats 4000000 in
set_option maxRecDepth 100000 in
theorem covers_law_any {P P1 : Nat → Prop} (many : Int) (ev rv : Value) (es rows : List (List Int)) (w : World) (he : RowsR P w ev es) (hr : RowsR P1 w rv rows) (hT : TabW w) :
    Calls Tryd.prog 3 #[.agg #[.int .i64 many, ev], rv] w fun e w' => e = .returned (.bool true) ∧ Ext No w w' := by
  obtain ⟨Ae, ce, rfl, _⟩ := he.at
  obtain ⟨Ar, cr, rfl, _, hmr, hat⟩ := hr.at
  have HE := Sid.mk he
  have HR := Sid.mk hr
  have HAT := Sid.mk hat
  have HT := Sid.mk hT
  clear he hr hat hT
  have HB0 : Sid (∀ w', Ext No (w.alloc (.cells #[.int .i64 many, .slice Ae es.length ce] 24)) w' → w'.cell? ⟨w.heap.size, 0, none⟩ = some (.int .i64 many) ∧ w'.cell? ⟨w.heap.size, 1, none⟩ = some (.slice Ae es.length ce)) := ⟨fun w' hx => ⟨hx.no (by simp), hx.no (by simp)⟩⟩
  cases hob : ownB many es with
  | false =>
    have HOB := Sid.mk hob
    clear hob
    go_enter Tryd.func3, Tryd.ntmps3
    go_wp2_with (first
      | (go_at_call 8; refine (wakes_any _ (HT.out.no (ext_box _))).mono ?_; rintro e w1 ⟨rfl, hx1⟩; have h0 := (HB0.out _ hx1).1; have h1 := (HB0.out _ hx1).2; have HX1 := Sid.mk hx1; clear hx1)
      | (go_at_call 9; refine (own_any many _ es _ (HE.out.no ((ext_box _).trans HX1.out))).mono ?_; rintro e w2 ⟨hx2, hif⟩; rw [HOB.out] at hif; simp only [Bool.false_eq_true, if_false] at hif; subst hif; have HX2 := Sid.mk hx2; clear hx2))
    go_ret
    exact ⟨rfl, (((ext_box _).trans HX1.out).trans HX2.out).alloc _⟩
  | true =>
    have HOB := Sid.mk hob
    have h8 : es.length ≤ 7 ∧ many ≤ 6 := by simp only [ownB, Bool.and_eq_true, decide_eq_true_eq] at hob; exact hob.1
    clear hob
    go_enter Tryd.func3, Tryd.ntmps3
    go_wp2_with (first
      | (go_at_call 8; refine (wakes_any _ (HT.out.no (ext_box _))).mono ?_; rintro e w1 ⟨rfl, hx1⟩; have h0 := (HB0.out _ hx1).1; have h1 := (HB0.out _ hx1).2; have HX1 := Sid.mk hx1; clear hx1)
      | (go_at_call 9; refine (own_any many _ es _ (HE.out.no ((ext_box _).trans HX1.out))).mono ?_; rintro e w2 ⟨hx2, hif⟩; rw [HOB.out] at hif; simp only [if_true] at hif; obtain ⟨v2, rfl, hr2⟩ := hif; obtain ⟨A2, c2, rfl, _⟩ := hr2.at; have HR2 := Sid.mk hr2; have HX2 := Sid.mk hx2; clear hr2 hx2))
    obtain ⟨W, hW⟩ : ∃ W, W = w2.alloc (.cells #[.int .i64 many, .slice A2 es.length c2] 24) := ⟨_, rfl⟩
    have HXW : Sid (Ext No w W) := ⟨by rw [hW]; exact (((ext_box _).trans HX1.out).trans HX2.out).alloc _⟩
    have HRW : Sid (RowsR (fun k => w1.heap.size ≤ k) W (.slice A2 es.length c2) es) := ⟨by rw [hW]; exact HR2.out.no (ext_box _)⟩
    have HCW : Sid (∀ w', Ext No W w' → w'.cell? ⟨w2.heap.size, 0, none⟩ = some (.int .i64 many) ∧ w'.cell? ⟨w2.heap.size, 1, none⟩ = some (.slice A2 es.length c2)) := ⟨fun w' hx => ⟨hx.no (by rw [hW]; simp), hx.no (by rw [hW]; simp)⟩⟩
    rw [← hW]
    clear hW h0 h1
    go_loopw [25] (fun i wr => ∃ k : Nat, k ≤ rows.length ∧ i = .int .i64 (k : Int) ∧ Sid (Ext No W wr)) (fun i _ => rows.length - (intOf i).toNat)
    case atStart => exact ⟨0, Nat.zero_le _, rfl, ⟨Ext.refl _ _⟩⟩
    case round =>
      obtain ⟨k, hk, rfl, HX⟩ := hrel
      obtain ⟨wo, rfl⟩ : ∃ wo : World, wo = wr := ⟨_, rfl⟩
      by_cases hlt : k < rows.length
      · obtain ⟨b, off, A', c', r, rfl, _, hcell0, HR', HI'⟩ := HAT.out k hlt
        have hcell := (HXW.out.trans HX.out).no hcell0
        have HIR : Sid (IntsR .i64 P1 wo (.slice A' r.length c') r) := ⟨HI'.out.no (HXW.out.trans HX.out)⟩
        have hg0 := (HCW.out _ HX.out).1
        have hg1 := (HCW.out _ HX.out).2
        clear hcell0 HI' HR'
        by_cases h5 : k = 5
        · have h5' : ((k : Int) == 5) = true := by simp [h5]
          clear h5
          go_wp2
          go_ret
          exact ⟨rfl, HXW.out.trans HX.out⟩
        · have h5' : ((k : Int) == 5) = false := by rw [beq_eq_false_iff_ne]; omega
          clear h5
          have hcr : r.length ≤ c' := by
            obtain ⟨A9, c9, e9, hcr, _⟩ := HIR.out.at
            simp only [Value.slice.injEq] at e9
            rw [e9.2.2]; exact hcr
          by_cases h7 : r.length ≤ 7
          · obtain ⟨r2, hr2⟩ : ∃ r2, r2 = r := ⟨_, rfl⟩
            have HI2 : Sid (IntsR .i64 P1 wo (.slice A' r.length c') r2) := ⟨by rw [hr2]; exact HIR.out⟩
            have HL7 : Sid (r2.length ≤ 7) := ⟨by rw [hr2]; exact h7⟩
            have h7' : (r.length : Int) ≤ 7 := by omega
            clear hr2 h7
            cases hg1b : hyperB many es with
            | false =>
              have HCA : Sid (coverA many es r2 = (300, none)) := ⟨by rw [coverA, if_pos hg1b]⟩
              have G1 := Sid.mk hg1b
              clear hg1b
              go_wp2_with (first
                | (go_at_call 10; refine (Clone_any _ r2 _ HI2.out (by have := HL7.out; omega)).mono ?_; rintro e w3 ⟨v3, rfl, hi3, hx3⟩; obtain ⟨A3, c3, rfl, _⟩ := hi3.at; have hg0' := hx3.no hg0; have hg1' := hx3.no hg1; have HI3 := Sid.mk hi3; have HX3 := Sid.mk hx3; clear hi3 hx3)
                | (go_at_call 11; refine (Cover_any many _ _ es r2 _ (HRW.out.no (HX.out.trans HX3.out)) HI3.out).mono ?_; rintro e w4 ⟨v4, rfl, ho4, hx4⟩; rw [HCA.out] at ho4 ⊢; have hg2 := hx4.no hg0'; have hg3 := hx4.no hg1'; obtain rfl := ho4; have HX4 := Sid.mk hx4; clear hx4)
                | (go_at_call 12; refine (Right20_any many _ es _ (HRW.out.no (HX.out.trans (HX3.out.trans HX4.out)))).mono ?_; rintro e w5 ⟨rfl, hx5⟩; rw [G1.out]; have hg4 := hx5.no hg2; have hg5 := hx5.no hg3; have HX5 := Sid.mk hx5; clear hx5)
                | (go_at_call 15; refine (Equal_any _ _ ([] : List Int) ([] : List Int) _ (ints_nil _ _ _ : IntsR .i64 (fun _ => True) _ _ []) (ints_nil _ _ _ : IntsR .i64 (fun _ => True) _ _ [])).mono ?_; rintro e w7 ⟨rfl, n7, hw7⟩; rw [show eqB ([] : List Int) ([] : List Int) = true from by simp [eqB]]; have HX7 : Sid (Ext No w5 w7) := ⟨hw7 ▸ (Ext.refl No _).drewN n7⟩; clear hw7))
              go_roundw
              case rel => exact ⟨k + 1, by omega, by go_num, ⟨HX.out.trans (HX3.out.trans (HX4.out.trans (HX5.out.trans HX7.out)))⟩⟩
              case measure => simp [intOf]; omega
            | true =>
              have G1 := Sid.mk hg1b
              cases hg2b : risesB r2 many with
              | false =>
                have HCA : Sid (coverA many es r2 = (2, none)) := ⟨by rw [coverA, if_neg (by simp [hg1b]), if_pos hg2b]⟩
                have G2 := Sid.mk hg2b
                clear hg1b hg2b
                go_wp2_with (first
                  | (go_at_call 10; refine (Clone_any _ r2 _ HI2.out (by have := HL7.out; omega)).mono ?_; rintro e w3 ⟨v3, rfl, hi3, hx3⟩; obtain ⟨A3, c3, rfl, _⟩ := hi3.at; have hg0' := hx3.no hg0; have hg1' := hx3.no hg1; have HI3 := Sid.mk hi3; have HX3 := Sid.mk hx3; clear hi3 hx3)
                  | (go_at_call 11; refine (Cover_any many _ _ es r2 _ (HRW.out.no (HX.out.trans HX3.out)) HI3.out).mono ?_; rintro e w4 ⟨v4, rfl, ho4, hx4⟩; rw [HCA.out] at ho4 ⊢; have hg2 := hx4.no hg0'; have hg3 := hx4.no hg1'; obtain rfl := ho4; have HX4 := Sid.mk hx4; clear hx4)
                  | (go_at_call 12; refine (Right20_any many _ es _ (HRW.out.no (HX.out.trans (HX3.out.trans HX4.out)))).mono ?_; rintro e w5 ⟨rfl, hx5⟩; rw [G1.out]; have hg4 := hx5.no hg2; have hg5 := hx5.no hg3; have HX5 := Sid.mk hx5; clear hx5)
                  | (go_at_call 13; refine (Rises_any _ r2 many _ (HI3.out.no (HX4.out.trans HX5.out))).mono ?_; rintro e w6 ⟨rfl, rfl⟩; rw [G2.out])
                  | (go_at_call 15; refine (Equal_any _ _ ([] : List Int) ([] : List Int) _ (ints_nil _ _ _ : IntsR .i64 (fun _ => True) _ _ []) (ints_nil _ _ _ : IntsR .i64 (fun _ => True) _ _ [])).mono ?_; rintro e w7 ⟨rfl, n7, hw7⟩; rw [show eqB ([] : List Int) ([] : List Int) = true from by simp [eqB]]; have HX7 : Sid (Ext No w5 w7) := ⟨hw7 ▸ (Ext.refl No _).drewN n7⟩; clear hw7))
                go_roundw
                case rel => exact ⟨k + 1, by omega, by go_num, ⟨HX.out.trans (HX3.out.trans (HX4.out.trans (HX5.out.trans HX7.out)))⟩⟩
                case measure => simp [intOf]; omega
              | true =>
                have G2 := Sid.mk hg2b
                have hlaw := cover_law hg1b hg2b
                cases hrc : refCover es r2 with
                | none =>
                  have HCA : Sid (coverA many es r2 = (4, none)) := ⟨by rw [hlaw, hrc]⟩
                  have HRC := Sid.mk hrc
                  clear hg1b hg2b hlaw hrc
                  go_wp2_with (first
                    | (go_at_call 10; refine (Clone_any _ r2 _ HI2.out (by have := HL7.out; omega)).mono ?_; rintro e w3 ⟨v3, rfl, hi3, hx3⟩; obtain ⟨A3, c3, rfl, _⟩ := hi3.at; have hg0' := hx3.no hg0; have hg1' := hx3.no hg1; have HI3 := Sid.mk hi3; have HX3 := Sid.mk hx3; clear hi3 hx3)
                    | (go_at_call 11; refine (Cover_any many _ _ es r2 _ (HRW.out.no (HX.out.trans HX3.out)) HI3.out).mono ?_; rintro e w4 ⟨v4, rfl, ho4, hx4⟩; rw [HCA.out] at ho4 ⊢; have hg2 := hx4.no hg0'; have hg3 := hx4.no hg1'; obtain rfl := ho4; have HX4 := Sid.mk hx4; clear hx4)
                    | (go_at_call 12; refine (Right20_any many _ es _ (HRW.out.no (HX.out.trans (HX3.out.trans HX4.out)))).mono ?_; rintro e w5 ⟨rfl, hx5⟩; rw [G1.out]; have hg4 := hx5.no hg2; have hg5 := hx5.no hg3; have HX5 := Sid.mk hx5; clear hx5)
                    | (go_at_call 13; refine (Rises_any _ r2 many _ (HI3.out.no (HX4.out.trans HX5.out))).mono ?_; rintro e w6 ⟨rfl, rfl⟩; rw [G2.out])
                    | (go_at_call 14; refine (refCover_any many _ _ es r2 _ (HRW.out.no (HX.out.trans (HX3.out.trans (HX4.out.trans HX5.out)))) (HI3.out.no (HX4.out.trans HX5.out)) (by omega) (by have := HL7.out; omega)).mono ?_; rintro e w6 ⟨v6, b6, rfl, ho6, hx6⟩; rw [HRC.out] at ho6; obtain ⟨rfl, rfl⟩ := ho6; have HX6 := Sid.mk hx6; clear hx6)
                    | (go_at_call 15; refine (Equal_any _ _ ([] : List Int) ([] : List Int) _ (ints_nil _ _ _ : IntsR .i64 (fun _ => True) _ _ []) (ints_nil _ _ _ : IntsR .i64 (fun _ => True) _ _ [])).mono ?_; rintro e w7 ⟨rfl, n7, hw7⟩; rw [show eqB ([] : List Int) ([] : List Int) = true from by simp [eqB]]; have HX7 : Sid (Ext No w6 w7) := ⟨hw7 ▸ (Ext.refl No _).drewN n7⟩; clear hw7))
                  go_roundw
                  case rel => exact ⟨k + 1, by omega, by go_num, ⟨HX.out.trans (HX3.out.trans (HX4.out.trans (HX5.out.trans (HX6.out.trans HX7.out))))⟩⟩
                  case measure => simp [intOf]; omega
                | some rr =>
                  have HCA : Sid (coverA many es r2 = (0, some rr)) := ⟨by rw [hlaw, hrc]⟩
                  have HRC := Sid.mk hrc
                  clear hg1b hg2b hlaw hrc
                  go_wp2_with (first
                    | (go_at_call 10; refine (Clone_any _ r2 _ HI2.out (by have := HL7.out; omega)).mono ?_; rintro e w3 ⟨v3, rfl, hi3, hx3⟩; obtain ⟨A3, c3, rfl, _⟩ := hi3.at; have hg0' := hx3.no hg0; have hg1' := hx3.no hg1; have HI3 := Sid.mk hi3; have HX3 := Sid.mk hx3; clear hi3 hx3)
                    | (go_at_call 11; refine (Cover_any many _ _ es r2 _ (HRW.out.no (HX.out.trans HX3.out)) HI3.out).mono ?_; rintro e w4 ⟨v4, rfl, ho4, hx4⟩; rw [HCA.out] at ho4 ⊢; have hg2 := hx4.no hg0'; have hg3 := hx4.no hg1'; obtain ⟨A4, c4, rfl, _⟩ := IntsR.at (xs := rr) ho4; have HO4 : Sid (IntsR .i64 (fun k => w3.heap.size ≤ k) w4 (.slice A4 rr.length c4) rr) := ⟨ho4⟩; clear ho4; have HX4 := Sid.mk hx4; clear hx4)
                    | (go_at_call 12; refine (Right20_any many _ es _ (HRW.out.no (HX.out.trans (HX3.out.trans HX4.out)))).mono ?_; rintro e w5 ⟨rfl, hx5⟩; rw [G1.out]; have hg4 := hx5.no hg2; have hg5 := hx5.no hg3; have HX5 := Sid.mk hx5; clear hx5)
                    | (go_at_call 13; refine (Rises_any _ r2 many _ (HI3.out.no (HX4.out.trans HX5.out))).mono ?_; rintro e w6 ⟨rfl, rfl⟩; rw [G2.out])
                    | (go_at_call 14; refine (refCover_any many _ _ es r2 _ (HRW.out.no (HX.out.trans (HX3.out.trans (HX4.out.trans HX5.out)))) (HI3.out.no (HX4.out.trans HX5.out)) (by omega) (by have := HL7.out; omega)).mono ?_; rintro e w6 ⟨v6, b6, rfl, ho6, hx6⟩; rw [HRC.out] at ho6; obtain ⟨rfl, ho6⟩ := ho6; obtain ⟨A6, c6, rfl, _⟩ := IntsR.at (xs := rr) ho6; have HO6 : Sid (IntsR .i64 (fun k => w5.heap.size ≤ k) w6 (.slice A6 rr.length c6) rr) := ⟨ho6⟩; clear ho6; have HX6 := Sid.mk hx6; clear hx6)
                    | (go_at_call 15; refine (Equal_any _ _ rr rr _ (HO4.out.no (HX5.out.trans HX6.out)) HO6.out).mono ?_; rintro e w7 ⟨rfl, n7, hw7⟩; rw [show eqB rr rr = true from by simp [eqB]]; have HX7 : Sid (Ext No w6 w7) := ⟨hw7 ▸ (Ext.refl No _).drewN n7⟩; clear hw7))
                  go_roundw
                  case rel => exact ⟨k + 1, by omega, by go_num, ⟨HX.out.trans (HX3.out.trans (HX4.out.trans (HX5.out.trans (HX6.out.trans HX7.out))))⟩⟩
                  case measure => simp [intOf]; omega
          · obtain ⟨r2, hr2⟩ : ∃ r2, r2 = r.take 7 := ⟨_, rfl⟩
            have HI2 : Sid (IntsR .i64 P1 wo (.slice A' 7 c') r2) := ⟨by rw [hr2]; exact HIR.out.takes 7 (by omega)⟩
            have HL7 : Sid (r2.length ≤ 7) := ⟨by rw [hr2, List.length_take]; omega⟩
            have h7' : (7 : Int) < (r.length : Int) := by omega
            have hc7 : (7 : Int) ≤ (c' : Int) := by omega
            clear hr2 h7
            cases hg1b : hyperB many es with
            | false =>
              have HCA : Sid (coverA many es r2 = (300, none)) := ⟨by rw [coverA, if_pos hg1b]⟩
              have G1 := Sid.mk hg1b
              clear hg1b
              go_wp2_with (first
                | (go_at_call 10; refine (Clone_any _ r2 _ HI2.out (by have := HL7.out; omega)).mono ?_; rintro e w3 ⟨v3, rfl, hi3, hx3⟩; obtain ⟨A3, c3, rfl, _⟩ := hi3.at; have hg0' := hx3.no hg0; have hg1' := hx3.no hg1; have HI3 := Sid.mk hi3; have HX3 := Sid.mk hx3; clear hi3 hx3)
                | (go_at_call 11; refine (Cover_any many _ _ es r2 _ (HRW.out.no (HX.out.trans HX3.out)) HI3.out).mono ?_; rintro e w4 ⟨v4, rfl, ho4, hx4⟩; rw [HCA.out] at ho4 ⊢; have hg2 := hx4.no hg0'; have hg3 := hx4.no hg1'; obtain rfl := ho4; have HX4 := Sid.mk hx4; clear hx4)
                | (go_at_call 12; refine (Right20_any many _ es _ (HRW.out.no (HX.out.trans (HX3.out.trans HX4.out)))).mono ?_; rintro e w5 ⟨rfl, hx5⟩; rw [G1.out]; have hg4 := hx5.no hg2; have hg5 := hx5.no hg3; have HX5 := Sid.mk hx5; clear hx5)
                | (go_at_call 15; refine (Equal_any _ _ ([] : List Int) ([] : List Int) _ (ints_nil _ _ _ : IntsR .i64 (fun _ => True) _ _ []) (ints_nil _ _ _ : IntsR .i64 (fun _ => True) _ _ [])).mono ?_; rintro e w7 ⟨rfl, n7, hw7⟩; rw [show eqB ([] : List Int) ([] : List Int) = true from by simp [eqB]]; have HX7 : Sid (Ext No w5 w7) := ⟨hw7 ▸ (Ext.refl No _).drewN n7⟩; clear hw7))
              go_roundw
              case rel => exact ⟨k + 1, by omega, by go_num, ⟨HX.out.trans (HX3.out.trans (HX4.out.trans (HX5.out.trans HX7.out)))⟩⟩
              case measure => simp [intOf]; omega
            | true =>
              have G1 := Sid.mk hg1b
              cases hg2b : risesB r2 many with
              | false =>
                have HCA : Sid (coverA many es r2 = (2, none)) := ⟨by rw [coverA, if_neg (by simp [hg1b]), if_pos hg2b]⟩
                have G2 := Sid.mk hg2b
                clear hg1b hg2b
                go_wp2_with (first
                  | (go_at_call 10; refine (Clone_any _ r2 _ HI2.out (by have := HL7.out; omega)).mono ?_; rintro e w3 ⟨v3, rfl, hi3, hx3⟩; obtain ⟨A3, c3, rfl, _⟩ := hi3.at; have hg0' := hx3.no hg0; have hg1' := hx3.no hg1; have HI3 := Sid.mk hi3; have HX3 := Sid.mk hx3; clear hi3 hx3)
                  | (go_at_call 11; refine (Cover_any many _ _ es r2 _ (HRW.out.no (HX.out.trans HX3.out)) HI3.out).mono ?_; rintro e w4 ⟨v4, rfl, ho4, hx4⟩; rw [HCA.out] at ho4 ⊢; have hg2 := hx4.no hg0'; have hg3 := hx4.no hg1'; obtain rfl := ho4; have HX4 := Sid.mk hx4; clear hx4)
                  | (go_at_call 12; refine (Right20_any many _ es _ (HRW.out.no (HX.out.trans (HX3.out.trans HX4.out)))).mono ?_; rintro e w5 ⟨rfl, hx5⟩; rw [G1.out]; have hg4 := hx5.no hg2; have hg5 := hx5.no hg3; have HX5 := Sid.mk hx5; clear hx5)
                  | (go_at_call 13; refine (Rises_any _ r2 many _ (HI3.out.no (HX4.out.trans HX5.out))).mono ?_; rintro e w6 ⟨rfl, rfl⟩; rw [G2.out])
                  | (go_at_call 15; refine (Equal_any _ _ ([] : List Int) ([] : List Int) _ (ints_nil _ _ _ : IntsR .i64 (fun _ => True) _ _ []) (ints_nil _ _ _ : IntsR .i64 (fun _ => True) _ _ [])).mono ?_; rintro e w7 ⟨rfl, n7, hw7⟩; rw [show eqB ([] : List Int) ([] : List Int) = true from by simp [eqB]]; have HX7 : Sid (Ext No w5 w7) := ⟨hw7 ▸ (Ext.refl No _).drewN n7⟩; clear hw7))
                go_roundw
                case rel => exact ⟨k + 1, by omega, by go_num, ⟨HX.out.trans (HX3.out.trans (HX4.out.trans (HX5.out.trans HX7.out)))⟩⟩
                case measure => simp [intOf]; omega
              | true =>
                have G2 := Sid.mk hg2b
                have hlaw := cover_law hg1b hg2b
                cases hrc : refCover es r2 with
                | none =>
                  have HCA : Sid (coverA many es r2 = (4, none)) := ⟨by rw [hlaw, hrc]⟩
                  have HRC := Sid.mk hrc
                  clear hg1b hg2b hlaw hrc
                  go_wp2_with (first
                    | (go_at_call 10; refine (Clone_any _ r2 _ HI2.out (by have := HL7.out; omega)).mono ?_; rintro e w3 ⟨v3, rfl, hi3, hx3⟩; obtain ⟨A3, c3, rfl, _⟩ := hi3.at; have hg0' := hx3.no hg0; have hg1' := hx3.no hg1; have HI3 := Sid.mk hi3; have HX3 := Sid.mk hx3; clear hi3 hx3)
                    | (go_at_call 11; refine (Cover_any many _ _ es r2 _ (HRW.out.no (HX.out.trans HX3.out)) HI3.out).mono ?_; rintro e w4 ⟨v4, rfl, ho4, hx4⟩; rw [HCA.out] at ho4 ⊢; have hg2 := hx4.no hg0'; have hg3 := hx4.no hg1'; obtain rfl := ho4; have HX4 := Sid.mk hx4; clear hx4)
                    | (go_at_call 12; refine (Right20_any many _ es _ (HRW.out.no (HX.out.trans (HX3.out.trans HX4.out)))).mono ?_; rintro e w5 ⟨rfl, hx5⟩; rw [G1.out]; have hg4 := hx5.no hg2; have hg5 := hx5.no hg3; have HX5 := Sid.mk hx5; clear hx5)
                    | (go_at_call 13; refine (Rises_any _ r2 many _ (HI3.out.no (HX4.out.trans HX5.out))).mono ?_; rintro e w6 ⟨rfl, rfl⟩; rw [G2.out])
                    | (go_at_call 14; refine (refCover_any many _ _ es r2 _ (HRW.out.no (HX.out.trans (HX3.out.trans (HX4.out.trans HX5.out)))) (HI3.out.no (HX4.out.trans HX5.out)) (by omega) (by have := HL7.out; omega)).mono ?_; rintro e w6 ⟨v6, b6, rfl, ho6, hx6⟩; rw [HRC.out] at ho6; obtain ⟨rfl, rfl⟩ := ho6; have HX6 := Sid.mk hx6; clear hx6)
                    | (go_at_call 15; refine (Equal_any _ _ ([] : List Int) ([] : List Int) _ (ints_nil _ _ _ : IntsR .i64 (fun _ => True) _ _ []) (ints_nil _ _ _ : IntsR .i64 (fun _ => True) _ _ [])).mono ?_; rintro e w7 ⟨rfl, n7, hw7⟩; rw [show eqB ([] : List Int) ([] : List Int) = true from by simp [eqB]]; have HX7 : Sid (Ext No w6 w7) := ⟨hw7 ▸ (Ext.refl No _).drewN n7⟩; clear hw7))
                  go_roundw
                  case rel => exact ⟨k + 1, by omega, by go_num, ⟨HX.out.trans (HX3.out.trans (HX4.out.trans (HX5.out.trans (HX6.out.trans HX7.out))))⟩⟩
                  case measure => simp [intOf]; omega
                | some rr =>
                  have HCA : Sid (coverA many es r2 = (0, some rr)) := ⟨by rw [hlaw, hrc]⟩
                  have HRC := Sid.mk hrc
                  clear hg1b hg2b hlaw hrc
                  go_wp2_with (first
                    | (go_at_call 10; refine (Clone_any _ r2 _ HI2.out (by have := HL7.out; omega)).mono ?_; rintro e w3 ⟨v3, rfl, hi3, hx3⟩; obtain ⟨A3, c3, rfl, _⟩ := hi3.at; have hg0' := hx3.no hg0; have hg1' := hx3.no hg1; have HI3 := Sid.mk hi3; have HX3 := Sid.mk hx3; clear hi3 hx3)
                    | (go_at_call 11; refine (Cover_any many _ _ es r2 _ (HRW.out.no (HX.out.trans HX3.out)) HI3.out).mono ?_; rintro e w4 ⟨v4, rfl, ho4, hx4⟩; rw [HCA.out] at ho4 ⊢; have hg2 := hx4.no hg0'; have hg3 := hx4.no hg1'; obtain ⟨A4, c4, rfl, _⟩ := IntsR.at (xs := rr) ho4; have HO4 : Sid (IntsR .i64 (fun k => w3.heap.size ≤ k) w4 (.slice A4 rr.length c4) rr) := ⟨ho4⟩; clear ho4; have HX4 := Sid.mk hx4; clear hx4)
                    | (go_at_call 12; refine (Right20_any many _ es _ (HRW.out.no (HX.out.trans (HX3.out.trans HX4.out)))).mono ?_; rintro e w5 ⟨rfl, hx5⟩; rw [G1.out]; have hg4 := hx5.no hg2; have hg5 := hx5.no hg3; have HX5 := Sid.mk hx5; clear hx5)
                    | (go_at_call 13; refine (Rises_any _ r2 many _ (HI3.out.no (HX4.out.trans HX5.out))).mono ?_; rintro e w6 ⟨rfl, rfl⟩; rw [G2.out])
                    | (go_at_call 14; refine (refCover_any many _ _ es r2 _ (HRW.out.no (HX.out.trans (HX3.out.trans (HX4.out.trans HX5.out)))) (HI3.out.no (HX4.out.trans HX5.out)) (by omega) (by have := HL7.out; omega)).mono ?_; rintro e w6 ⟨v6, b6, rfl, ho6, hx6⟩; rw [HRC.out] at ho6; obtain ⟨rfl, ho6⟩ := ho6; obtain ⟨A6, c6, rfl, _⟩ := IntsR.at (xs := rr) ho6; have HO6 : Sid (IntsR .i64 (fun k => w5.heap.size ≤ k) w6 (.slice A6 rr.length c6) rr) := ⟨ho6⟩; clear ho6; have HX6 := Sid.mk hx6; clear hx6)
                    | (go_at_call 15; refine (Equal_any _ _ rr rr _ (HO4.out.no (HX5.out.trans HX6.out)) HO6.out).mono ?_; rintro e w7 ⟨rfl, n7, hw7⟩; rw [show eqB rr rr = true from by simp [eqB]]; have HX7 : Sid (Ext No w6 w7) := ⟨hw7 ▸ (Ext.refl No _).drewN n7⟩; clear hw7))
                  go_roundw
                  case rel => exact ⟨k + 1, by omega, by go_num, ⟨HX.out.trans (HX3.out.trans (HX4.out.trans (HX5.out.trans (HX6.out.trans HX7.out))))⟩⟩
                  case measure => simp [intOf]; omega
      · go_wp2
        go_ret
        exact ⟨rfl, HXW.out.trans HX.out⟩
end Go.Proofs.YtceiaekkfabeaaaDoor
