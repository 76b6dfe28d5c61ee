/- Words and contracts for: DecompAcyclic: for every hypergraph the law answers true, and its arguments read as before. No condition; the library's table math/bits.deBruijn64tab is laid by its text. -/
import Derived.Maps.RangeWalk
import Derived.Laws.CopyRow
import Derived.BigRegion
import Derived.Test.YtceiaekkfabeaaaDoorZyl
/- The law's own copy of a hypergraph. -/
namespace Go.Proofs.YtceiaekkfabeaaaDoor
open Go.RowKit Go.Shelf Pl
attribute [local go_sem] Oper.semAt_some

theorem take_succ_of {α : Type} {l : List α} {k : Nat} {x : α} (h : l[k]? = some x) : l.take (k + 1) = l.take k ++ [x] := by
  obtain ⟨hk, rfl⟩ := List.getElem?_eq_some_iff.1 h
  exact List.take_succ_eq_append_getElem hk
/-- A hypergraph that can be gone through. -/
def ownB (many : Int) (es : List (List Int)) : Bool := decide (es.length ≤ 7) && decide (many ≤ 6) && allB (fun e => decide (e.length ≤ 8)) es

/-- What own answers. -/
def OwnPost (many : Int) (es : List (List Int)) (w : World) (e : Ending) (w' : World) : Prop :=
  Ext No w w' ∧ if ownB many es then ∃ v', e = .returned (.tuple #[.agg #[.int .i64 many, v'], .bool true]) ∧ RowsR (fun k => w.heap.size ≤ k) w' v' es else e = .returned (.tuple #[.agg #[.int .i64 0, .slice none 0 0], .bool false])
theorem OwnPost.no {many : Int} {es : List (List Int)} {w w' : World} (h : ownB many es = false) (hx : Ext No w w') : OwnPost many es w (.returned (.tuple #[.agg #[.int .i64 0, .slice none 0 0], .bool false])) w' := ⟨hx, by rw [h]; simp⟩
theorem OwnPost.yes {many : Int} {es : List (List Int)} {w w' : World} {v : Value} (h : ownB many es = true) (hx : Ext No w w') (hr : RowsR (fun k => w.heap.size ≤ k) w' v es) : OwnPost many es w (.returned (.tuple #[.agg #[.int .i64 many, v], .bool true])) w' := ⟨hx, by rw [h]; exact ⟨v, rfl, hr⟩⟩

set_option maxHeartbeats 4000000 in
set_option maxRecDepth 100000 in
theorem own_any {P : Nat → Prop} (many : Int) (ev : Value) (es : List (List Int)) (w : World) (he : RowsR P w ev es) :
    Calls Tryd.prog 9 #[.agg #[.int .i64 many, ev]] w (OwnPost many es w) := by
  obtain ⟨A, c, rfl, hc, hm, hat⟩ := he.at
  have HE := Sid.mk he
  have HAT := Sid.mk hat
  clear he hat
  by_cases h7 : es.length ≤ 7
  · by_cases h6 : many ≤ 6
    · have h7' : ¬ ((7 : Int) < (es.length : Int)) := by omega
      have h6' : ¬ ((6 : Int) < many) := by omega
      have HOK : Sid ((∀ e ∈ es, e.length ≤ 8) → ownB many es = true) := ⟨fun h => by simp only [ownB, Bool.and_eq_true, decide_eq_true_eq]; exact ⟨⟨h7, h6⟩, by rw [allB, List.all_eq_true]; exact fun e he => by simpa using h e he⟩⟩
      have HNO : Sid (∀ (k : Nat) (e : List Int), es[k]? = some e → ¬ e.length ≤ 8 → ownB many es = false) := ⟨fun k e hk h => by rw [ownB, allB_false hk (by simpa using h), Bool.and_false]⟩
      go_enter Tryd.func9, Tryd.ntmps9
      go_wp2
      obtain ⟨W0, hW0⟩ : ∃ W0, W0 = ((w.alloc (.cells #[.int .i64 many, .slice A es.length c] 24)).alloc (.cells #[.int .i64 0, .slice none 0 0] 24)).alloc (.cells #[.int .i64 many, .slice none 0 0] 24) := ⟨_, rfl⟩
      have HX0 : Sid (Ext No w W0) := ⟨by rw [hW0]; exact (((Ext.refl No w).alloc _).alloc _).alloc _⟩
      have HSZ0 : Sid (W0.heap.size = w.heap.size + 3) := ⟨by rw [hW0]; simp⟩
      have HC0 : Sid (W0.cell? ⟨w.heap.size + 1 + 1, 0, none⟩ = some (.int .i64 many) ∧ W0.cell? ⟨w.heap.size + 1 + 1, 1, none⟩ = some (.slice none 0 0) ∧ W0.frozen? ⟨w.heap.size + 1 + 1, 1, none⟩ = false) := ⟨by rw [hW0]; simp [go_sem]⟩
      have HC1 : Sid (W0.cell? ⟨w.heap.size + 1, 0, none⟩ = some (.int .i64 0) ∧ W0.cell? ⟨w.heap.size + 1, 1, none⟩ = some (.slice none 0 0) ∧ W0.frozen? ⟨w.heap.size + 1, 0, none⟩ = false ∧ W0.frozen? ⟨w.heap.size + 1, 1, none⟩ = false) := ⟨by rw [hW0]; simp [go_sem]⟩
      rw [← hW0]
      clear hW0
      go_loopw [23] (fun i wr => ∃ (k : Nat) (v : Value), k ≤ es.length ∧ i = .int .i64 (k : Int) ∧ Sid (∀ j e, j < k → es[j]? = some e → e.length ≤ 8) ∧ wr.cell? ⟨w.heap.size + 1 + 1, 1, none⟩ = some v ∧ wr.frozen? ⟨w.heap.size + 1 + 1, 1, none⟩ = false ∧ Sid (wr.cell? ⟨w.heap.size + 1 + 1, 0, none⟩ = some (.int .i64 many)) ∧ Sid (OwnRows (fun j => w.heap.size + 3 ≤ j) (w.heap.size + 3) wr v (es.take k)) ∧ Sid (Ext (fun j => j = w.heap.size + 1 + 1) W0 wr)) (fun i _ => es.length - (intOf i).toNat)
      case atStart => exact ⟨0, _, Nat.zero_le _, rfl, ⟨fun j e hj => by omega⟩, HC0.out.2.1, HC0.out.2.2, ⟨HC0.out.1⟩, ⟨OwnRows.nil _ _ _⟩, ⟨Ext.refl _ _⟩⟩
      case round =>
        obtain ⟨k, v, hk, rfl, HL, hcv, hfv, HCM, HO, HX⟩ := hrel
        obtain ⟨wo, rfl⟩ : ∃ wo : World, wo = wr := ⟨_, rfl⟩
        have hr0 := HX.out.cell (p := ⟨w.heap.size + 1, 0, none⟩) (by simp) HC1.out.1
        have hr1 := HX.out.cell (p := ⟨w.heap.size + 1, 1, none⟩) (by simp) HC1.out.2.1
        have hf0 : wo.frozen? ⟨w.heap.size + 1, 0, none⟩ = false := (HX.out.frozen (p := ⟨w.heap.size + 1, 0, none⟩) (by simp) (by rw [HSZ0.out]; simp)).trans HC1.out.2.2.1
        have hf1 : wo.frozen? ⟨w.heap.size + 1, 1, none⟩ = false := (HX.out.frozen (p := ⟨w.heap.size + 1, 1, none⟩) (by simp) (by rw [HSZ0.out]; simp)).trans HC1.out.2.2.2
        have HXF : Sid (Ext No w wo) := ⟨HX0.out.step HX.out (fun i hi he => by omega)⟩
        by_cases hlt : k < es.length
        · obtain ⟨b, off, A', c', r, rfl, hPb, hcell0, HR', HI'⟩ := HAT.out k hlt
          have hcell := HXF.out.no hcell0
          have HI2 : Sid (IntsR .i64 P wo (.slice A' r.length c') r) := ⟨HI'.out.no HXF.out⟩
          clear hcell0 HI'
          by_cases h8 : r.length ≤ 8
          · have h8' : ¬ ((8 : Int) < (r.length : Int)) := by omega
            have HRL : Sid (r.length ≤ 1000000) := ⟨by omega⟩
            obtain ⟨Fact, hFact⟩ : ∃ Fact : Nat → Value → World → Prop, Fact = fun i u W => (i = 3 → IntsR .i64 (fun j => wo.heap.size ≤ j) W u r) ∧ (i = 4 → ∃ g, u = .slice (some ⟨g, 0, none⟩) 1 1 ∧ RowsR (fun j => wo.heap.size ≤ j) W u [r]) := ⟨_, rfl⟩
            obtain ⟨Pure, hPure⟩ : ∃ Pure : Nat → Value → Prop, Pure = fun i u => (i = 0 → u = .pointer (some ⟨w.heap.size + 1 + 1, 1, none⟩)) ∧ (i = 1 → u = v) ∧ (i = 2 → u = .slice A' r.length c') ∧ (i = 6 → u = .pointer (some ⟨w.heap.size + 1 + 1, 1, none⟩)) := ⟨_, rfl⟩
            obtain ⟨Aft, hAft⟩ : ∃ Aft : (Nat → Value) → (Nat → Bool) → World → Prop, Aft = fun s l W =>
              (l 7 = false → OwnRows (fun j => w.heap.size + 3 ≤ j) (w.heap.size + 3) W (s 5) (es.take k ++ [r]) ∧ Ext (fun j => some j = v.ownBlock) wo W) ∧
              (l 7 = true → ∃ v1, W.cell? ⟨w.heap.size + 1 + 1, 1, none⟩ = some v1 ∧ W.frozen? ⟨w.heap.size + 1 + 1, 1, none⟩ = false ∧ W.cell? ⟨w.heap.size + 1 + 1, 0, none⟩ = some (.int .i64 many) ∧ OwnRows (fun j => w.heap.size + 3 ≤ j) (w.heap.size + 3) W v1 (es.take k ++ [r]) ∧ Ext (fun j => j = w.heap.size + 1 + 1 ∨ some j = v.ownBlock) wo W) := ⟨_, rfl⟩
            have HFA := Sid.mk hFact
            have HPU := Sid.mk hPure
            have HAF := Sid.mk hAft
            have HST : Sid (∀ i u W W', Ext No W W' → Fact i u W → Fact i u W') := ⟨fun i u W W' hx hf => by
              rw [hFact] at hf ⊢
              exact ⟨fun h => (hf.1 h).no hx, fun h => by obtain ⟨g, h1, h2⟩ := hf.2 h; exact ⟨g, h1, h2.no hx⟩⟩⟩
            have HF3 : Sid (∀ u W, Fact 3 u W = IntsR .i64 (fun j => wo.heap.size ≤ j) W u r) := ⟨fun u W => by rw [hFact]; simp⟩
            have HF4 : Sid (∀ u W, Fact 4 u W = ∃ g, u = .slice (some ⟨g, 0, none⟩) 1 1 ∧ RowsR (fun j => wo.heap.size ≤ j) W u [r]) := ⟨fun u W => by rw [hFact]; simp⟩
            have HFT : Sid (∀ i u W, i ≠ 3 → i ≠ 4 → Fact i u W) := ⟨fun i u W h3 h4 => by
              rw [hFact]; exact ⟨fun h => absurd h h3, fun h => absurd h h4⟩⟩
            have HP0 : Sid (∀ u, Pure 0 u = (u = .pointer (some ⟨w.heap.size + 1 + 1, 1, none⟩))) := ⟨fun u => by rw [hPure]; simp⟩
            have HP1 : Sid (∀ u, Pure 1 u = (u = v)) := ⟨fun u => by rw [hPure]; simp⟩
            have HP2 : Sid (∀ u, Pure 2 u = (u = .slice A' r.length c')) := ⟨fun u => by rw [hPure]; simp⟩
            have HP6 : Sid (∀ u, Pure 6 u = (u = .pointer (some ⟨w.heap.size + 1 + 1, 1, none⟩))) := ⟨fun u => by rw [hPure]; simp⟩
            have HPT : Sid (∀ i u, i = 3 ∨ i = 4 ∨ i = 5 ∨ i = 7 → Pure i u) := ⟨fun i u h => by rw [hPure]; rcases h with rfl | rfl | rfl | rfl <;> simp⟩
            clear hFact hPure hAft
            go_wp2
            refine (wpIn_wide (n := 0)).1 ?_
            refine wpIn_slots (fun s => { tmps := #[.agg #[.int .i64 many, .slice (some ⟨b, off, none⟩) es.length c], .pointer (some ⟨w.heap.size, 0, none⟩), .pointer (some ⟨w.heap.size + 1, 0, none⟩), u3, .pointer (some ⟨w.heap.size + 1 + 1, 0, none⟩), undef, .slice A' r.length c', .pointer (some ⟨w.heap.size, 1, none⟩), .slice (some ⟨b, off, none⟩) es.length c, .int .i64 (es.length : Int), .bool false, .bool false, .pointer (some ⟨w.heap.size, 0, none⟩), .int .i64 many, .bool false, .bool false, undef, .pointer (some ⟨w.heap.size, 0, none⟩), .int .i64 many, .agg #[.int .i64 many, .slice none 0 0], .pointer (some ⟨w.heap.size, 1, none⟩), .slice (some ⟨b, off, none⟩) es.length c, .int .i64 (es.length : Int), .int .i64 (k : Int), .bool true, .pointer (some ⟨b, off + k, none⟩), .slice A' r.length c', .slice A' r.length c', .int .i64 (r.length : Int), .bool false, u30, s 0, s 1, s 2, s 3, s 4, s 5, s 6, u38, undef], defers := [] })
              (PhA [(1, 0), (3, 2), (4, 3), (5, 1), (5, 4), (7, 5), (7, 6)] 5 wo.drew Fact Pure Aft) (fun i => #[u31, u32, u33, u34, u35, u36, u37].getD i undef) (by kernel_rfl) (by kernel_rfl) ⟨fun _ _ => rfl, fun _ _ => rfl, fun _ _ => rfl, fun _ _ => rfl, fun _ _ => rfl, fun _ _ => rfl, fun _ _ => rfl, fun _ _ => rfl, trivial⟩ ?ha ?h0
              ⟨?s0, ?s1, ?s2, ?s3, ?s4, ?s5, ?s6, ?s7, trivial⟩ ?hend
            case ha => rfl
            case h0 => exact PhA.start
            case s0 =>
              rintro s l w' K hl hd hp hK
              have hc : l 5 = false := by
                cases h5 : l 5 with
                | false => rfl
                | true =>
                  have h1 := hp.dep 5 1 (by simp) h5
                  have h0 := hp.dep 1 0 (by simp) h1
                  rw [hl] at h0; cases h0
              have hdp : ∀ j, (0, j) ∈ [(1, 0), (3, 2), (4, 3), (5, 1), (5, 4), (7, 5), (7, 6)] → l j = true := (by intro j hj; simp at hj)
              have HP := Sid.mk (hp.step HST.out (i := 0) (v := .pointer (some ⟨w.heap.size + 1 + 1, 1, none⟩)) (by decide) hdp hc (Ext.refl _ _) (HFT.out _ _ _ (by decide) (by decide)) (by rw [HP0.out]))
              clear hp hd hdp
              gi_wp2
              exact HP.out
            case s1 =>
              rintro s l w' K hl hd hp hK
              have hc : l 5 = false := by
                cases h5 : l 5 with
                | false => rfl
                | true =>
                  have h1 := hp.dep 5 1 (by simp) h5
                  rw [hl] at h1; cases h1
              have hdp : ∀ j, (1, j) ∈ [(1, 0), (3, 2), (4, 3), (5, 1), (5, 4), (7, 5), (7, 6)] → l j = true := (by intro j hj; simp at hj; subst hj; exact hd { on := 0, ground := .data } (by simp) rfl)
              have e0 : s 0 = .pointer (some ⟨w.heap.size + 1 + 1, 1, none⟩) := by have h := hp.pur 0 (hd { on := 0, ground := .data } (by simp) rfl); rwa [HP0.out] at h
              simp only [e0] at hK
              have hcw := (hp.bef hc).1.no (p := ⟨w.heap.size + 1 + 1, 1, none⟩) hcv
              have HP := Sid.mk (hp.step HST.out (i := 1) (v := v) (by decide) hdp hc (Ext.refl _ _) (HFT.out _ _ _ (by decide) (by decide)) (by rw [HP1.out]))
              clear hp hd hdp
              gi_wp2
              exact HP.out
            case s2 =>
              rintro s l w' K hl hd hp hK
              have hc : l 5 = false := by
                cases h5 : l 5 with
                | false => rfl
                | true =>
                  have h4 := hp.dep 5 4 (by simp) h5
                  have h3 := hp.dep 4 3 (by simp) h4
                  have h2 := hp.dep 3 2 (by simp) h3
                  rw [hl] at h2; cases h2
              have hdp : ∀ j, (2, j) ∈ [(1, 0), (3, 2), (4, 3), (5, 1), (5, 4), (7, 5), (7, 6)] → l j = true := (by intro j hj; simp at hj)
              have HP := Sid.mk (hp.step HST.out (i := 2) (v := .slice A' r.length c') (by decide) hdp hc (Ext.refl _ _) (HFT.out _ _ _ (by decide) (by decide)) (by rw [HP2.out]))
              clear hp hd hdp
              gi_wp2
              exact HP.out
            case s3 =>
              rintro s l w' K hl hd hp hK
              have hc : l 5 = false := by
                cases h5 : l 5 with
                | false => rfl
                | true =>
                  have h4 := hp.dep 5 4 (by simp) h5
                  have h3 := hp.dep 4 3 (by simp) h4
                  rw [hl] at h3; cases h3
              have hdp : ∀ j, (3, j) ∈ [(1, 0), (3, 2), (4, 3), (5, 1), (5, 4), (7, 5), (7, 6)] → l j = true := (by intro j hj; simp at hj; subst hj; exact hd { on := 2, ground := .data } (by simp) rfl)
              have e2 : s 2 = .slice A' r.length c' := by have h := hp.pur 2 (hd { on := 2, ground := .data } (by simp) rfl); rwa [HP2.out] at h
              simp only [e2] at hK
              have hx := (hp.bef hc).1
              have HIW : Sid (IntsR .i64 P w' (.slice A' r.length c') r) := ⟨HI2.out.no ((Ext.refl No wo).drew.trans hx)⟩
              have HSW : Sid (wo.heap.size ≤ w'.heap.size) := ⟨by have := hx.size; simpa using this⟩
              have HPP := Sid.mk hp
              have HC := Sid.mk hc
              have HDP := Sid.mk hdp
              clear hp hd hx hc hdp
              gi_wp2_with (refine ⟨trivial, rfl, ?_⟩; gi_at_call 10; refine (callsIn_wide.2 (Clone_any _ r _ HIW.out HRL.out)).mono ?_; rintro e w2 ⟨v2, rfl, hr2, hx2⟩; have HR2 := Sid.mk hr2; have HX2 := Sid.mk hx2; clear hr2 hx2)
              exact HPP.out.step HST.out (i := 3) (by decide) HDP.out HC.out HX2.out (by rw [HF3.out]; exact HR2.out.imp (fun j _ hj => by have := HSW.out; omega)) (HPT.out _ _ (by simp))
            case s4 =>
              rintro s l w' K hl hd hp hK
              have hc : l 5 = false := by
                cases h5 : l 5 with
                | false => rfl
                | true =>
                  have h4 := hp.dep 5 4 (by simp) h5
                  rw [hl] at h4; cases h4
              have hdp : ∀ j, (4, j) ∈ [(1, 0), (3, 2), (4, 3), (5, 1), (5, 4), (7, 5), (7, 6)] → l j = true := (by intro j hj; simp at hj; subst hj; exact hd { on := 3, ground := .data } (by simp) rfl)
              have hl3 := hd { on := 3, ground := .data } (by simp) rfl
              have hf3 := (hp.bef hc).2 3 hl3
              rw [HF3.out] at hf3
              obtain ⟨A3, c3, e3, _⟩ := hf3.at
              rw [e3] at hf3
              simp only [e3] at hK
              have HF := Sid.mk hf3
              have HSW : Sid (wo.heap.size ≤ w'.heap.size) := ⟨by have := (hp.bef hc).1.size; simpa using this⟩
              have HPP := Sid.mk hp
              have HC := Sid.mk hc
              have HDP := Sid.mk hdp
              clear hp hd hc hdp hf3
              gi_wp2
              exact HPP.out.step HST.out (i := 4) (by decide) HDP.out HC.out (ext_box _) (by
                rw [HF4.out]
                refine ⟨_, rfl, (Own.lit1 w' w'.heap.size 28 (.slice A3 r.length c3) (Nat.le_refl _)).rows (xss := [r]) (by simp) (fun j hj => by simp [Value.ownBlock] at hj; have := HSW.out; omega) (fun j u xs hu hxs => ?_)⟩
                rcases j with _ | j
                · simp at hu hxs; subst hu; subst hxs; exact HF.out.no (ext_box _)
                · simp at hu) (HPT.out _ _ (by simp))
            case s5 =>
              rintro s l w' K hl hd hp hK
              have hdp : ∀ j, (5, j) ∈ [(1, 0), (3, 2), (4, 3), (5, 1), (5, 4), (7, 5), (7, 6)] → l j = true := (by intro j hj; simp at hj; rcases hj with rfl | rfl; all_goals (first | exact hd { on := 1, ground := .data } (by simp) rfl | exact hd { on := 4, ground := .data } (by simp) rfl))
              have e1 : s 1 = v := by have h := hp.pur 1 (hd { on := 1, ground := .data } (by simp) rfl); rwa [HP1.out] at h
              have hl4 := hd { on := 4, ground := .data } (by simp) rfl
              obtain ⟨hx, hfs⟩ := hp.bef hl
              have hf4 := hfs 4 hl4
              rw [HF4.out] at hf4
              obtain ⟨g, e4, hr4⟩ := hf4
              rw [e4] at hr4
              have hxw : Ext No wo w' := (Ext.refl No wo).drew.trans hx
              refine appRowIn (P := fun j => w.heap.size + 3 ≤ j) (w.heap.size + 3) (.tmp 32) (.tmp 35) 22 rfl Tryd.underlying22 info28 v (es.take k) r e1 ⟨g, 0, none⟩ 1 e4 (HO.out.no hxw) (hr4.imp (fun j _ hj => ⟨by have := HX.out.size; have := HSZ0.out; omega, fun he => by have := (HO.out.ge j he.symm).2; omega⟩)) (by have := hxw.size; have := HX.out.size; have := HSZ0.out; omega) (by rw [List.length_take]; omega) ?_
              intro v1 w1 ho1 hx1 hb1 hs1
              refine hK v1 w1 (hp.after hdp setL_eq (HPT.out _ _ (by simp)) ?_)
              rw [HAF.out]
              refine ⟨fun _ => ⟨by rw [setS_eq]; exact ho1, (hxw.mono (Y := fun j => some j = v.ownBlock) (fun _ h => h.elim)).trans hx1⟩, fun h7 => ?_⟩
              rw [setL_ne (by decide)] at h7
              have := hp.dep 7 5 (by simp) h7
              rw [hl] at this; cases this
            case s6 =>
              rintro s l w' K hl hd hp hK
              have hdp : ∀ j, (6, j) ∈ [(1, 0), (3, 2), (4, 3), (5, 1), (5, 4), (7, 5), (7, 6)] → l j = true := (by intro j hj; simp at hj)
              have HP := Sid.mk (hp.pure (i := 6) (v := .pointer (some ⟨w.heap.size + 1 + 1, 1, none⟩)) (by decide) hdp (fun _ => HFT.out _ _ _ (by decide) (by decide)) (by rw [HP6.out]) (fun h => by
                rw [HAF.out] at h ⊢
                refine ⟨?_, ?_⟩
                · rw [setL_ne (by omega), setS_ne (by omega)]; exact h.1
                · rw [setL_ne (by omega)]; exact h.2))
              clear hp hd hdp
              gi_wp2
              exact HP.out
            case s7 =>
              rintro s l w' K hl hd hp hK
              have hdp : ∀ j, (7, j) ∈ [(1, 0), (3, 2), (4, 3), (5, 1), (5, 4), (7, 5), (7, 6)] → l j = true := (by intro j hj; simp at hj; rcases hj with rfl | rfl; all_goals (first | exact hd { on := 5, ground := .data } (by simp) rfl | exact hd { on := 6, ground := .data } (by simp) rfl))
              have e6 : s 6 = .pointer (some ⟨w.heap.size + 1 + 1, 1, none⟩) := by have h := hp.pur 6 (hd { on := 6, ground := .data } (by simp) rfl); rwa [HP6.out] at h
              have hl5 := hd { on := 5, ground := .data } (by simp) rfl
              have ha := hp.aft hl5
              rw [HAF.out] at ha
              obtain ⟨ho1, hx1⟩ := ha.1 hl
              obtain ⟨A5, c5, e5⟩ := ho1.slice
              have hlen : (es.take k ++ [r]).length = k + 1 := by rw [List.length_append, List.length_take]; simp; omega
              rw [hlen] at e5
              have hne : ¬ some (w.heap.size + 1 + 1) = v.ownBlock := fun he => by have := (HO.out.ge _ he.symm).1; omega
              have hcw := hx1.cell (p := ⟨w.heap.size + 1 + 1, 1, none⟩) hne hcv
              have hfw : w'.frozen? ⟨w.heap.size + 1 + 1, 1, none⟩ = false := (hx1.frozen (p := ⟨w.heap.size + 1 + 1, 1, none⟩) hne (World.block_lt_of_cell? wo _ hcv)).trans hfv
              have hcm := hx1.cell (p := ⟨w.heap.size + 1 + 1, 0, none⟩) hne HCM.out
              obtain ⟨v5, hv5⟩ : ∃ v5, s 5 = v5 := ⟨_, rfl⟩
              rw [hv5] at ho1 e5
              simp only [e6, hv5] at hK
              have HPP := Sid.mk hp
              have HO1 := Sid.mk ho1
              have HX1 := Sid.mk hx1
              have HDP := Sid.mk hdp
              have HCW := Sid.mk hcw
              have HFW := Sid.mk hfw
              have HCM2 := Sid.mk hcm
              clear hp hd hdp ho1 hx1 hcm ha
              subst e5
              have hxs : Ext (fun j => j = w.heap.size + 1 + 1) w' (w'.setCell ⟨w.heap.size + 1 + 1, 1, none⟩ (.slice A5 (k + 1) c5)) := (Ext.refl (fun j => j = w.heap.size + 1 + 1) w').setCell (p := ⟨w.heap.size + 1 + 1, 1, none⟩) (Or.inl rfl) _
              have HXS := Sid.mk hxs
              clear hxs
              gi_wp2
              refine hK undef _ ?_
              refine HPP.out.after HDP.out (by rw [setL_ne (by decide)]; exact hl5) (HPT.out _ _ (by simp)) ?_
              rw [HAF.out]
              refine ⟨fun h7 => (by rw [setL_eq] at h7; cases h7), fun _ => ⟨.slice A5 (k + 1) c5, World.cell?_setCell_same' _ _ _ (by rw [HCW.out]; rfl), by simp [HFW.out], ?_, HO1.out.ext HXS.out (fun j hj he => by have := (HO1.out.ge j hj).1; omega) (fun j hj he => by omega), ?_⟩⟩
              · have hcm2 := HCM2.out; have hcw2 := HCW.out; simp [go_sem, hcm2, hcw2]
              · exact (HX1.out.mono (fun _ h => Or.inr h)).trans (HXS.out.mono (fun _ h => Or.inl h))
            case hend =>
              rintro s l w' hl hp
              have ha := hp.aft (hl 5 (by decide))
              rw [HAF.out] at ha
              obtain ⟨v1, hc1, hf1', hcm1, ho1, hx1⟩ := ha.2 (hl 7 (by decide))
              have HO1 := Sid.mk ho1
              have HX1 := Sid.mk hx1
              have HCM1 := Sid.mk hcm1
              clear hp ho1 hx1 hcm1 ha hl
              dsimp only
              go_wp2
              go_roundw
              case rel => exact ⟨k + 1, v1, by omega, by go_num, ⟨fun j e hj he => by
                by_cases hjk : j = k
                · subst hjk; rw [HR'.out] at he; cases he; exact h8
                · exact HL.out j e (by omega) he⟩, hc1, hf1', HCM1, ⟨by rw [take_succ_of HR'.out]; exact HO1.out⟩, ⟨HX.out.step HX1.out (fun i hi he => by
                  rcases he with he | he
                  · exact he
                  · have := (HO.out.ge i he.symm).1; have := HSZ0.out; omega)⟩⟩
              case measure => simp [intOf]; omega
          · have h8' : ((8 : Int) < (r.length : Int)) := by omega
            have HA : Sid (ownB many es = false) := ⟨HNO.out k r HR'.out h8⟩
            go_wp2
            refine bodyPost_ret (v := .tuple #[.agg #[.int .i64 0, .slice none 0 0], .bool false]) (by simp [results, Tryd.results9, go_sem, hr0, hr1]) rfl (OwnPost.no HA.out ?_)
            exact HXF.out.step (((Ext.refl (fun j => j = w.heap.size + 1) wo).setCell (p := ⟨w.heap.size + 1, 0, none⟩) (Or.inl rfl) _).setCell (p := ⟨w.heap.size + 1, 1, none⟩) (Or.inl rfl) _) (fun i hi he => by omega)
        · obtain rfl : k = es.length := by omega
          have hcm := HCM.out
          have HA : Sid (ownB many es = true) := ⟨HOK.out (fun e he => by
            obtain ⟨j, hj⟩ := List.mem_iff_getElem?.1 he
            exact HL.out j e (List.getElem?_eq_some_iff.1 hj).1 hj)⟩
          have HO2 : Sid (OwnRows (fun j => w.heap.size + 3 ≤ j) (w.heap.size + 3) wo v es) := ⟨by have := HO.out; rwa [List.take_length] at this⟩
          obtain ⟨Av, cv, rfl⟩ := HO2.out.slice
          go_wp2
          obtain ⟨v9, hv9⟩ : ∃ v9 : Value, Value.slice Av es.length cv = v9 := ⟨_, rfl⟩
          obtain ⟨W9, hW9⟩ : ∃ W9, W9 = ((wo.setCell ⟨w.heap.size + 1, 0, none⟩ (.int .i64 many)).setCell ⟨w.heap.size + 1, 1, none⟩ (.slice Av es.length cv)) := ⟨_, rfl⟩
          have hx9 : Ext (fun j => j = w.heap.size + 1) wo W9 := by rw [hW9]; exact (((Ext.refl (fun j => j = w.heap.size + 1) wo).setCell (p := ⟨w.heap.size + 1, 0, none⟩) (Or.inl rfl) _).setCell (p := ⟨w.heap.size + 1, 1, none⟩) (Or.inl rfl) _)
          have g0 : W9.cell? ⟨w.heap.size + 1, 0, none⟩ = some (.int .i64 many) := by rw [hW9]; simp [go_sem, hr0, hr1, hf0, hf1]
          have g1 : W9.cell? ⟨w.heap.size + 1, 1, none⟩ = some (.slice Av es.length cv) := by rw [hW9]; simp [go_sem, hr0, hr1, hf0, hf1]
          rw [← hW9]
          refine bodyPost_ret (v := .tuple #[.agg #[.int .i64 many, .slice Av es.length cv], .bool true]) (by simp [results, Tryd.results9, go_sem, g0, g1]) rfl (OwnPost.yes HA.out (HXF.out.step hx9 (fun i hi he => by omega)) ?_)
          exact ((HO2.out.ext hx9 (fun j hj he => by have := (HO2.out.ge j hj).1; omega) (fun j hj he => by omega)).rows (by omega) (fun j hj => by have := (HO2.out.ge j hj).1; omega) (fun j hj => by omega))
    · have HA : Sid (ownB many es = false) := ⟨by simp [ownB, h6]⟩
      have h7' : ¬ ((7 : Int) < (es.length : Int)) := by omega
      have h6' : ((6 : Int) < many) := by omega
      go_enter Tryd.func9, Tryd.ntmps9
      go_wp2
      exact bodyPost_ret (v := .tuple #[.agg #[.int .i64 0, .slice none 0 0], .bool false]) (by simp [results, Tryd.results9, go_sem]) rfl (OwnPost.no HA.out (((Ext.refl No w).alloc _).alloc _))
  · have HA : Sid (ownB many es = false) := ⟨by simp [ownB, h7]⟩
    have h7' : ((7 : Int) < (es.length : Int)) := by omega
    go_enter Tryd.func9, Tryd.ntmps9
    go_wp2
    exact bodyPost_ret (v := .tuple #[.agg #[.int .i64 0, .slice none 0 0], .bool false]) (by simp [results, Tryd.results9, go_sem]) rfl (OwnPost.no HA.out (((Ext.refl No w).alloc _).alloc _))
end Go.Proofs.YtceiaekkfabeaaaDoor

/- Maps that are gone through, and struck from, told as functions. -/
namespace Go.Proofs.YtceiaekkfabeaaaDoor
open Go.RowKit Go.MapKept Go.ChangeMaps

/-- A map's entries bear stamps. -/
def StampW (w : World) (M : Nat) : Prop := ∃ es clock, w.heap[M]? = some (.map es clock) ∧ Stamped es clock
/-- A map that reads as f, its entries stamped. -/
structure MapS (q : IntKind) (f : Int → Option Value) (w : World) (M : Nat) : Prop where
  fn : MapF q f w M
  st : StampW w M
theorem MapS.lt {q : IntKind} {f : Int → Option Value} {w : World} {M : Nat} (h : MapS q f w M) : M < w.heap.size := h.fn.lt
theorem MapS.ext {q : IntKind} {f : Int → Option Value} {w w' : World} {M : Nat} {X : Nat → Prop} (h : MapS q f w M) (hx : Ext X w w') (hn : ¬ X M) : MapS q f w' M := by
  refine ⟨h.fn.ext hx hn, ?_⟩
  obtain ⟨es, clock, hb, hs⟩ := h.st
  exact ⟨es, clock, (hx.block M h.lt hn).trans hb, hs⟩
theorem MapS.made (q : IntKind) (w : World) : MapS q (fun _ => none) (w.alloc (.map #[] 0)) w.heap.size :=
  ⟨MapF.made q w, #[], 0, (MapKept.heap_alloc w _).1, stamped_empty 0⟩
theorem MapF.keys {q : IntKind} {f : Int → Option Value} {w : World} {M : Nat} (h : MapF q f w M) {es : Array MapEntry} {clock : Nat} (hb : w.heap[M]? = some (.map es clock)) : (∀ e ∈ es.toList, ∃ x, e.key = .int q x ∧ f x = some e.val) ∧ (∀ x v, f x = some v → ∃ e ∈ es.toList, e.key = .int q x) ∧ es.toList.Pairwise (fun a b => a.key ≠ b.key) := by
  obtain ⟨es', clock', hb', h1, h2, h3⟩ := h
  rw [hb] at hb'
  cases hb'
  exact ⟨h1, h2, h3⟩
theorem MapS.update {P : Program} {q : IntKind} {f : Int → Option Value} {w : World} {M : Nat} (h : MapS q f w M) {t kt et : TypeId} (ht : P.underlying t = some (.map kt et)) (hk : P.underlying kt = some (.int q)) (x : Int) (v : Value) :
    ∃ w', (Instr.mapUpdate t (.map (some M)) (.int q x) v).run P w = .ok () w' ∧ MapS q (upd f x v) w' M ∧ Ext (· = M) w w' ∧ w'.heap.size = w.heap.size := by
  obtain ⟨w', hrun, h1, h2, h3⟩ := h.fn.update ht hk x v
  obtain ⟨es, clock, hb, hs⟩ := h.st
  have hks : ∀ y ∈ es.toList, IsKey (.int q) y.key := fun y hy => by
    obtain ⟨x, hx, _⟩ := (h.fn.keys hb).1 y hy
    rw [hx]; trivial
  obtain ⟨es', clock', hb', hs', _⟩ := mapUpdate_keeps ht hk hb hs hks (key := .int q x) (by trivial) hrun
  exact ⟨w', hrun, ⟨h1, es', clock', hb', hs'⟩, h2, h3⟩
/-- An entry is struck. -/
def delF (f : Int → Option Value) (x : Int) : Int → Option Value := fun y => if y = x then none else f y
theorem MapS.delete {P : Program} {q : IntKind} {f : Int → Option Value} {w : World} {M : Nat} (h : MapS q f w M) {t kt et ty : TypeId} (ht : P.underlying t = some (.map kt et)) (hk : P.underlying kt = some (.int q)) (x : Int) :
    ∃ w', (Builtin.delete_ #[t, kt] ty #[.map (some M), .int q x]).run P w = .ok (.tuple #[]) w' ∧ MapS q (delF f x) w' M ∧ Ext (· = M) w w' ∧ w'.heap.size = w.heap.size := by
  have hl := h.lt
  obtain ⟨es, clock, hb, hs⟩ := h.st
  obtain ⟨h1, h2, h3⟩ := h.fn.keys hb
  have hkey : IsKey (.int q) (.int q x) := by trivial
  have hks : ∀ y ∈ es.toList, IsKey (.int q) y.key := fun y hy => by
    obtain ⟨x, hx, _⟩ := h1 y hy
    rw [hx]; trivial
  have hext : ∀ o, Ext (· = M) w (setBlock w M o) := fun o => ⟨rfl, rfl, rfl, by simp [setBlock], fun k hk hne => by
    have : k ≠ M := hne
    simp [setBlock, Array.getElem?_setIfInBounds, Ne.symm this]⟩
  have hgot : ∀ o, (setBlock w M o).heap[M]? = some o := fun o => by simp [setBlock, hl]
  rcases findNow_spec hkey es.toList 0 hks with ⟨e1, e2⟩ | ⟨j, e0, e1, e2, e3⟩
  · have hf : ∀ y, delF f x y = f y := fun y => by
      unfold delF
      split
      · rename_i hyx
        subst hyx
        cases hf : f y with
        | none => rfl
        | some v =>
          obtain ⟨e, he, hke⟩ := h2 y v hf
          exact absurd hke (e2 e he)
      · rfl
    refine ⟨setBlock w M (.map es clock), ?_, ⟨⟨es, clock, hgot _, fun e he => ?_, fun y v hy => ?_, h3⟩, es, clock, hgot _, hs⟩, hext _, by simp [setBlock]⟩
    · simp [Builtin.delete_, run_underlying ht, MapKept.run_getObj_map hb, run_checkKey hk hkey, run_findKey hk e1, MapKept.run_setObj_map _ hb, Result.andThen, setBlock]
    · obtain ⟨y, hy, hfy⟩ := h1 e he
      exact ⟨y, hy, by rw [hf]; exact hfy⟩
    · rw [hf] at hy; exact h2 y v hy
  · have hjl : j < es.toList.length := (List.getElem?_eq_some_iff.1 e2).1
    have hjs : j < es.size := by simpa using hjl
    have hsub : (es.eraseIdxIfInBounds j).toList = es.toList.eraseIdx j := by
      unfold Array.eraseIdxIfInBounds
      rw [dif_pos hjs]
      simp
    classical
    have hflt : es.toList.filter (fun a => !decide (a.key = .int q x)) = es.toList.eraseIdx j :=
      filter_eq_eraseIdx (fun a : MapEntry => decide (a.key = .int q x)) es.toList j e0 e2 (by simp [e3]) (h3.imp fun {a b} hne hh => hne (by
        have h4 := hh.1; have h5 := hh.2
        simp only [decide_eq_true_eq] at h4 h5
        rw [h4, h5]))
    have hmem : ∀ e, e ∈ (es.eraseIdxIfInBounds j).toList ↔ e ∈ es.toList ∧ e.key ≠ .int q x := fun e => by
      rw [hsub, ← hflt, List.mem_filter]; simp
    refine ⟨setBlock w M (.map (es.eraseIdxIfInBounds j) clock), ?_, ⟨⟨_, clock, hgot _, fun e he => ?_, fun y v hy => ?_, ?_⟩, _, clock, hgot _, stamped_erase hs j⟩, hext _, by simp [setBlock]⟩
    · simp [Builtin.delete_, run_underlying ht, MapKept.run_getObj_map hb, run_checkKey hk hkey, run_findKey hk e1, MapKept.run_setObj_map _ hb, Result.andThen, setBlock]
    · obtain ⟨he1, he2⟩ := (hmem e).1 he
      obtain ⟨y, hy, hfy⟩ := h1 e he1
      refine ⟨y, hy, ?_⟩
      unfold delF
      rw [if_neg]; exact hfy
      intro hyx; subst hyx; exact he2 hy
    · unfold delF at hy
      split at hy
      · cases hy
      · rename_i hyx
        obtain ⟨e, he, hke⟩ := h2 y v hy
        exact ⟨e, (hmem e).2 ⟨he, by rw [hke]; simpa using hyx⟩, hke⟩
    · rw [hsub]; exact h3.sublist (List.eraseIdx_sublist _ _)

/-- A loop over a map under way: the iterator lies in r, the keys that have come are ks. -/
def IterF (q : IntKind) (f : Int → Option Value) (w : World) (M r : Nat) (ks : List Int) : Prop :=
  MapF q f w M ∧ M ≠ r ∧ (∀ x ∈ ks, (f x).isSome = true) ∧ ∃ es clock since seen c0, w.heap[M]? = some (.map es clock) ∧ Stamped es clock ∧ w.heap[r]? = some (.mapIter (some M) since seen c0) ∧ (∀ x ∈ es.toList, x.born < since) ∧ since ≤ c0 ∧ since ≤ clock ∧
    ∀ e ∈ es.toList, seen.contains e.born = true ↔ ∃ x ∈ ks, e.key = .int q x
theorem IterF.map {q : IntKind} {f : Int → Option Value} {w : World} {M r : Nat} {ks : List Int} (h : IterF q f w M r ks) : MapS q f w M := by
  obtain ⟨h1, _, _, es, clock, _, _, _, hb, hs, _⟩ := h
  exact ⟨h1, es, clock, hb, hs⟩
theorem IterF.lt {q : IntKind} {f : Int → Option Value} {w : World} {M r : Nat} {ks : List Int} (h : IterF q f w M r ks) : r < w.heap.size := by
  obtain ⟨_, _, _, es, clock, since, seen, c0, _, _, hr, _⟩ := h
  exact (Array.getElem?_eq_some_iff.1 hr).1
theorem IterF.ext {q : IntKind} {f : Int → Option Value} {w w' : World} {M r : Nat} {ks : List Int} {X : Nat → Prop} (h : IterF q f w M r ks) (hx : Ext X w w') (hM : ¬ X M) (hr : ¬ X r) : IterF q f w' M r ks ∧ w'.rangeLeft M r = w.rangeLeft M r := by
  have hl := h.lt
  have hml := h.map.lt
  obtain ⟨h1, h2, h3, es, clock, since, seen, c0, hb, hs, hri, rest⟩ := h
  have hb' := (hx.block M hml hM).trans hb
  have hr' := (hx.block r hl hr).trans hri
  refine ⟨⟨h1.ext hx hM, h2, h3, es, clock, since, seen, c0, hb', hs, hr', rest⟩, ?_⟩
  simp only [World.rangeLeft, hb, hri, hb', hr']
theorem MapS.range {P : Program} {q : IntKind} {f : Int → Option Value} {w : World} {M : Nat} (h : MapS q f w M) {t kt et : TypeId} (ht : P.underlying t = some (.map kt et)) :
    ∃ w', (Instr.range t (.map (some M))).run P w = .ok (.pointer (some ⟨w.heap.size, 0, none⟩)) w' ∧ IterF q f w' M w.heap.size [] ∧ Ext No w w' ∧ w'.heap.size = w.heap.size + 1 := by
  have hl := h.lt
  obtain ⟨es, clock, hb, hs⟩ := h.st
  have hx : Ext No w (w.alloc (.mapIter (some M) clock #[] clock)) := (Ext.refl No w).alloc _
  refine ⟨_, run_range_map w t kt et M es clock ht hb, ⟨h.fn.ext hx (fun h => h), by omega, by simp, es, clock, clock, #[], clock, (hx.block M hl (fun h => h)).trans hb, hs, (MapKept.heap_alloc w _).1, hs.1, Nat.le_refl _, Nat.le_refl _, fun e he => by simp⟩, hx, by simp⟩
theorem IterF.next {P : Program} {q : IntKind} {f : Int → Option Value} {w : World} {M r : Nat} {ks : List Int} (h : IterF q f w M r ks) (ty : TypeId) :
    ((∀ x, (f x).isSome = true → x ∈ ks) ∧ (Instr.next (.pointer (some ⟨r, 0, none⟩)) false ty).run P w = .ok (.tuple #[.bool false]) w) ∨
    ∃ x v w', f x = some v ∧ x ∉ ks ∧ (Instr.next (.pointer (some ⟨r, 0, none⟩)) false ty).run P w = .ok (.tuple #[.bool true, .int q x, v]) w' ∧ IterF q f w' M r (x :: ks) ∧ w'.rangeLeft M r < w.rangeLeft M r ∧ Ext (· = r) w w' ∧ w'.heap.size = w.heap.size ∧
      (Instr.entry (.pointer (some ⟨r, 0, none⟩))).run P w' = .ok (.tuple #[.int q x, v]) w' := by
  obtain ⟨hF, hMr, hks, es, clock, since, seen, c0, hb, hs, hr, hold, hsc, hsk, hseen⟩ := h
  obtain ⟨k1, k2, k3⟩ := hF.keys hb
  rcases run_next_at (P := P) w ty r M since c0 seen es clock hr hb hold hsc with ⟨h0, hrun⟩ | ⟨e, he, w1, hal, hrun⟩
  · refine Or.inl ⟨fun x hx => ?_, hrun⟩
    obtain ⟨v, hv⟩ := Option.isSome_iff_exists.1 hx
    obtain ⟨e, he, hke⟩ := k2 x v hv
    obtain ⟨y, hy, hye⟩ := (hseen e he).1 (all_seen es seen h0 e he)
    rw [hke] at hye
    cases hye
    exact hy
  · obtain ⟨hem, hes⟩ := mem_left he
    obtain ⟨x, hkx, hfx⟩ := k1 e hem
    have hxk : x ∉ ks := fun hx => by
      rw [(hseen e hem).2 ⟨x, hx, hkx⟩] at hes; cases hes
    have hr1 : w1.heap[r]? = some (.mapIter (some M) since seen c0) := by rcases hal with rfl | rfl <;> exact hr
    have hb1 : w1.heap[M]? = some (.map es clock) := by rcases hal with rfl | rfl <;> exact hb
    have hsz1 : w1.heap.size = w.heap.size := by rcases hal with rfl | rfl <;> rfl
    have hx1 : Ext (· = r) w w1 := by rcases hal with rfl | rfl <;> exact ⟨rfl, rfl, rfl, Nat.le_refl _, fun _ _ _ => rfl⟩
    have hset := heap_set (o' := .mapIter (some M) since (seen.push e.born) clock) hr1
    have hx2 : Ext (· = r) w (setBlock w1 r (.mapIter (some M) since (seen.push e.born) clock)) := ⟨hx1.os, hx1.tape, hx1.output, by simp [setBlock, hsz1], fun k hk hne => (hset.2 k hne).trans (hx1.block k hk hne)⟩
    have hb' : (setBlock w1 r (.mapIter (some M) since (seen.push e.born) clock)).heap[M]? = some (.map es clock) := (hset.2 M hMr).trans hb1
    have hr' : (setBlock w1 r (.mapIter (some M) since (seen.push e.born) clock)).heap[r]? = some (.mapIter (some M) since (seen.push e.born) clock) := hset.1
    refine Or.inr ⟨x, e.val, _, hfx, hxk, by rw [← hkx]; exact hrun, ⟨hF.ext hx2 hMr, hMr, fun y hy => ?_, es, clock, since, seen.push e.born, clock, hb', hs, hset.1, hold, hsk, hsk, fun a ha => ?_⟩, ?_, hx2, by simp [setBlock, hsz1], ?_⟩
    · rcases List.mem_cons.1 hy with rfl | hy
      · rw [hfx]; rfl
      · exact hks y hy
    · rw [contains_push, Bool.or_eq_true, beq_iff_eq, hseen a ha]
      constructor
      · rintro (⟨y, hy, hay⟩ | hbe)
        · exact ⟨y, List.mem_cons_of_mem _ hy, hay⟩
        · obtain rfl := born_inj ((stamped_iff es clock).1 hs).2.1 ha hem hbe
          exact ⟨x, by simp, hkx⟩
      · rintro ⟨y, hy, hay⟩
        rcases List.mem_cons.1 hy with rfl | hy
        · right
          have := entry_eq_of_key k3 ha hem (hay.trans hkx.symm)
          rw [this]
        · exact Or.inl ⟨y, hy, hay⟩
    · simp only [World.rangeLeft, hb, hr, hb', hr']
      exact left_shrinks es seen e he
    · rw [← hkx]
      exact run_entry_at _ r M since seen es clock e hset.1 hb' hem ((stamped_iff es clock).1 hs).2.1

section
variable {P : Program} (w : World) {ops : Array Oper} {rest : List Oper} {o : Oper} {a : Act} {Q : Exit → Act → World → Prop}
theorem wpList_delF (hg : o.guard = none) (m x : Operand) (t kt et : TypeId) (q : IntKind) (hop : o.op = Op.call { callee := Callee.builtin Builtin.delete, args := #[m, x], argTypes := #[t, kt] }) (ht : P.underlying t = some (.map kt et)) (hk : P.underlying kt = some (.int q))
    {M : Nat} {xi : Int} {f : Int → Option Value} (hm : a.eval m = .map (some M)) (hx : a.eval x = .int q xi) (h : MapS q f w M)
    (hK : ∀ w', MapS q (delF f xi) w' M → Ext (· = M) w w' → w'.heap.size = w.heap.size → wpList P ops Q rest (a.put o.dst (.tuple #[])) w') : wpList P ops Q (o :: rest) a w := by
  refine wpList_plain hg fun K' hK' => ?_
  obtain ⟨w', hrun, r1, r2, r3⟩ := h.delete (ty := o.type) ht hk xi
  unfold Oper.wp
  simp [execOp, hop, resolve, invoke, builtin, hm, hx, hrun, Result.andThen]
  exact hK' _ _ (hK w' r1 r2 r3)
theorem wpList_updS (hg : o.guard = none) (m x v : Operand) (t kt et : TypeId) (q : IntKind) (hop : o.op = Op.mapUpdate t m x v) (ht : P.underlying t = some (.map kt et)) (hk : P.underlying kt = some (.int q))
    {M : Nat} {xi : Int} {vv : Value} {f : Int → Option Value} (hm : a.eval m = .map (some M)) (hx : a.eval x = .int q xi) (hv : a.eval v = vv) (h : MapS q f w M)
    (hK : ∀ w', MapS q (upd f xi vv) w' M → Ext (· = M) w w' → w'.heap.size = w.heap.size → wpList P ops Q rest (a.put o.dst undef) w') : wpList P ops Q (o :: rest) a w := by
  obtain ⟨w', hrun, h1, h2, h3⟩ := h.update ht hk xi vv
  exact wpList_update w hg m x v t hop hm hx hv hrun (hK w' h1 h2 h3)
/-- 'v, ok := m[k]'. -/
theorem wpList_look2F (hg : o.guard = none) (m x : Operand) (t kt et : TypeId) (q : IntKind) (hop : o.op = Op.lookup t m x true) (ht : P.underlying t = some (.map kt et)) (hk : P.underlying kt = some (.int q))
    {M : Nat} {xi : Int} {z : Value} {f : Int → Option Value} (hz : (zeroValue et).run P w = .ok z w) (hm : a.eval m = .map (some M)) (hx : a.eval x = .int q xi) (h : MapF q f w M)
    (hK : wpList P ops Q rest (a.put o.dst (.tuple #[(f xi).getD z, .bool (f xi).isSome])) w) : wpList P ops Q (o :: rest) a w := by
  have hrun := h.look ht hk hz xi true
  exact wpList_look w hg m x t true hop hm hx (by simpa using hrun) hK
theorem wpList_rangeF (hg : o.guard = none) (m : Operand) (t kt et : TypeId) (q : IntKind) (hop : o.op = Op.range t m) (ht : P.underlying t = some (.map kt et)) {M : Nat} {f : Int → Option Value} (hm : a.eval m = .map (some M)) (h : MapS q f w M)
    (hK : ∀ w', IterF q f w' M w.heap.size [] → Ext No w w' → w'.heap.size = w.heap.size + 1 → wpList P ops Q rest (a.put o.dst (.pointer (some ⟨w.heap.size, 0, none⟩))) w') : wpList P ops Q (o :: rest) a w := by
  refine wpList_plain hg fun K' hK' => ?_
  obtain ⟨w', hrun, r1, r2, r3⟩ := h.range ht
  unfold Oper.wp
  simp [execOp, hop, hm, hrun, Result.andThen]
  exact hK' _ _ (hK w' r1 r2 r3)
theorem wpList_nextF (hg : o.guard = none) (it : Operand) (hop : o.op = Op.next it false) (q : IntKind) {M r : Nat} {f : Int → Option Value} {ks : List Int} (hit : a.eval it = .pointer (some ⟨r, 0, none⟩)) (h : IterF q f w M r ks)
    (hDone : (∀ x, (f x).isSome = true → x ∈ ks) → wpList P ops Q rest (a.put o.dst (.tuple #[.bool false])) w)
    (hMore : ∀ x v w', f x = some v → x ∉ ks → IterF q f w' M r (x :: ks) → w'.rangeLeft M r < w.rangeLeft M r → Ext (· = r) w w' → w'.heap.size = w.heap.size → (Instr.entry (.pointer (some ⟨r, 0, none⟩))).run P w' = .ok (.tuple #[.int q x, v]) w' → wpList P ops Q rest (a.put o.dst (.tuple #[.bool true, .int q x, v])) w') :
    wpList P ops Q (o :: rest) a w := by
  refine wpList_plain hg fun K' hK' => ?_
  unfold Oper.wp
  rcases h.next (P := P) o.type with ⟨h0, hrun⟩ | ⟨x, v, w', h1, h2, hrun, h3, h4, h5, h6, h7⟩
  · simp [execOp, hop, hit, hrun, Result.andThen]
    exact hK' _ _ (hDone h0)
  · simp [execOp, hop, hit, hrun, Result.andThen]
    exact hK' _ _ (hMore x v w' h1 h2 h3 h4 h5 h6 h7)
end
end Go.Proofs.YtceiaekkfabeaaaDoor

/- slices.Repeat of a row of one. -/
namespace Go.Proofs.YtceiaekkfabeaaaDoor
open Go.RowKit Go.Shelf

set_option maxHeartbeats 1000000 in
theorem mul_any (N : Nat) (hN : N ≤ 8) (w : World) : Calls Tryd.prog 95 #[.int .u64 1, .int .u64 (N : Int)] w fun e w' => e = .returned (.tuple #[.int .u64 0, .int .u64 (N : Int)]) ∧ w = w' := by
  obtain rfl | rfl | rfl | rfl | rfl | rfl | rfl | rfl | rfl : N = 0 ∨ N = 1 ∨ N = 2 ∨ N = 3 ∨ N = 4 ∨ N = 5 ∨ N = 6 ∨ N = 7 ∨ N = 8 := by omega
  all_goals
    go_enter Tryd.func95, Tryd.ntmps95
    go_wp2
    go_ret2
    exact ⟨ret_pair (congrArg (Value.int .u64) (by decide)) (congrArg (Value.int .u64) (by decide)), rfl⟩

/-- As PhC; and the last operation, d, writes a slot that the others read. -/
structure PhD (vals : Nat → Value) (c : Nat) (W0 : World) (Fact : Value → World → Prop) (d : Nat) (u0 : Value) (s : Nat → Value) (l : Nat → Bool) (w : World) : Prop where
  base : PhC vals c W0 Fact s l w
  fin : l d = true → ∀ j, j < d → l j = true
  old : l d = false → s d = u0
section
variable {vals : Nat → Value} {c : Nat} {W0 : World} {Fact : Value → World → Prop} {d : Nat} {u0 : Value} {s : Nat → Value} {l : Nat → Bool} {w w' : World}
theorem PhD.notyet (h : PhD vals c W0 Fact d u0 s l w) {i : Nat} (hi : i < d) (hl : l i = false) : l d = false := by
  cases hd : l d with
  | false => rfl
  | true => rw [h.fin hd i hi] at hl; cases hl
theorem PhD.e (h : PhD vals c W0 Fact d u0 s l w) {i : Nat} (hi : i < d) (hl : l i = false) : s d = u0 := h.old (h.notyet hi hl)
theorem PhD.val (h : PhD vals c W0 Fact d u0 s l w) (i : Nat) (hi : i ≠ c) (hid : i < d) (hl : l i = false) : PhD vals c W0 Fact d u0 (setS s i (vals i)) (setL l i) w := by
  have hn := h.notyet hid hl
  have hne : d ≠ i := by omega
  refine ⟨h.base.val i hi, fun hd => ?_, fun _ => ?_⟩
  · unfold setL at hd; rw [if_neg hne, hn] at hd; cases hd
  · unfold setS; rw [if_neg hne]; exact h.old hn
theorem PhD.call (h : PhD vals c W0 Fact d u0 s l w) (hid : c < d) (hl : l c = false) {v : Value} (hf : Fact v w') : PhD vals c W0 Fact d u0 (setS s c v) (setL l c) w' := by
  have hn := h.notyet hid hl
  have hne : d ≠ c := by omega
  refine ⟨h.base.call hf, fun hd => ?_, fun _ => ?_⟩
  · unfold setL at hd; rw [if_neg hne, hn] at hd; cases hd
  · unfold setS; rw [if_neg hne]; exact h.old hn
theorem PhD.last (h : PhD vals c W0 Fact d u0 s l w) (hc : d ≠ c) (hall : ∀ j, j < d → l j = true) : PhD vals c W0 Fact d u0 (setS s d (vals d)) (setL l d) w := by
  refine ⟨h.base.val d hc, fun _ j hj => ?_, fun hd => ?_⟩
  · unfold setL; rw [if_neg (by omega)]; exact hall j hj
  · unfold setL at hd; simp at hd
theorem PhD.start (h : s d = u0) : PhD vals c W0 Fact d u0 s (fun _ => false) W0 := ⟨PhC.start, by simp, fun _ => h⟩
end

/-- A row of numbers that was made: block G. -/
def IntRow (w : World) (G N : Nat) : Prop := ∃ f : Nat → Int, w.rowIs G 3 N (fun j => .int .i64 (f j))
theorem IntRow.ext {w w' : World} {G N : Nat} {X : Nat → Prop} (h : IntRow w G N) (hx : Ext X w w') (hn : ¬ X G) : IntRow w' G N := by
  obtain ⟨f, h⟩ := h
  exact ⟨f, h.of_block (hx.block G h.lt hn)⟩
theorem IntRow.lt {w : World} {G N : Nat} (h : IntRow w G N) : G < w.heap.size := by
  obtain ⟨f, h⟩ := h
  exact h.lt
theorem IntRow.set {w : World} {G N : Nat} (h : IntRow w G N) (i : Nat) (x : Int) : IntRow (w.setCell ⟨G, i, none⟩ (.int .i64 x)) G N := by
  obtain ⟨f, h⟩ := h
  refine ⟨fun j => if j = i then x else f j, (h.set i (.int .i64 x)).congr fun j hj => ?_⟩
  by_cases hji : j = i <;> simp [hji]
theorem size3 : (Tryd.prog.info? 3).map (·.size) = some 1 := by kernel_rfl
theorem IntRow.copied {w : World} {G N : Nat} (h : IntRow w G N) (ty : TypeId) (o : Nat) (ad : Addr) (xs : List Int) (dLen dCap sLen sCap : Nat) (hn : xs.length = min sLen dLen) (hsrc : ∀ j x, xs[j]? = some x → w.cell? (ad.add j) = some (.int .i64 x)) (hfit : o + xs.length ≤ N) :
    ∃ w', (Builtin.copy_ #[28, 28] ty #[.slice (some ⟨G, o, none⟩) dLen dCap, .slice (some ad) sLen sCap]).run Tryd.prog w = .ok (.int .i64 (xs.length : Int)) w' ∧ IntRow w' G N ∧ Ext (fun k => k = G) w w' := by
  have hl := h.lt
  obtain ⟨f, c, hb, hc, hf⟩ := h
  have hrun := run_copy_row (P := Tryd.prog) w 28 28 ty 3 G o dLen dCap ad sLen sCap c 3 (xs.map (.int .i64)) Tryd.underlying28 size3 hb (by rw [List.length_map]; exact hn) (fun j v hv => by
    rw [List.getElem?_map, Option.map_eq_some_iff] at hv
    obtain ⟨x, hx, rfl⟩ := hv
    exact hsrc j x hx) (by simp; omega) (fun v hv => by
    obtain ⟨x, _, rfl⟩ := List.mem_map.1 hv
    rfl)
  rw [List.length_map] at hrun
  refine ⟨_, hrun, ⟨fun j => if j < o then f j else if j < o + xs.length then xs.getD (j - o) 0 else f j, (c.toList.take o ++ xs.map (Value.int .i64) ++ c.toList.drop (o + xs.length)).toArray, ?_, ?_, fun i hi => ?_⟩, ?_⟩
  · rw [show (xs.length = (xs.map (Value.int .i64)).length) from by simp]; exact setRow_heap w G c _ 3 (0, 0) hb
  · simp; omega
  · simp only [List.getElem?_toArray]
    by_cases h1 : i < o
    · rw [if_pos h1, List.append_assoc, List.getElem?_append_left (by simp; omega), List.getElem?_take_of_lt h1]
      simpa using hf i hi
    · rw [if_neg h1]
      by_cases h2 : i < o + xs.length
      · rw [if_pos h2, List.append_assoc, List.getElem?_append_right (by simp; omega), List.getElem?_append_left (by simp; omega), List.getElem?_map]
        have e1 : i - (c.toList.take o).length = i - o := by simp; omega
        rw [e1, List.getD_eq_getElem?_getD]
        have : i - o < xs.length := by omega
        rw [List.getElem?_eq_getElem this]; rfl
      · rw [if_neg h2, List.getElem?_append_right (by simp; omega), List.getElem?_drop]
        have e1 : o + xs.length + (i - (c.toList.take o ++ xs.map (Value.int .i64)).length) = i := by simp; omega
        rw [e1]
        simpa using hf i hi
  · exact ⟨rfl, rfl, rfl, by simp [World.setRow], fun k hk hne => setRow_other w G k _ hne⟩

set_option maxHeartbeats 2000000 in
set_option maxRecDepth 100000 in
theorem Repeat_any {P : Nat → Prop} (v : Value) (x : Int) (N : Nat) (hN : N ≤ 8) (w : World) (hv : IntsR .i64 P w v [x]) :
    Calls Tryd.prog 91 #[v, .int .i64 (N : Int)] w fun e w' => ∃ G, e = .returned (.slice (some ⟨G, 0, none⟩) N N) ∧ w.heap.size ≤ G ∧ IntRow w' G N ∧ Ext No w w' := by
  obtain ⟨A, c, rfl, _, _, hat⟩ := hv.at
  obtain ⟨b, off, x', rfl, _, hcell, hx'⟩ := hat 0 (by simp)
  obtain rfl : x' = x := by have h := hx'.out; simp at h; exact h.symm
  rw [Nat.add_zero] at hcell
  have hmk := fun w => run_make_row' (P := Tryd.prog) 28 3 (.int .i64 0) 8 Tryd.underlying28 info3 rfl .i64 .i64 N (by omega) (by omega) w
  have HR0 : Sid (IntRow (w.alloc (.cells (madeCells #[.int .i64 0] N) 3)) w.heap.size N) := ⟨fun _ => 0, World.rowIs_made w (.int .i64 0) N 3⟩
  have HX0 : Sid (Ext No w (w.alloc (.cells (madeCells #[.int .i64 0] N) 3))) := ⟨(Ext.refl No w).alloc _⟩
  obtain ⟨w1, hcp, hr1, hx1⟩ := HR0.out.copied 3 0 ⟨b, off, none⟩ ([x'].take (min 1 N)) N N 1 c (by simp; try omega) (fun j y hy => by
    rw [List.getElem?_take] at hy
    split at hy
    · have hj : j = 0 := by rename_i h; omega
      subst hj
      simp at hy; subst hy
      exact HX0.out.no hcell
    · cases hy) (by simp; omega)
  have HR1 := Sid.mk hr1
  have HX1 : Sid (Ext No w w1) := ⟨HX0.out.step hx1 (fun i hi hh => by omega)⟩
  have hlen : (([x'].take (min 1 N)).length : Int) = (min 1 N : Nat) := by simp
  rw [hlen] at hcp
  obtain ⟨n1, hn1⟩ : ∃ n1, n1 = min 1 N := ⟨_, rfl⟩
  rw [← hn1] at hcp
  have HN1 := Sid.mk hn1
  have hu : IntKind.u64.wrap 1 = 1 := rfl
  have hu2 : IntKind.u64.wrap (N : Int) = (N : Int) := by simp [IntKind.wrap, IntKind.signed, IntKind.bits]; omega
  have hu3 : wrap64 (N : Int) = (N : Int) := by unfold wrap64; omega
  clear hr1 hx1 hlen hn1 hv hcell hat
  go_enter Tryd.func91, Tryd.ntmps91
  go_wp2_with (first
    | (go_at_call 95; refine (mul_any N hN _).mono ?_; rintro e w9 ⟨rfl, rfl⟩)
    | fail)
  obtain ⟨G, hG⟩ : ∃ G, G = w.heap.size := ⟨_, rfl⟩
  have HGS := Sid.mk hG
  rw [← hG] at HR1 ⊢
  clear hG hcp hmk HR0 HX0
  go_loopw [8] (fun i wr => ∃ n : Nat, n ≤ N ∧ (1 ≤ n ∨ N = 0) ∧ i = .int .i64 (n : Int) ∧ Sid (IntRow wr G N) ∧ Sid (Ext No w wr)) (fun i _ => N - (intOf i).toNat)
  case atStart => exact ⟨n1, by have := HN1.out; omega, by have := HN1.out; omega, rfl, HR1, HX1⟩
  case round =>
    obtain ⟨n, hn, hn0, rfl, HR, HX⟩ := hrel
    obtain ⟨wo, rfl⟩ : ∃ wo : World, wo = wr := ⟨_, rfl⟩
    by_cases hlt : n < N
    · have hsrc := HR.out
      obtain ⟨f, hrow⟩ := hsrc
      obtain ⟨m, hm⟩ : ∃ m, m = min n (N - n) := ⟨_, rfl⟩
      have hNn : ¬ N = n := by omega
      obtain ⟨w2, hcp, hr2, hx2⟩ := (show IntRow wo.drew G N from HR.out).copied 3 n ⟨G, 0, none⟩ ((List.range m).map f) (N - n) (N - n) n N (by simp; try omega) (fun j y hy => by
        rw [List.getElem?_map, Option.map_eq_some_iff] at hy
        obtain ⟨j', hj', rfl⟩ := hy
        obtain ⟨hjl, hjj⟩ := List.getElem?_eq_some_iff.1 hj'
        simp at hjl hjj
        subst hjj
        rw [addr_add, Nat.zero_add]
        exact hrow.cell (by omega)) (by simp; omega)
      rw [List.length_map, List.length_range] at hcp
      have HR2 := Sid.mk hr2
      have HX2 : Sid (Ext No w w2) := ⟨HX.out.drew.step hx2 (fun i hi hh => by have := HGS.out; omega)⟩
      have HM := Sid.mk hm
      have hwr : wrap64 ((n : Int) + (m : Int)) = ((n + m : Nat) : Int) := by unfold wrap64; omega
      clear hm hr2 hx2 hrow
      go_wp2
      refine (wpIn_wide (n := 0)).1 ?_
      obtain ⟨vals, hvals⟩ : ∃ vals : Nat → Value, vals = fun i => #[Value.int .i64 (n : Int), Value.slice (some ⟨G, 0, none⟩) N N, Value.int .i64 (n : Int), Value.slice (some ⟨G, n, none⟩) (N - n) (N - n), Value.slice (some ⟨G, 0, none⟩) N N, Value.int .i64 (n : Int), Value.slice (some ⟨G, 0, none⟩) n N, Value.int .i64 (m : Int), Value.int .i64 ((n + m : Nat) : Int), Value.int .i64 ((n + m : Nat) : Int)].getD i undef := ⟨_, rfl⟩
      have V0 : Sid (vals 0 = .int .i64 (n : Int)) := ⟨by rw [hvals]; rfl⟩
      have V1 : Sid (vals 1 = .slice (some ⟨G, 0, none⟩) N N) := ⟨by rw [hvals]; rfl⟩
      have V2 : Sid (vals 2 = .int .i64 (n : Int)) := ⟨by rw [hvals]; rfl⟩
      have V3 : Sid (vals 3 = .slice (some ⟨G, n, none⟩) (N - n) (N - n)) := ⟨by rw [hvals]; rfl⟩
      have V4 : Sid (vals 4 = .slice (some ⟨G, 0, none⟩) N N) := ⟨by rw [hvals]; rfl⟩
      have V5 : Sid (vals 5 = .int .i64 (n : Int)) := ⟨by rw [hvals]; rfl⟩
      have V6 : Sid (vals 6 = .slice (some ⟨G, 0, none⟩) n N) := ⟨by rw [hvals]; rfl⟩
      have V7 : Sid (vals 7 = .int .i64 (m : Int)) := ⟨by rw [hvals]; rfl⟩
      have V8 : Sid (vals 8 = .int .i64 ((n + m : Nat) : Int)) := ⟨by rw [hvals]; rfl⟩
      have V9 : Sid (vals 9 = .int .i64 ((n + m : Nat) : Int)) := ⟨by rw [hvals]; rfl⟩
      clear hvals
      refine wpIn_slots (fun s => { tmps := #[.slice (some ⟨b, off, none⟩) 1 c, .int .i64 (N : Int), undef, undef, .slice none 0 0, .int .u64 0, .int .u64 (N : Int), .slice (some ⟨G, 0, none⟩) N N, s 9, .int .i64 (N : Int), .bool (decide ((N : Int) < 0)), undef, .tuple #[.int .u64 0, .int .u64 (N : Int)], .slice (some ⟨b, off, none⟩) 1 c, .int .i64 1, .int .u64 1, .int .i64 (N : Int), .int .u64 (N : Int), .tuple #[.int .u64 0, .int .u64 (N : Int)], .int .u64 0, .int .u64 (N : Int), .int .u64 0, .bool false, .bool false, .int .u64 (N : Int), .bool (decide (9223372036854775807 < (N : Int))), .bool (decide (9223372036854775807 < (N : Int))), undef, .int .u64 (N : Int), .int .i64 (N : Int), .slice (some ⟨G, 0, none⟩) N N, .slice (some ⟨G, 0, none⟩) N N, .slice (some ⟨b, off, none⟩) 1 c, .int .i64 (n1 : Int), .int .i64 (n : Int), .slice (some ⟨G, 0, none⟩) N N, .int .i64 (N : Int), .bool true, s 0, s 1, s 2, s 3, s 4, s 5, s 6, s 7, s 8, undef], defers := [] })
        (PhD vals 7 wo.drew (fun v W => v = .int .i64 (m : Int) ∧ W = w2) 9 (.int .i64 (n : Int))) (fun i => #[u38, u39, u40, u41, u42, u43, u44, u45, u46, .int .i64 (n : Int)].getD i undef) (by kernel_rfl) (by kernel_rfl) ⟨fun _ _ => rfl, fun _ _ => rfl, fun _ _ => rfl, fun _ _ => rfl, fun _ _ => rfl, fun _ _ => rfl, fun _ _ => rfl, fun _ _ => rfl, fun _ _ => rfl, fun _ _ => rfl, trivial⟩ ?ha ?h0
        ⟨?s0, ?s1, ?s2, ?s3, ?s4, ?s5, ?s6, ?s7, ?s8, ?s9, trivial⟩ ?hend
      case ha => rfl
      case h0 => exact PhD.start rfl
      case s0 =>
        rintro s l w' K hl hd hp hK
        have e9 : s 9 = .int .i64 (n : Int) := hp.e (i := 0) (by decide) hl
        simp only [e9] at hK
        have HP := Sid.mk (hp.val 0 (by decide) (by decide) hl)
        rw [V0.out] at HP
        clear hp hd
        gi_wp2
        exact HP.out
      case s1 =>
        rintro s l w' K hl hd hp hK
        have HP := Sid.mk (hp.val 1 (by decide) (by decide) hl)
        rw [V1.out] at HP
        clear hp hd
        gi_wp2
        exact HP.out
      case s2 =>
        rintro s l w' K hl hd hp hK
        have e9 : s 9 = .int .i64 (n : Int) := hp.e (i := 2) (by decide) hl
        simp only [e9] at hK
        have HP := Sid.mk (hp.val 2 (by decide) (by decide) hl)
        rw [V2.out] at HP
        clear hp hd
        gi_wp2
        exact HP.out
      case s3 =>
        rintro s l w' K hl hd hp hK
        have e1 : s 1 = .slice (some ⟨G, 0, none⟩) N N := (hp.base.get 1 (hd { on := 1, ground := .data } (by simp) rfl) (by decide)).trans V1.out
        have e2 : s 2 = .int .i64 (n : Int) := (hp.base.get 2 (hd { on := 2, ground := .data } (by simp) rfl) (by decide)).trans V2.out
        simp only [e1, e2] at hK
        have HP := Sid.mk (hp.val 3 (by decide) (by decide) hl)
        rw [V3.out] at HP
        clear hp hd
        gi_wp2
        exact HP.out
      case s4 =>
        rintro s l w' K hl hd hp hK
        have HP := Sid.mk (hp.val 4 (by decide) (by decide) hl)
        rw [V4.out] at HP
        clear hp hd
        gi_wp2
        exact HP.out
      case s5 =>
        rintro s l w' K hl hd hp hK
        have e9 : s 9 = .int .i64 (n : Int) := hp.e (i := 5) (by decide) hl
        simp only [e9] at hK
        have HP := Sid.mk (hp.val 5 (by decide) (by decide) hl)
        rw [V5.out] at HP
        clear hp hd
        gi_wp2
        exact HP.out
      case s6 =>
        rintro s l w' K hl hd hp hK
        have e4 : s 4 = .slice (some ⟨G, 0, none⟩) N N := (hp.base.get 4 (hd { on := 4, ground := .data } (by simp) rfl) (by decide)).trans V4.out
        have e5 : s 5 = .int .i64 (n : Int) := (hp.base.get 5 (hd { on := 5, ground := .data } (by simp) rfl) (by decide)).trans V5.out
        simp only [e4, e5] at hK
        have HP := Sid.mk (hp.val 6 (by decide) (by decide) hl)
        rw [V6.out] at HP
        clear hp hd
        gi_wp2
        exact HP.out
      case s7 =>
        rintro s l w' K hl hd hp hK
        have e3 : s 3 = .slice (some ⟨G, n, none⟩) (N - n) (N - n) := (hp.base.get 3 (hd { on := 3, ground := .data } (by simp) rfl) (by decide)).trans V3.out
        have e6 : s 6 = .slice (some ⟨G, 0, none⟩) n N := (hp.base.get 6 (hd { on := 6, ground := .data } (by simp) rfl) (by decide)).trans V6.out
        simp only [e3, e6] at hK
        obtain rfl := hp.base.bef hl
        have HP := Sid.mk (hp.call (by decide) hl (v := .int .i64 (m : Int)) (w' := w2) ⟨rfl, rfl⟩)
        clear hp hd
        gi_wp2
        exact HP.out
      case s8 =>
        rintro s l w' K hl hd hp hK
        have e0 : s 0 = .int .i64 (n : Int) := (hp.base.get 0 (hd { on := 0, ground := .data } (by simp) rfl) (by decide)).trans V0.out
        have e7 : s 7 = .int .i64 (m : Int) := (hp.base.aft (hd { on := 7, ground := .data } (by simp) rfl)).1
        simp only [e0, e7] at hK
        have HP := Sid.mk (hp.val 8 (by decide) (by decide) hl)
        rw [V8.out, ← hwr] at HP
        clear hp hd
        gi_wp2
        exact HP.out
      case s9 =>
        rintro s l w' K hl hd hp hK
        have e8 : s 8 = .int .i64 ((n + m : Nat) : Int) := (hp.base.get 8 (hd { on := 8, ground := .data } (by simp) rfl) (by decide)).trans V8.out
        simp only [e8] at hK
        have HP := Sid.mk (hp.last (by decide) (fun j hj => by
          rcases (by omega : j = 0 ∨ j = 1 ∨ j = 2 ∨ j = 3 ∨ j = 4 ∨ j = 5 ∨ j = 6 ∨ j = 7 ∨ j = 8) with rfl | rfl | rfl | rfl | rfl | rfl | rfl | rfl | rfl
          · first | exact hd { on := 0, ground := .phase } (by simp) rfl | exact hd { on := 0, ground := .data } (by simp) rfl
          · first | exact hd { on := 1, ground := .phase } (by simp) rfl | exact hd { on := 1, ground := .data } (by simp) rfl
          · first | exact hd { on := 2, ground := .phase } (by simp) rfl | exact hd { on := 2, ground := .data } (by simp) rfl
          · first | exact hd { on := 3, ground := .phase } (by simp) rfl | exact hd { on := 3, ground := .data } (by simp) rfl
          · first | exact hd { on := 4, ground := .phase } (by simp) rfl | exact hd { on := 4, ground := .data } (by simp) rfl
          · first | exact hd { on := 5, ground := .phase } (by simp) rfl | exact hd { on := 5, ground := .data } (by simp) rfl
          · first | exact hd { on := 6, ground := .phase } (by simp) rfl | exact hd { on := 6, ground := .data } (by simp) rfl
          · first | exact hd { on := 7, ground := .phase } (by simp) rfl | exact hd { on := 7, ground := .data } (by simp) rfl
          · first | exact hd { on := 8, ground := .phase } (by simp) rfl | exact hd { on := 8, ground := .data } (by simp) rfl
          ))
        rw [V9.out] at HP
        clear hp hd
        gi_wp2
        exact HP.out
      case hend =>
        intro s l w' hall hp
        have e9 : s 9 = .int .i64 ((n + m : Nat) : Int) := (hp.base.get 9 (hall 9 (by decide)) (by decide)).trans V9.out
        obtain ⟨_, rfl⟩ := hp.base.aft (hall 7 (by decide))
        rw [e9]
        go_roundw
        case rel => exact ⟨_, _, _, _, _, _, _, _, _, _, _, _, _, _, ⟨n + m, by have := HM.out; omega, by have := HM.out; omega, rfl, HR2, HX2⟩, rfl⟩
        case measure => have := HM.out; simp [intOf]; omega
    · go_wp2
      go_ret
      exact ⟨G, rfl, by have := HGS.out; omega, HR.out, HX.out⟩
end Go.Proofs.YtceiaekkfabeaaaDoor
