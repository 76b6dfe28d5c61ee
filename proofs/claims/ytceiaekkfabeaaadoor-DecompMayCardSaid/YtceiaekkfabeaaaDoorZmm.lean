/- Words and contracts for: DecompMay: whatever hypergraph, bags and numbers are given, the law answers true, and its arguments read as before -/
import Derived.Test.YtceiaekkfabeaaaDoorZml
/- The law's own copy of bags. -/
namespace Go.Proofs.YtceiaekkfabeaaaDoor
open Go.RowKit Go.Shelf Pl
attribute [local go_sem] Oper.semAt_some

/-- A bag that can be gone through. -/
def cutB (b : Bag) : Bag := ⟨b.vs.take 8, b.es.take 9, b.parent⟩
def fewL (bs : List Bag) : List Bag := (bs.take 66).map cutB

/-- PhA, and what was not done yet stands as it stood. -/
structure PhI (s0 : Nat → Value) (D : List (Nat × Nat)) (c : Nat) (W0 : World) (Fact : Nat → Value → World → Prop) (Pure : Nat → Value → Prop) (Aft : (Nat → Value) → (Nat → Bool) → World → Prop) (s : Nat → Value) (l : Nat → Bool) (w : World) : Prop where
  base : PhA D c W0 Fact Pure Aft s l w
  old : ∀ i, l i = false → s i = s0 i
section
variable {s0 : Nat → Value} {D : List (Nat × Nat)} {c : Nat} {W0 w w' : World} {Fact : Nat → Value → World → Prop} {Pure : Nat → Value → Prop} {Aft : (Nat → Value) → (Nat → Bool) → World → Prop} {s : Nat → Value} {l : Nat → Bool}
theorem old_step (h : ∀ i, l i = false → s i = s0 i) {i : Nat} {v : Value} : ∀ j, setL l i j = false → setS s i v j = s0 j := fun j hj => by
  by_cases hji : j = i
  · subst hji; rw [setL, if_pos rfl] at hj; cases hj
  · rw [setL, if_neg hji] at hj; rw [setS, if_neg hji]; exact h j hj
theorem PhI.step (hst : ∀ i v w w', Ext No w w' → Fact i v w → Fact i v w') (h : PhI s0 D c W0 Fact Pure Aft s l w) {i : Nat} (hi : i ≠ c) (hd : ∀ j, (i, j) ∈ D → l j = true) (hc : l c = false) {v : Value} (hx : Ext No w w') (hf : Fact i v w') (hp : Pure i v) :
    PhI s0 D c W0 Fact Pure Aft (setS s i v) (setL l i) w' := ⟨h.base.step hst hi hd hc hx hf hp, old_step h.old⟩
theorem PhI.after (h : PhI s0 D c W0 Fact Pure Aft s l w) {i : Nat} {v : Value} (hd : ∀ j, (i, j) ∈ D → l j = true) (hc : setL l i c = true) (hp : Pure i v) (ha : Aft (setS s i v) (setL l i) w') : PhI s0 D c W0 Fact Pure Aft (setS s i v) (setL l i) w' :=
  ⟨h.base.after hd hc hp ha, old_step h.old⟩
end
/-- A bag that was just written. -/
theorem bagsR_new {P : Nat → Prop} {w : World} {u1 u2 : Value} {b : Bag} (hP : P w.heap.size) (h1 : IntsR .i64 P (w.alloc (.cells #[u1, u2, .int .i64 b.parent] 51)) u1 b.vs) (h2 : IntsR .i64 P (w.alloc (.cells #[u1, u2, .int .i64 b.parent] 51)) u2 b.es) :
    BagsR P (w.alloc (.cells #[u1, u2, .int .i64 b.parent] 51)) (.slice (some ⟨w.heap.size, 0, none⟩) 1 1) [b] := by
  refine ⟨some ⟨w.heap.size, 0, none⟩, 1, rfl, ⟨Nat.le_refl _, fun h => by cases h⟩, by simp, fun _ => ⟨_, rfl, hP, rfl, fun j hj => ?_⟩⟩
  have hj0 : j = 0 := by simpa using hj
  subst hj0
  refine ⟨[u1, u2, .int .i64 b.parent], ⟨_, _, rfl, h1, h2⟩, rfl, fun i u hu => ?_⟩
  have hh : (w.alloc (.cells #[u1, u2, .int .i64 b.parent] 51)).heap[w.heap.size]? = some (.cells #[u1, u2, .int .i64 b.parent] 51) := World.alloc_heap_new w _
  simp only [World.cell?, hh]
  simpa using hu

set_option maxHeartbeats 4000000 in
set_option maxRecDepth 100000 in
theorem few_any {P : Nat → Prop} (v : Value) (bs : List Bag) (w : World) (hv : BagsR P w v bs) :
    Calls Tryd.prog 22 #[v] w fun e w' => ∃ v', e = .returned v' ∧ BagsR (fun k => w.heap.size ≤ k) w' v' (fewL bs) ∧ Ext No w w' := by
  obtain ⟨A, c, rfl, hc, hm, hat⟩ := hv.at
  have HAT := Sid.mk hat
  clear hat hv
  go_enter Tryd.func22, Tryd.ntmps22
  go_wp2
  go_loopw [3, 8] (fun v i wr => ∃ (k : Nat), k ≤ bs.length ∧ i = .int .i64 (k : Int) ∧ Sid (OwnBags (fun j => w.heap.size ≤ j) w.heap.size wr v ((bs.take (min k 66)).map cutB)) ∧ Sid (Ext No w wr)) (fun _ i _ => bs.length - (intOf i).toNat)
  case atStart => exact ⟨0, Nat.zero_le _, rfl, ⟨OwnBags.nil _ _ _⟩, ⟨Ext.refl _ _⟩⟩
  case round =>
    obtain ⟨k, hk, rfl, HO, HX⟩ := hrel
    obtain ⟨wo, rfl⟩ : ∃ wo : World, wo = wr := ⟨_, rfl⟩
    by_cases hlt : k < bs.length
    · obtain ⟨b, off, A1, c1, A2, c2, vs, es, p, rfl, _, q0, q1, q2, HB, HI1, HI2⟩ := HAT.out k hlt
      have hq0 := HX.out.no q0
      have hq1 := HX.out.no q1
      have hq2 := HX.out.no q2
      clear q0 q1 q2
      by_cases h66 : k < 66
      · have h66' : (k : Int) < 66 := by omega
        obtain ⟨v, rfl⟩ : ∃ v : Value, v = u3 := ⟨_, rfl⟩
        obtain ⟨n1, hn1⟩ : ∃ n1, n1 = min vs.length 8 := ⟨_, rfl⟩
        obtain ⟨n2, hn2⟩ : ∃ n2, n2 = min es.length 9 := ⟨_, rfl⟩
        obtain ⟨V8, hV8⟩ : ∃ V8, V8 = vs.take 8 := ⟨_, rfl⟩
        obtain ⟨E9, hE9⟩ : ∃ E9, E9 = es.take 9 := ⟨_, rfl⟩
        have HL1 : Sid (V8.length ≤ 8) := ⟨by rw [hV8, List.length_take]; omega⟩
        have HL2 : Sid (E9.length ≤ 9) := ⟨by rw [hE9, List.length_take]; omega⟩
        have HCB : Sid (cutB ⟨vs, es, p⟩ = ⟨V8, E9, p⟩) := ⟨by rw [hV8, hE9]; rfl⟩
        obtain ⟨W, hW⟩ : ∃ W, W = wo.alloc (.cells #[.slice A1 vs.length c1, .slice A2 es.length c2, .int .i64 p] 51) := ⟨_, rfl⟩
        have HXB : Sid (Ext No wo W) := ⟨by rw [hW]; exact ext_box _⟩
        have HBX0 : Sid (W.drew.cell? ⟨wo.heap.size, 0, none⟩ = some (.slice A1 vs.length c1)) := ⟨by rw [hW]; simp [go_sem]⟩
        have HBX1 : Sid (W.drew.cell? ⟨wo.heap.size, 1, none⟩ = some (.slice A2 es.length c2)) := ⟨by rw [hW]; simp [go_sem]⟩
        have HBX2 : Sid (W.drew.cell? ⟨wo.heap.size, 2, none⟩ = some (.int .i64 p)) := ⟨by rw [hW]; simp [go_sem]⟩
        have hcap1 : vs.length ≤ c1 := by obtain ⟨_, c9, e9, hcr, _⟩ := HI1.out.at; simp only [Value.slice.injEq] at e9; rw [e9.2.2]; exact hcr
        have hcap2 : es.length ≤ c2 := by obtain ⟨_, c9, e9, hcr, _⟩ := HI2.out.at; simp only [Value.slice.injEq] at e9; rw [e9.2.2]; exact hcr
        have HN1 : Sid ((n1 : Int) ≤ (c1 : Int)) := ⟨by omega⟩
        have HN2 : Sid ((n2 : Int) ≤ (c2 : Int)) := ⟨by omega⟩
        have HI12 : Sid (IntsR .i64 P W (.slice A1 n1 c1) V8) := ⟨by
          rw [hV8]
          have h := (HI1.out.takes n1 (by omega)).no (HX.out.trans HXB.out)
          rwa [show vs.take n1 = vs.take 8 by rw [hn1, Nat.min_comm, List.take_eq_take_iff]; omega] at h⟩
        have HI22 : Sid (IntsR .i64 P W (.slice A2 n2 c2) E9) := ⟨by
          rw [hE9]
          have h := (HI2.out.takes n2 (by omega)).no (HX.out.trans HXB.out)
          rwa [show es.take n2 = es.take 9 by rw [hn2, Nat.min_comm, List.take_eq_take_iff]; omega] at h⟩
        have HWS : Sid (wo.heap.size < W.heap.size) := ⟨by rw [hW]; simp⟩
        obtain ⟨Fact, hFact⟩ : ∃ Fact : Nat → Value → World → Prop, Fact = fun i u X => (i = 8 → IntsR .i64 (fun j => W.heap.size ≤ j) X u V8) ∧ (i = 16 → IntsR .i64 (fun j => W.heap.size ≤ j) X u E9) ∧ (i = 19 → ∃ u1 u2, u = .agg #[u1, u2, .int .i64 p] ∧ IntsR .i64 (fun j => W.heap.size ≤ j) X u1 V8 ∧ IntsR .i64 (fun j => W.heap.size ≤ j) X u2 E9) ∧ (i = 20 → ∃ g, u = .slice (some ⟨g, 0, none⟩) 1 1 ∧ BagsR (fun j => W.heap.size ≤ j) X u [⟨V8, E9, p⟩]) := ⟨_, rfl⟩
        obtain ⟨Pure, hPure⟩ : ∃ Pure : Nat → Value → Prop, Pure = fun i u => (i = 0 → u = v) ∧ (i = 1 → u = .pointer (some ⟨wo.heap.size, 0, none⟩)) ∧ (i = 2 → u = .slice A1 vs.length c1) ∧ (i = 3 → u = .pointer (some ⟨wo.heap.size, 0, none⟩)) ∧ (i = 4 → u = .slice A1 vs.length c1) ∧ (i = 5 → u = .int .i64 (vs.length : Int)) ∧ (i = 6 → u = .int .i64 (n1 : Int)) ∧ (i = 7 → u = .slice A1 n1 c1) ∧ (i = 9 → u = .pointer (some ⟨wo.heap.size, 1, none⟩)) ∧ (i = 10 → u = .slice A2 es.length c2) ∧ (i = 11 → u = .pointer (some ⟨wo.heap.size, 1, none⟩)) ∧ (i = 12 → u = .slice A2 es.length c2) ∧ (i = 13 → u = .int .i64 (es.length : Int)) ∧ (i = 14 → u = .int .i64 (n2 : Int)) ∧ (i = 15 → u = .slice A2 n2 c2) ∧ (i = 17 → u = .pointer (some ⟨wo.heap.size, 2, none⟩)) ∧ (i = 18 → u = .int .i64 p) := ⟨_, rfl⟩
        obtain ⟨Aft, hAft⟩ : ∃ Aft : (Nat → Value) → (Nat → Bool) → World → Prop, Aft = fun s l X => OwnBags (fun j => w.heap.size ≤ j) w.heap.size X (s 21) ((bs.take (min k 66)).map cutB ++ [⟨V8, E9, p⟩]) ∧ Ext (fun j => some j = v.ownBlock) wo X ∧ (l 22 = true → s 22 = s 21) := ⟨_, rfl⟩
        have HAF := Sid.mk hAft
        have HST : Sid (∀ i u X X', Ext No X X' → Fact i u X → Fact i u X') := ⟨fun i u X X' hx hf => by
          rw [hFact] at hf ⊢
          exact ⟨fun h => (hf.1 h).no hx, fun h => (hf.2.1 h).no hx, fun h => by obtain ⟨u1, u2, a, b, c⟩ := hf.2.2.1 h; exact ⟨u1, u2, a, b.no hx, c.no hx⟩, fun h => by obtain ⟨g, a, b⟩ := hf.2.2.2 h; exact ⟨g, a, b.no hx⟩⟩⟩
        have HF8 : Sid (∀ u X, Fact 8 u X = IntsR .i64 (fun j => W.heap.size ≤ j) X u V8) := ⟨fun u X => by rw [hFact]; simp⟩
        have HF16 : Sid (∀ u X, Fact 16 u X = IntsR .i64 (fun j => W.heap.size ≤ j) X u E9) := ⟨fun u X => by rw [hFact]; simp⟩
        have HF19 : Sid (∀ u X, Fact 19 u X = ∃ u1 u2, u = .agg #[u1, u2, .int .i64 p] ∧ IntsR .i64 (fun j => W.heap.size ≤ j) X u1 V8 ∧ IntsR .i64 (fun j => W.heap.size ≤ j) X u2 E9) := ⟨fun u X => by rw [hFact]; simp⟩
        have HF20 : Sid (∀ u X, Fact 20 u X = ∃ g, u = .slice (some ⟨g, 0, none⟩) 1 1 ∧ BagsR (fun j => W.heap.size ≤ j) X u [⟨V8, E9, p⟩]) := ⟨fun u X => by rw [hFact]; simp⟩
        have HFT : Sid (∀ i u X, i ≠ 8 → i ≠ 16 → i ≠ 19 → i ≠ 20 → Fact i u X) := ⟨fun i u X h1 h2 h3 h4 => by rw [hFact]; exact ⟨fun h => absurd h h1, fun h => absurd h h2, fun h => absurd h h3, fun h => absurd h h4⟩⟩
        have HP0 : Sid (∀ u, Pure 0 u = (u = v)) := ⟨fun u => by rw [hPure]; simp⟩
        have HP1 : Sid (∀ u, Pure 1 u = (u = .pointer (some ⟨wo.heap.size, 0, none⟩))) := ⟨fun u => by rw [hPure]; simp⟩
        have HP2 : Sid (∀ u, Pure 2 u = (u = .slice A1 vs.length c1)) := ⟨fun u => by rw [hPure]; simp⟩
        have HP3 : Sid (∀ u, Pure 3 u = (u = .pointer (some ⟨wo.heap.size, 0, none⟩))) := ⟨fun u => by rw [hPure]; simp⟩
        have HP4 : Sid (∀ u, Pure 4 u = (u = .slice A1 vs.length c1)) := ⟨fun u => by rw [hPure]; simp⟩
        have HP5 : Sid (∀ u, Pure 5 u = (u = .int .i64 (vs.length : Int))) := ⟨fun u => by rw [hPure]; simp⟩
        have HP6 : Sid (∀ u, Pure 6 u = (u = .int .i64 (n1 : Int))) := ⟨fun u => by rw [hPure]; simp⟩
        have HP7 : Sid (∀ u, Pure 7 u = (u = .slice A1 n1 c1)) := ⟨fun u => by rw [hPure]; simp⟩
        have HP9 : Sid (∀ u, Pure 9 u = (u = .pointer (some ⟨wo.heap.size, 1, none⟩))) := ⟨fun u => by rw [hPure]; simp⟩
        have HP10 : Sid (∀ u, Pure 10 u = (u = .slice A2 es.length c2)) := ⟨fun u => by rw [hPure]; simp⟩
        have HP11 : Sid (∀ u, Pure 11 u = (u = .pointer (some ⟨wo.heap.size, 1, none⟩))) := ⟨fun u => by rw [hPure]; simp⟩
        have HP12 : Sid (∀ u, Pure 12 u = (u = .slice A2 es.length c2)) := ⟨fun u => by rw [hPure]; simp⟩
        have HP13 : Sid (∀ u, Pure 13 u = (u = .int .i64 (es.length : Int))) := ⟨fun u => by rw [hPure]; simp⟩
        have HP14 : Sid (∀ u, Pure 14 u = (u = .int .i64 (n2 : Int))) := ⟨fun u => by rw [hPure]; simp⟩
        have HP15 : Sid (∀ u, Pure 15 u = (u = .slice A2 n2 c2)) := ⟨fun u => by rw [hPure]; simp⟩
        have HP17 : Sid (∀ u, Pure 17 u = (u = .pointer (some ⟨wo.heap.size, 2, none⟩))) := ⟨fun u => by rw [hPure]; simp⟩
        have HP18 : Sid (∀ u, Pure 18 u = (u = .int .i64 p)) := ⟨fun u => by rw [hPure]; simp⟩
        have HPT : Sid (∀ i u, i = 8 ∨ i = 16 ∨ i = 19 ∨ i = 20 ∨ i = 21 ∨ i = 22 → Pure i u) := ⟨fun i u h => by rw [hPure]; rcases h with rfl | rfl | rfl | rfl | rfl | rfl <;> simp⟩
        obtain ⟨s0, hs0⟩ : ∃ s0 : Nat → Value, s0 = fun i => #[u15, u16, u17, u18, u19, u20, u21, u22, u23, u24, u25, u26, u27, u28, u29, u30, u31, u32, u33, u34, u35, u36, v].getD i undef := ⟨_, rfl⟩
        have HS0 := Sid.mk hs0
        have HM1 := Sid.mk hn1
        have HM2 := Sid.mk hn2
        clear hFact hPure hAft hs0 hn1 hn2 hV8 hE9
        go_wp2
        rw [← hW]
        clear hW
        refine (wpIn_wide (n := 0)).1 ?_
        refine wpIn_slots (fun s => { tmps := #[.slice (some ⟨b, off, none⟩) bs.length c, undef, .slice none 0 0, s 22, .int .i64 (k : Int), .pointer (some ⟨wo.heap.size, 0, none⟩), .slice (some ⟨b, off, none⟩) bs.length c, .int .i64 (bs.length : Int), .int .i64 (k : Int), .bool true, .int .i64 (k : Int), .pointer (some ⟨b, off + k * 3, none⟩), .agg #[.slice A1 vs.length c1, .slice A2 es.length c2, .int .i64 p], .int .i64 (k : Int), .bool true, s 0, s 1, s 2, s 3, s 4, s 5, s 6, s 7, s 8, s 9, s 10, s 11, s 12, s 13, s 14, s 15, s 16, s 17, s 18, s 19, s 20, s 21, u37, undef], defers := [] })
          (PhI s0 [(2, 1), (4, 3), (5, 4), (6, 5), (7, 2), (7, 6), (8, 7), (10, 9), (12, 11), (13, 12), (14, 13), (15, 10), (15, 14), (16, 15), (18, 17), (19, 8), (19, 16), (19, 18), (20, 19), (21, 0), (21, 20), (22, 21)] 21 W.drew Fact Pure Aft) s0 (by kernel_rfl) (by kernel_rfl) ⟨fun _ _ => rfl, fun _ _ => rfl, fun _ _ => rfl, fun _ _ => rfl, fun _ _ => rfl, fun _ _ => rfl, fun _ _ => rfl, fun _ _ => rfl, fun _ _ => rfl, fun _ _ => rfl, fun _ _ => rfl, fun _ _ => rfl, fun _ _ => rfl, fun _ _ => rfl, fun _ _ => rfl, fun _ _ => rfl, fun _ _ => rfl, fun _ _ => rfl, fun _ _ => rfl, fun _ _ => rfl, fun _ _ => rfl, fun _ _ => rfl, fun _ _ => rfl, trivial⟩ ?ha ?h0
          ⟨?s0, ?s1, ?s2, ?s3, ?s4, ?s5, ?s6, ?s7, ?s8, ?s9, ?s10, ?s11, ?s12, ?s13, ?s14, ?s15, ?s16, ?s17, ?s18, ?s19, ?s20, ?s21, ?s22, trivial⟩ ?hend
        case ha => rw [HS0.out]; rfl
        case h0 => exact ⟨PhA.start, fun _ _ => rfl⟩
        case s0 =>
          rintro s l w' K hl hd hpi hK
          have hp := hpi.base
          have hc : l 21 = false := by
            cases h21 : l 21 with
            | false => rfl
            | true =>
              have h0 := hp.dep 21 0 (by simp) h21
              rw [hl] at h0; cases h0
          have hdp : ∀ j, (0, j) ∈ [(2, 1), (4, 3), (5, 4), (6, 5), (7, 2), (7, 6), (8, 7), (10, 9), (12, 11), (13, 12), (14, 13), (15, 10), (15, 14), (16, 15), (18, 17), (19, 8), (19, 16), (19, 18), (20, 19), (21, 0), (21, 20), (22, 21)] → l j = true := (by intro j hj; simp at hj)
          have e22 : s 22 = v := (hpi.old 22 (by cases h22 : l 22 with | false => rfl | true => (have := hp.dep 22 21 (by simp) h22; rw [hc] at this; cases this))).trans (by rw [HS0.out]; rfl)
          simp only [e22] at hK
          have HP := Sid.mk (hpi.step HST.out (i := 0) (v := v) (by decide) hdp hc (Ext.refl _ _) (HFT.out _ _ _ (by decide) (by decide) (by decide) (by decide)) (by rw [HP0.out]))
          clear hp hpi hd hdp
          gi_wp2
          exact HP.out
        case s1 =>
          rintro s l w' K hl hd hpi hK
          have hp := hpi.base
          have hc : l 21 = false := by
            cases h21 : l 21 with
            | false => rfl
            | true =>
              have h20 := hp.dep 21 20 (by simp) h21
              have h19 := hp.dep 20 19 (by simp) h20
              have h8 := hp.dep 19 8 (by simp) h19
              have h7 := hp.dep 8 7 (by simp) h8
              have h2 := hp.dep 7 2 (by simp) h7
              have h1 := hp.dep 2 1 (by simp) h2
              rw [hl] at h1; cases h1
          have hdp : ∀ j, (1, j) ∈ [(2, 1), (4, 3), (5, 4), (6, 5), (7, 2), (7, 6), (8, 7), (10, 9), (12, 11), (13, 12), (14, 13), (15, 10), (15, 14), (16, 15), (18, 17), (19, 8), (19, 16), (19, 18), (20, 19), (21, 0), (21, 20), (22, 21)] → l j = true := (by intro j hj; simp at hj)
          have HP := Sid.mk (hpi.step HST.out (i := 1) (v := .pointer (some ⟨wo.heap.size, 0, none⟩)) (by decide) hdp hc (Ext.refl _ _) (HFT.out _ _ _ (by decide) (by decide) (by decide) (by decide)) (by rw [HP1.out]))
          clear hp hpi hd hdp
          gi_wp2
          exact HP.out
        case s2 =>
          rintro s l w' K hl hd hpi hK
          have hp := hpi.base
          have hc : l 21 = false := by
            cases h21 : l 21 with
            | false => rfl
            | true =>
              have h20 := hp.dep 21 20 (by simp) h21
              have h19 := hp.dep 20 19 (by simp) h20
              have h8 := hp.dep 19 8 (by simp) h19
              have h7 := hp.dep 8 7 (by simp) h8
              have h2 := hp.dep 7 2 (by simp) h7
              rw [hl] at h2; cases h2
          have hdp : ∀ j, (2, j) ∈ [(2, 1), (4, 3), (5, 4), (6, 5), (7, 2), (7, 6), (8, 7), (10, 9), (12, 11), (13, 12), (14, 13), (15, 10), (15, 14), (16, 15), (18, 17), (19, 8), (19, 16), (19, 18), (20, 19), (21, 0), (21, 20), (22, 21)] → l j = true := (by intro j hj; simp at hj; subst hj; exact hd { on := 1, ground := .data } (by simp) rfl)
          have e1 : s 1 = .pointer (some ⟨wo.heap.size, 0, none⟩) := by have h := hp.pur 1 (hd { on := 1, ground := .data } (by simp) rfl); rwa [HP1.out] at h
          simp only [e1] at hK
          have hcw := (hp.bef hc).1.no (p := ⟨wo.heap.size, 0, none⟩) HBX0.out
          have HP := Sid.mk (hpi.step HST.out (i := 2) (v := .slice A1 vs.length c1) (by decide) hdp hc (Ext.refl _ _) (HFT.out _ _ _ (by decide) (by decide) (by decide) (by decide)) (by rw [HP2.out]))
          clear hp hpi hd hdp
          gi_wp2
          exact HP.out
        case s3 =>
          rintro s l w' K hl hd hpi hK
          have hp := hpi.base
          have hc : l 21 = false := by
            cases h21 : l 21 with
            | false => rfl
            | true =>
              have h20 := hp.dep 21 20 (by simp) h21
              have h19 := hp.dep 20 19 (by simp) h20
              have h8 := hp.dep 19 8 (by simp) h19
              have h7 := hp.dep 8 7 (by simp) h8
              have h6 := hp.dep 7 6 (by simp) h7
              have h5 := hp.dep 6 5 (by simp) h6
              have h4 := hp.dep 5 4 (by simp) h5
              have h3 := hp.dep 4 3 (by simp) h4
              rw [hl] at h3; cases h3
          have hdp : ∀ j, (3, j) ∈ [(2, 1), (4, 3), (5, 4), (6, 5), (7, 2), (7, 6), (8, 7), (10, 9), (12, 11), (13, 12), (14, 13), (15, 10), (15, 14), (16, 15), (18, 17), (19, 8), (19, 16), (19, 18), (20, 19), (21, 0), (21, 20), (22, 21)] → l j = true := (by intro j hj; simp at hj)
          have HP := Sid.mk (hpi.step HST.out (i := 3) (v := .pointer (some ⟨wo.heap.size, 0, none⟩)) (by decide) hdp hc (Ext.refl _ _) (HFT.out _ _ _ (by decide) (by decide) (by decide) (by decide)) (by rw [HP3.out]))
          clear hp hpi hd hdp
          gi_wp2
          exact HP.out
        case s4 =>
          rintro s l w' K hl hd hpi hK
          have hp := hpi.base
          have hc : l 21 = false := by
            cases h21 : l 21 with
            | false => rfl
            | true =>
              have h20 := hp.dep 21 20 (by simp) h21
              have h19 := hp.dep 20 19 (by simp) h20
              have h8 := hp.dep 19 8 (by simp) h19
              have h7 := hp.dep 8 7 (by simp) h8
              have h6 := hp.dep 7 6 (by simp) h7
              have h5 := hp.dep 6 5 (by simp) h6
              have h4 := hp.dep 5 4 (by simp) h5
              rw [hl] at h4; cases h4
          have hdp : ∀ j, (4, j) ∈ [(2, 1), (4, 3), (5, 4), (6, 5), (7, 2), (7, 6), (8, 7), (10, 9), (12, 11), (13, 12), (14, 13), (15, 10), (15, 14), (16, 15), (18, 17), (19, 8), (19, 16), (19, 18), (20, 19), (21, 0), (21, 20), (22, 21)] → l j = true := (by intro j hj; simp at hj; subst hj; exact hd { on := 3, ground := .data } (by simp) rfl)
          have e3 : s 3 = .pointer (some ⟨wo.heap.size, 0, none⟩) := by have h := hp.pur 3 (hd { on := 3, ground := .data } (by simp) rfl); rwa [HP3.out] at h
          simp only [e3] at hK
          have hcw := (hp.bef hc).1.no (p := ⟨wo.heap.size, 0, none⟩) HBX0.out
          have HP := Sid.mk (hpi.step HST.out (i := 4) (v := .slice A1 vs.length c1) (by decide) hdp hc (Ext.refl _ _) (HFT.out _ _ _ (by decide) (by decide) (by decide) (by decide)) (by rw [HP4.out]))
          clear hp hpi hd hdp
          gi_wp2
          exact HP.out
        case s5 =>
          rintro s l w' K hl hd hpi hK
          have hp := hpi.base
          have hc : l 21 = false := by
            cases h21 : l 21 with
            | false => rfl
            | true =>
              have h20 := hp.dep 21 20 (by simp) h21
              have h19 := hp.dep 20 19 (by simp) h20
              have h8 := hp.dep 19 8 (by simp) h19
              have h7 := hp.dep 8 7 (by simp) h8
              have h6 := hp.dep 7 6 (by simp) h7
              have h5 := hp.dep 6 5 (by simp) h6
              rw [hl] at h5; cases h5
          have hdp : ∀ j, (5, j) ∈ [(2, 1), (4, 3), (5, 4), (6, 5), (7, 2), (7, 6), (8, 7), (10, 9), (12, 11), (13, 12), (14, 13), (15, 10), (15, 14), (16, 15), (18, 17), (19, 8), (19, 16), (19, 18), (20, 19), (21, 0), (21, 20), (22, 21)] → l j = true := (by intro j hj; simp at hj; subst hj; exact hd { on := 4, ground := .data } (by simp) rfl)
          have e4 : s 4 = .slice A1 vs.length c1 := by have h := hp.pur 4 (hd { on := 4, ground := .data } (by simp) rfl); rwa [HP4.out] at h
          simp only [e4] at hK
          have HP := Sid.mk (hpi.step HST.out (i := 5) (v := .int .i64 (vs.length : Int)) (by decide) hdp hc (Ext.refl _ _) (HFT.out _ _ _ (by decide) (by decide) (by decide) (by decide)) (by rw [HP5.out]))
          clear hp hpi hd hdp
          gi_wp2
          exact HP.out
        case s6 =>
          rintro s l w' K hl hd hpi hK
          have hp := hpi.base
          have hc : l 21 = false := by
            cases h21 : l 21 with
            | false => rfl
            | true =>
              have h20 := hp.dep 21 20 (by simp) h21
              have h19 := hp.dep 20 19 (by simp) h20
              have h8 := hp.dep 19 8 (by simp) h19
              have h7 := hp.dep 8 7 (by simp) h8
              have h6 := hp.dep 7 6 (by simp) h7
              rw [hl] at h6; cases h6
          have hdp : ∀ j, (6, j) ∈ [(2, 1), (4, 3), (5, 4), (6, 5), (7, 2), (7, 6), (8, 7), (10, 9), (12, 11), (13, 12), (14, 13), (15, 10), (15, 14), (16, 15), (18, 17), (19, 8), (19, 16), (19, 18), (20, 19), (21, 0), (21, 20), (22, 21)] → l j = true := (by intro j hj; simp at hj; subst hj; exact hd { on := 5, ground := .data } (by simp) rfl)
          have e5 : s 5 = .int .i64 (vs.length : Int) := by have h := hp.pur 5 (hd { on := 5, ground := .data } (by simp) rfl); rwa [HP5.out] at h
          simp only [e5] at hK
          have hnn := HM1.out
          by_cases hmin : (vs.length : Int) ≤ 8
          · have hnv : (n1 : Int) = (vs.length : Int) := by omega
            have HP := Sid.mk (hpi.step HST.out (i := 6) (v := .int .i64 (n1 : Int)) (by decide) hdp hc (Ext.refl _ _) (HFT.out _ _ _ (by decide) (by decide) (by decide) (by decide)) (by rw [HP6.out]))
            rw [hnv] at HP
            clear hp hpi hd hdp hnv hnn
            gi_wp2
            exact HP.out
          · have hnv : (n1 : Int) = 8 := by omega
            have HP := Sid.mk (hpi.step HST.out (i := 6) (v := .int .i64 (n1 : Int)) (by decide) hdp hc (Ext.refl _ _) (HFT.out _ _ _ (by decide) (by decide) (by decide) (by decide)) (by rw [HP6.out]))
            rw [hnv] at HP
            clear hp hpi hd hdp hnv hnn
            have hmin2 : 8 < (vs.length : Int) := by omega
            clear hmin
            gi_wp2
            exact HP.out
        case s7 =>
          rintro s l w' K hl hd hpi hK
          have hp := hpi.base
          have hc : l 21 = false := by
            cases h21 : l 21 with
            | false => rfl
            | true =>
              have h20 := hp.dep 21 20 (by simp) h21
              have h19 := hp.dep 20 19 (by simp) h20
              have h8 := hp.dep 19 8 (by simp) h19
              have h7 := hp.dep 8 7 (by simp) h8
              rw [hl] at h7; cases h7
          have hdp : ∀ j, (7, j) ∈ [(2, 1), (4, 3), (5, 4), (6, 5), (7, 2), (7, 6), (8, 7), (10, 9), (12, 11), (13, 12), (14, 13), (15, 10), (15, 14), (16, 15), (18, 17), (19, 8), (19, 16), (19, 18), (20, 19), (21, 0), (21, 20), (22, 21)] → l j = true := (by intro j hj; simp at hj; rcases hj with rfl | rfl; all_goals (first | exact hd { on := 2, ground := .data } (by simp) rfl | exact hd { on := 6, ground := .data } (by simp) rfl))
          have e2 : s 2 = .slice A1 vs.length c1 := by have h := hp.pur 2 (hd { on := 2, ground := .data } (by simp) rfl); rwa [HP2.out] at h
          have e6 : s 6 = .int .i64 (n1 : Int) := by have h := hp.pur 6 (hd { on := 6, ground := .data } (by simp) rfl); rwa [HP6.out] at h
          simp only [e2, e6] at hK
          have hb1 : (n1 : Int) ≤ (c1 : Int) := HN1.out
          have hb2 : (0 : Int) ≤ (n1 : Int) := by omega
          have HP := Sid.mk (hpi.step HST.out (i := 7) (v := .slice A1 n1 c1) (by decide) hdp hc (Ext.refl _ _) (HFT.out _ _ _ (by decide) (by decide) (by decide) (by decide)) (by rw [HP7.out]))
          clear hp hpi hd hdp
          gi_wp2
          exact HP.out
        case s8 =>
          rintro s l w' K hl hd hpi hK
          have hp := hpi.base
          have hc : l 21 = false := by
            cases h21 : l 21 with
            | false => rfl
            | true =>
              have h20 := hp.dep 21 20 (by simp) h21
              have h19 := hp.dep 20 19 (by simp) h20
              have h8 := hp.dep 19 8 (by simp) h19
              rw [hl] at h8; cases h8
          have hdp : ∀ j, (8, j) ∈ [(2, 1), (4, 3), (5, 4), (6, 5), (7, 2), (7, 6), (8, 7), (10, 9), (12, 11), (13, 12), (14, 13), (15, 10), (15, 14), (16, 15), (18, 17), (19, 8), (19, 16), (19, 18), (20, 19), (21, 0), (21, 20), (22, 21)] → l j = true := (by intro j hj; simp at hj; subst hj; exact hd { on := 7, ground := .data } (by simp) rfl)
          have e7 : s 7 = .slice A1 n1 c1 := by have h := hp.pur 7 (hd { on := 7, ground := .data } (by simp) rfl); rwa [HP7.out] at h
          simp only [e7] at hK
          have hx := (hp.bef hc).1
          have HIW : Sid (IntsR .i64 P w' (.slice A1 n1 c1) V8) := ⟨HI12.out.no ((Ext.refl No W).drew.trans hx)⟩
          have HSW : Sid (W.heap.size ≤ w'.heap.size) := ⟨by have := hx.size; simpa using this⟩
          have HPP := Sid.mk hpi
          have HC := Sid.mk hc
          have HDP := Sid.mk hdp
          clear hp hpi hd hx hc hdp
          gi_wp2_with (refine ⟨trivial, rfl, ?_⟩; gi_at_call 10; refine (callsIn_wide.2 (Clone_any _ V8 _ HIW.out (by have := HL1.out; omega))).mono ?_; rintro e w2 ⟨v2, rfl, hr2, hx2⟩; have HR2 := Sid.mk hr2; have HX2 := Sid.mk hx2; clear hr2 hx2)
          exact HPP.out.step HST.out (i := 8) (by decide) HDP.out HC.out HX2.out (by rw [HF8.out]; exact HR2.out.imp (fun j _ hj => by have := HSW.out; omega)) (HPT.out _ _ (by simp))
        case s9 =>
          rintro s l w' K hl hd hpi hK
          have hp := hpi.base
          have hc : l 21 = false := by
            cases h21 : l 21 with
            | false => rfl
            | true =>
              have h20 := hp.dep 21 20 (by simp) h21
              have h19 := hp.dep 20 19 (by simp) h20
              have h16 := hp.dep 19 16 (by simp) h19
              have h15 := hp.dep 16 15 (by simp) h16
              have h10 := hp.dep 15 10 (by simp) h15
              have h9 := hp.dep 10 9 (by simp) h10
              rw [hl] at h9; cases h9
          have hdp : ∀ j, (9, j) ∈ [(2, 1), (4, 3), (5, 4), (6, 5), (7, 2), (7, 6), (8, 7), (10, 9), (12, 11), (13, 12), (14, 13), (15, 10), (15, 14), (16, 15), (18, 17), (19, 8), (19, 16), (19, 18), (20, 19), (21, 0), (21, 20), (22, 21)] → l j = true := (by intro j hj; simp at hj)
          have HP := Sid.mk (hpi.step HST.out (i := 9) (v := .pointer (some ⟨wo.heap.size, 1, none⟩)) (by decide) hdp hc (Ext.refl _ _) (HFT.out _ _ _ (by decide) (by decide) (by decide) (by decide)) (by rw [HP9.out]))
          clear hp hpi hd hdp
          gi_wp2
          exact HP.out
        case s10 =>
          rintro s l w' K hl hd hpi hK
          have hp := hpi.base
          have hc : l 21 = false := by
            cases h21 : l 21 with
            | false => rfl
            | true =>
              have h20 := hp.dep 21 20 (by simp) h21
              have h19 := hp.dep 20 19 (by simp) h20
              have h16 := hp.dep 19 16 (by simp) h19
              have h15 := hp.dep 16 15 (by simp) h16
              have h10 := hp.dep 15 10 (by simp) h15
              rw [hl] at h10; cases h10
          have hdp : ∀ j, (10, j) ∈ [(2, 1), (4, 3), (5, 4), (6, 5), (7, 2), (7, 6), (8, 7), (10, 9), (12, 11), (13, 12), (14, 13), (15, 10), (15, 14), (16, 15), (18, 17), (19, 8), (19, 16), (19, 18), (20, 19), (21, 0), (21, 20), (22, 21)] → l j = true := (by intro j hj; simp at hj; subst hj; exact hd { on := 9, ground := .data } (by simp) rfl)
          have e9 : s 9 = .pointer (some ⟨wo.heap.size, 1, none⟩) := by have h := hp.pur 9 (hd { on := 9, ground := .data } (by simp) rfl); rwa [HP9.out] at h
          simp only [e9] at hK
          have hcw := (hp.bef hc).1.no (p := ⟨wo.heap.size, 1, none⟩) HBX1.out
          have HP := Sid.mk (hpi.step HST.out (i := 10) (v := .slice A2 es.length c2) (by decide) hdp hc (Ext.refl _ _) (HFT.out _ _ _ (by decide) (by decide) (by decide) (by decide)) (by rw [HP10.out]))
          clear hp hpi hd hdp
          gi_wp2
          exact HP.out
        case s11 =>
          rintro s l w' K hl hd hpi hK
          have hp := hpi.base
          have hc : l 21 = false := by
            cases h21 : l 21 with
            | false => rfl
            | true =>
              have h20 := hp.dep 21 20 (by simp) h21
              have h19 := hp.dep 20 19 (by simp) h20
              have h16 := hp.dep 19 16 (by simp) h19
              have h15 := hp.dep 16 15 (by simp) h16
              have h14 := hp.dep 15 14 (by simp) h15
              have h13 := hp.dep 14 13 (by simp) h14
              have h12 := hp.dep 13 12 (by simp) h13
              have h11 := hp.dep 12 11 (by simp) h12
              rw [hl] at h11; cases h11
          have hdp : ∀ j, (11, j) ∈ [(2, 1), (4, 3), (5, 4), (6, 5), (7, 2), (7, 6), (8, 7), (10, 9), (12, 11), (13, 12), (14, 13), (15, 10), (15, 14), (16, 15), (18, 17), (19, 8), (19, 16), (19, 18), (20, 19), (21, 0), (21, 20), (22, 21)] → l j = true := (by intro j hj; simp at hj)
          have HP := Sid.mk (hpi.step HST.out (i := 11) (v := .pointer (some ⟨wo.heap.size, 1, none⟩)) (by decide) hdp hc (Ext.refl _ _) (HFT.out _ _ _ (by decide) (by decide) (by decide) (by decide)) (by rw [HP11.out]))
          clear hp hpi hd hdp
          gi_wp2
          exact HP.out
        case s12 =>
          rintro s l w' K hl hd hpi hK
          have hp := hpi.base
          have hc : l 21 = false := by
            cases h21 : l 21 with
            | false => rfl
            | true =>
              have h20 := hp.dep 21 20 (by simp) h21
              have h19 := hp.dep 20 19 (by simp) h20
              have h16 := hp.dep 19 16 (by simp) h19
              have h15 := hp.dep 16 15 (by simp) h16
              have h14 := hp.dep 15 14 (by simp) h15
              have h13 := hp.dep 14 13 (by simp) h14
              have h12 := hp.dep 13 12 (by simp) h13
              rw [hl] at h12; cases h12
          have hdp : ∀ j, (12, j) ∈ [(2, 1), (4, 3), (5, 4), (6, 5), (7, 2), (7, 6), (8, 7), (10, 9), (12, 11), (13, 12), (14, 13), (15, 10), (15, 14), (16, 15), (18, 17), (19, 8), (19, 16), (19, 18), (20, 19), (21, 0), (21, 20), (22, 21)] → l j = true := (by intro j hj; simp at hj; subst hj; exact hd { on := 11, ground := .data } (by simp) rfl)
          have e11 : s 11 = .pointer (some ⟨wo.heap.size, 1, none⟩) := by have h := hp.pur 11 (hd { on := 11, ground := .data } (by simp) rfl); rwa [HP11.out] at h
          simp only [e11] at hK
          have hcw := (hp.bef hc).1.no (p := ⟨wo.heap.size, 1, none⟩) HBX1.out
          have HP := Sid.mk (hpi.step HST.out (i := 12) (v := .slice A2 es.length c2) (by decide) hdp hc (Ext.refl _ _) (HFT.out _ _ _ (by decide) (by decide) (by decide) (by decide)) (by rw [HP12.out]))
          clear hp hpi hd hdp
          gi_wp2
          exact HP.out
        case s13 =>
          rintro s l w' K hl hd hpi hK
          have hp := hpi.base
          have hc : l 21 = false := by
            cases h21 : l 21 with
            | false => rfl
            | true =>
              have h20 := hp.dep 21 20 (by simp) h21
              have h19 := hp.dep 20 19 (by simp) h20
              have h16 := hp.dep 19 16 (by simp) h19
              have h15 := hp.dep 16 15 (by simp) h16
              have h14 := hp.dep 15 14 (by simp) h15
              have h13 := hp.dep 14 13 (by simp) h14
              rw [hl] at h13; cases h13
          have hdp : ∀ j, (13, j) ∈ [(2, 1), (4, 3), (5, 4), (6, 5), (7, 2), (7, 6), (8, 7), (10, 9), (12, 11), (13, 12), (14, 13), (15, 10), (15, 14), (16, 15), (18, 17), (19, 8), (19, 16), (19, 18), (20, 19), (21, 0), (21, 20), (22, 21)] → l j = true := (by intro j hj; simp at hj; subst hj; exact hd { on := 12, ground := .data } (by simp) rfl)
          have e12 : s 12 = .slice A2 es.length c2 := by have h := hp.pur 12 (hd { on := 12, ground := .data } (by simp) rfl); rwa [HP12.out] at h
          simp only [e12] at hK
          have HP := Sid.mk (hpi.step HST.out (i := 13) (v := .int .i64 (es.length : Int)) (by decide) hdp hc (Ext.refl _ _) (HFT.out _ _ _ (by decide) (by decide) (by decide) (by decide)) (by rw [HP13.out]))
          clear hp hpi hd hdp
          gi_wp2
          exact HP.out
        case s14 =>
          rintro s l w' K hl hd hpi hK
          have hp := hpi.base
          have hc : l 21 = false := by
            cases h21 : l 21 with
            | false => rfl
            | true =>
              have h20 := hp.dep 21 20 (by simp) h21
              have h19 := hp.dep 20 19 (by simp) h20
              have h16 := hp.dep 19 16 (by simp) h19
              have h15 := hp.dep 16 15 (by simp) h16
              have h14 := hp.dep 15 14 (by simp) h15
              rw [hl] at h14; cases h14
          have hdp : ∀ j, (14, j) ∈ [(2, 1), (4, 3), (5, 4), (6, 5), (7, 2), (7, 6), (8, 7), (10, 9), (12, 11), (13, 12), (14, 13), (15, 10), (15, 14), (16, 15), (18, 17), (19, 8), (19, 16), (19, 18), (20, 19), (21, 0), (21, 20), (22, 21)] → l j = true := (by intro j hj; simp at hj; subst hj; exact hd { on := 13, ground := .data } (by simp) rfl)
          have e13 : s 13 = .int .i64 (es.length : Int) := by have h := hp.pur 13 (hd { on := 13, ground := .data } (by simp) rfl); rwa [HP13.out] at h
          simp only [e13] at hK
          have hnn := HM2.out
          by_cases hmin : (es.length : Int) ≤ 9
          · have hnv : (n2 : Int) = (es.length : Int) := by omega
            have HP := Sid.mk (hpi.step HST.out (i := 14) (v := .int .i64 (n2 : Int)) (by decide) hdp hc (Ext.refl _ _) (HFT.out _ _ _ (by decide) (by decide) (by decide) (by decide)) (by rw [HP14.out]))
            rw [hnv] at HP
            clear hp hpi hd hdp hnv hnn
            gi_wp2
            exact HP.out
          · have hnv : (n2 : Int) = 9 := by omega
            have HP := Sid.mk (hpi.step HST.out (i := 14) (v := .int .i64 (n2 : Int)) (by decide) hdp hc (Ext.refl _ _) (HFT.out _ _ _ (by decide) (by decide) (by decide) (by decide)) (by rw [HP14.out]))
            rw [hnv] at HP
            clear hp hpi hd hdp hnv hnn
            have hmin2 : 9 < (es.length : Int) := by omega
            clear hmin
            gi_wp2
            exact HP.out
        case s15 =>
          rintro s l w' K hl hd hpi hK
          have hp := hpi.base
          have hc : l 21 = false := by
            cases h21 : l 21 with
            | false => rfl
            | true =>
              have h20 := hp.dep 21 20 (by simp) h21
              have h19 := hp.dep 20 19 (by simp) h20
              have h16 := hp.dep 19 16 (by simp) h19
              have h15 := hp.dep 16 15 (by simp) h16
              rw [hl] at h15; cases h15
          have hdp : ∀ j, (15, j) ∈ [(2, 1), (4, 3), (5, 4), (6, 5), (7, 2), (7, 6), (8, 7), (10, 9), (12, 11), (13, 12), (14, 13), (15, 10), (15, 14), (16, 15), (18, 17), (19, 8), (19, 16), (19, 18), (20, 19), (21, 0), (21, 20), (22, 21)] → l j = true := (by intro j hj; simp at hj; rcases hj with rfl | rfl; all_goals (first | exact hd { on := 10, ground := .data } (by simp) rfl | exact hd { on := 14, ground := .data } (by simp) rfl))
          have e10 : s 10 = .slice A2 es.length c2 := by have h := hp.pur 10 (hd { on := 10, ground := .data } (by simp) rfl); rwa [HP10.out] at h
          have e14 : s 14 = .int .i64 (n2 : Int) := by have h := hp.pur 14 (hd { on := 14, ground := .data } (by simp) rfl); rwa [HP14.out] at h
          simp only [e10, e14] at hK
          have hb1 : (n2 : Int) ≤ (c2 : Int) := HN2.out
          have hb2 : (0 : Int) ≤ (n2 : Int) := by omega
          have HP := Sid.mk (hpi.step HST.out (i := 15) (v := .slice A2 n2 c2) (by decide) hdp hc (Ext.refl _ _) (HFT.out _ _ _ (by decide) (by decide) (by decide) (by decide)) (by rw [HP15.out]))
          clear hp hpi hd hdp
          gi_wp2
          exact HP.out
        case s16 =>
          rintro s l w' K hl hd hpi hK
          have hp := hpi.base
          have hc : l 21 = false := by
            cases h21 : l 21 with
            | false => rfl
            | true =>
              have h20 := hp.dep 21 20 (by simp) h21
              have h19 := hp.dep 20 19 (by simp) h20
              have h16 := hp.dep 19 16 (by simp) h19
              rw [hl] at h16; cases h16
          have hdp : ∀ j, (16, j) ∈ [(2, 1), (4, 3), (5, 4), (6, 5), (7, 2), (7, 6), (8, 7), (10, 9), (12, 11), (13, 12), (14, 13), (15, 10), (15, 14), (16, 15), (18, 17), (19, 8), (19, 16), (19, 18), (20, 19), (21, 0), (21, 20), (22, 21)] → l j = true := (by intro j hj; simp at hj; subst hj; exact hd { on := 15, ground := .data } (by simp) rfl)
          have e15 : s 15 = .slice A2 n2 c2 := by have h := hp.pur 15 (hd { on := 15, ground := .data } (by simp) rfl); rwa [HP15.out] at h
          simp only [e15] at hK
          have hx := (hp.bef hc).1
          have HIW : Sid (IntsR .i64 P w' (.slice A2 n2 c2) E9) := ⟨HI22.out.no ((Ext.refl No W).drew.trans hx)⟩
          have HSW : Sid (W.heap.size ≤ w'.heap.size) := ⟨by have := hx.size; simpa using this⟩
          have HPP := Sid.mk hpi
          have HC := Sid.mk hc
          have HDP := Sid.mk hdp
          clear hp hpi hd hx hc hdp
          gi_wp2_with (refine ⟨trivial, rfl, ?_⟩; gi_at_call 10; refine (callsIn_wide.2 (Clone_any _ E9 _ HIW.out (by have := HL2.out; omega))).mono ?_; rintro e w2 ⟨v2, rfl, hr2, hx2⟩; have HR2 := Sid.mk hr2; have HX2 := Sid.mk hx2; clear hr2 hx2)
          exact HPP.out.step HST.out (i := 16) (by decide) HDP.out HC.out HX2.out (by rw [HF16.out]; exact HR2.out.imp (fun j _ hj => by have := HSW.out; omega)) (HPT.out _ _ (by simp))
        case s17 =>
          rintro s l w' K hl hd hpi hK
          have hp := hpi.base
          have hc : l 21 = false := by
            cases h21 : l 21 with
            | false => rfl
            | true =>
              have h20 := hp.dep 21 20 (by simp) h21
              have h19 := hp.dep 20 19 (by simp) h20
              have h18 := hp.dep 19 18 (by simp) h19
              have h17 := hp.dep 18 17 (by simp) h18
              rw [hl] at h17; cases h17
          have hdp : ∀ j, (17, j) ∈ [(2, 1), (4, 3), (5, 4), (6, 5), (7, 2), (7, 6), (8, 7), (10, 9), (12, 11), (13, 12), (14, 13), (15, 10), (15, 14), (16, 15), (18, 17), (19, 8), (19, 16), (19, 18), (20, 19), (21, 0), (21, 20), (22, 21)] → l j = true := (by intro j hj; simp at hj)
          have HP := Sid.mk (hpi.step HST.out (i := 17) (v := .pointer (some ⟨wo.heap.size, 2, none⟩)) (by decide) hdp hc (Ext.refl _ _) (HFT.out _ _ _ (by decide) (by decide) (by decide) (by decide)) (by rw [HP17.out]))
          clear hp hpi hd hdp
          gi_wp2
          exact HP.out
        case s18 =>
          rintro s l w' K hl hd hpi hK
          have hp := hpi.base
          have hc : l 21 = false := by
            cases h21 : l 21 with
            | false => rfl
            | true =>
              have h20 := hp.dep 21 20 (by simp) h21
              have h19 := hp.dep 20 19 (by simp) h20
              have h18 := hp.dep 19 18 (by simp) h19
              rw [hl] at h18; cases h18
          have hdp : ∀ j, (18, j) ∈ [(2, 1), (4, 3), (5, 4), (6, 5), (7, 2), (7, 6), (8, 7), (10, 9), (12, 11), (13, 12), (14, 13), (15, 10), (15, 14), (16, 15), (18, 17), (19, 8), (19, 16), (19, 18), (20, 19), (21, 0), (21, 20), (22, 21)] → l j = true := (by intro j hj; simp at hj; subst hj; exact hd { on := 17, ground := .data } (by simp) rfl)
          have e17 : s 17 = .pointer (some ⟨wo.heap.size, 2, none⟩) := by have h := hp.pur 17 (hd { on := 17, ground := .data } (by simp) rfl); rwa [HP17.out] at h
          simp only [e17] at hK
          have hcw := (hp.bef hc).1.no (p := ⟨wo.heap.size, 2, none⟩) HBX2.out
          have HP := Sid.mk (hpi.step HST.out (i := 18) (v := .int .i64 p) (by decide) hdp hc (Ext.refl _ _) (HFT.out _ _ _ (by decide) (by decide) (by decide) (by decide)) (by rw [HP18.out]))
          clear hp hpi hd hdp
          gi_wp2
          exact HP.out
        case s19 =>
          rintro s l w' K hl hd hpi hK
          have hp := hpi.base
          have hc : l 21 = false := by
            cases h21 : l 21 with
            | false => rfl
            | true =>
              have h20 := hp.dep 21 20 (by simp) h21
              have h19 := hp.dep 20 19 (by simp) h20
              rw [hl] at h19; cases h19
          have hdp : ∀ j, (19, j) ∈ [(2, 1), (4, 3), (5, 4), (6, 5), (7, 2), (7, 6), (8, 7), (10, 9), (12, 11), (13, 12), (14, 13), (15, 10), (15, 14), (16, 15), (18, 17), (19, 8), (19, 16), (19, 18), (20, 19), (21, 0), (21, 20), (22, 21)] → l j = true := (by intro j hj; simp at hj; rcases hj with rfl | rfl | rfl; all_goals (first | exact hd { on := 8, ground := .data } (by simp) rfl | exact hd { on := 16, ground := .data } (by simp) rfl | exact hd { on := 18, ground := .data } (by simp) rfl))
          have e18 : s 18 = .int .i64 p := by have h := hp.pur 18 (hd { on := 18, ground := .data } (by simp) rfl); rwa [HP18.out] at h
          have hf8 := (hp.bef hc).2 8 (hd { on := 8, ground := .data } (by simp) rfl)
          have hf16 := (hp.bef hc).2 16 (hd { on := 16, ground := .data } (by simp) rfl)
          rw [HF8.out] at hf8
          rw [HF16.out] at hf16
          obtain ⟨A8, c8, e8, _⟩ := hf8.at
          obtain ⟨A16, c16, e16, _⟩ := hf16.at
          rw [e8] at hf8
          rw [e16] at hf16
          simp only [e8, e16, e18] at hK
          have HPP := Sid.mk hpi
          have HC := Sid.mk hc
          have HDP := Sid.mk hdp
          have H8 := Sid.mk hf8
          have H16 := Sid.mk hf16
          clear hp hpi hd hc hdp hf8 hf16
          gi_wp2
          exact HPP.out.step HST.out (i := 19) (by decide) HDP.out HC.out (Ext.refl _ _) (by rw [HF19.out]; exact ⟨_, _, rfl, H8.out, H16.out⟩) (HPT.out _ _ (by simp))
        case s20 =>
          rintro s l w' K hl hd hpi hK
          have hp := hpi.base
          have hc : l 21 = false := by
            cases h21 : l 21 with
            | false => rfl
            | true =>
              have h20 := hp.dep 21 20 (by simp) h21
              rw [hl] at h20; cases h20
          have hdp : ∀ j, (20, j) ∈ [(2, 1), (4, 3), (5, 4), (6, 5), (7, 2), (7, 6), (8, 7), (10, 9), (12, 11), (13, 12), (14, 13), (15, 10), (15, 14), (16, 15), (18, 17), (19, 8), (19, 16), (19, 18), (20, 19), (21, 0), (21, 20), (22, 21)] → l j = true := (by intro j hj; simp at hj; subst hj; exact hd { on := 19, ground := .data } (by simp) rfl)
          have hf19 := (hp.bef hc).2 19 (hd { on := 19, ground := .data } (by simp) rfl)
          rw [HF19.out] at hf19
          obtain ⟨u1, u2, e19, f1, f2⟩ := hf19
          obtain ⟨A8, c8, rfl, _⟩ := f1.at
          obtain ⟨A16, c16, rfl, _⟩ := f2.at
          simp only [e19] at hK
          have HSW : Sid (W.heap.size ≤ w'.heap.size) := ⟨by have := (hp.bef hc).1.size; simpa using this⟩
          have HPP := Sid.mk hpi
          have HC := Sid.mk hc
          have HDP := Sid.mk hdp
          have H8 := Sid.mk f1
          have H16 := Sid.mk f2
          clear hp hpi hd hc hdp f1 f2
          gi_wp2
          exact HPP.out.step HST.out (i := 20) (by decide) HDP.out HC.out (ext_box _) (by
            rw [HF20.out]
            exact ⟨_, rfl, bagsR_new (by have := HSW.out; omega) (H8.out.no (ext_box _)) (H16.out.no (ext_box _))⟩) (HPT.out _ _ (by simp))
        case s21 =>
          rintro s l w' K hl hd hpi hK
          have hp := hpi.base
          have hdp : ∀ j, (21, j) ∈ [(2, 1), (4, 3), (5, 4), (6, 5), (7, 2), (7, 6), (8, 7), (10, 9), (12, 11), (13, 12), (14, 13), (15, 10), (15, 14), (16, 15), (18, 17), (19, 8), (19, 16), (19, 18), (20, 19), (21, 0), (21, 20), (22, 21)] → l j = true := (by intro j hj; simp at hj; rcases hj with rfl | rfl; all_goals (first | exact hd { on := 0, ground := .data } (by simp) rfl | exact hd { on := 20, ground := .data } (by simp) rfl))
          have e0 : s 0 = v := by have h := hp.pur 0 (hd { on := 0, ground := .data } (by simp) rfl); rwa [HP0.out] at h
          have hf20 := (hp.bef hl).2 20 (hd { on := 20, ground := .data } (by simp) rfl)
          rw [HF20.out] at hf20
          obtain ⟨g, e20, hr20⟩ := hf20
          rw [e20] at hr20
          have hxw : Ext No wo w' := HXB.out.trans ((Ext.refl No W).drew.trans (hp.bef hl).1)
          refine appBagsIn (P := fun j => w.heap.size ≤ j) w.heap.size (.tmp 15) (.tmp 35) 42 rfl Tryd.underlying42 info51 v ((bs.take (min k 66)).map cutB) [⟨V8, E9, p⟩] e0 ⟨g, 0, none⟩ 1 e20 (HO.out.no hxw) (hr20.imp (fun j _ hj => ⟨by have := HX.out.size; have := HXB.out.size; omega, fun he => by have := (HO.out.ge j he.symm).2; have := HXB.out.size; omega⟩)) (by simp) (by have := hxw.size; have := HX.out.size; omega) (by rw [List.length_map, List.length_take]; simp; omega) ?_
          intro v1 w1 ho1 hx1 hb1 hs1
          refine hK v1 w1 (hpi.after hdp setL_eq (HPT.out _ _ (by simp)) ?_)
          rw [HAF.out]
          refine ⟨?_, ?_, fun h22 => ?_⟩
          · rw [setS_eq]; exact ho1
          · exact (hxw.mono (Y := fun j => some j = v.ownBlock) (fun _ h => h.elim)).trans hx1
          · rw [setL_ne (by decide)] at h22
            have := hp.dep 22 21 (by simp) h22
            rw [hl] at this; cases this
        case s22 =>
          rintro s l w' K hl hd hpi hK
          have hp := hpi.base
          have hdp : ∀ j, (22, j) ∈ [(2, 1), (4, 3), (5, 4), (6, 5), (7, 2), (7, 6), (8, 7), (10, 9), (12, 11), (13, 12), (14, 13), (15, 10), (15, 14), (16, 15), (18, 17), (19, 8), (19, 16), (19, 18), (20, 19), (21, 0), (21, 20), (22, 21)] → l j = true := (by intro j hj; simp at hj; subst hj; exact hd { on := 21, ground := .data } (by simp) rfl)
          have hl21 := hd { on := 21, ground := .data } (by simp) rfl
          have ha := hp.aft hl21
          rw [HAF.out] at ha
          obtain ⟨v5, hv5⟩ : ∃ v5, s 21 = v5 := ⟨_, rfl⟩
          have HPP : Sid (PhI s0 [(2, 1), (4, 3), (5, 4), (6, 5), (7, 2), (7, 6), (8, 7), (10, 9), (12, 11), (13, 12), (14, 13), (15, 10), (15, 14), (16, 15), (18, 17), (19, 8), (19, 16), (19, 18), (20, 19), (21, 0), (21, 20), (22, 21)] 21 W.drew Fact Pure Aft (setS s 22 v5) (setL l 22) w') := ⟨hpi.after hdp (by rw [setL_ne (by decide)]; exact hl21) (HPT.out _ _ (by simp)) (by
            rw [HAF.out]
            refine ⟨?_, ha.2.1, fun _ => ?_⟩
            · rw [setS_ne (by decide)]; exact ha.1
            · rw [setS_eq, setS_ne (by decide)]; exact hv5.symm)⟩
          have HE5 := Sid.mk hv5
          simp only [hv5] at hK
          clear hp hpi hd hdp ha
          gi_wp2
          exact HPP.out
        case hend =>
          rintro s l w' hl hpi
          have ha := hpi.base.aft (hl 21 (by decide))
          rw [HAF.out] at ha
          obtain ⟨ho1, hx1, he1⟩ := ha
          have e22 := he1 (hl 22 (by decide))
          obtain ⟨v9, hv9⟩ : ∃ v9, s 22 = v9 := ⟨_, rfl⟩
          rw [← e22, hv9] at ho1
          have HO1 := Sid.mk ho1
          have HX1 := Sid.mk hx1
          clear hpi ho1 hx1 he1 e22 hl
          dsimp only
          simp only [hv9]
          clear hv9
          go_wp2
          go_roundw
          case rel => exact ⟨k + 1, by omega, by go_num, ⟨by
            rw [show min (k + 1) 66 = min k 66 + 1 by omega, take_succ_of (show bs[min k 66]? = some ⟨vs, es, p⟩ by rw [show min k 66 = k by omega]; exact HB.out), List.map_append, List.map_cons, List.map_nil, HCB.out]
            exact HO1.out⟩, ⟨HX.out.step HX1.out (fun i hi he => by have := (HO.out.ge i he.symm).1; omega)⟩⟩
          case measure => simp [intOf]; omega
      · have h66' : ¬ ((k : Int) < 66) := by omega
        go_wp2
        go_roundw
        case rel => exact ⟨k + 1, by omega, by go_num, ⟨by rw [show min (k + 1) 66 = min k 66 by omega]; exact HO.out.no (ext_box _)⟩, ⟨HX.out.alloc _⟩⟩
        case measure => simp [intOf]; omega
    · obtain rfl : k = bs.length := by omega
      have HF : Sid ((bs.take (min bs.length 66)).map cutB = fewL bs) := ⟨by
        rw [fewL]
        congr 1
        by_cases h : bs.length ≤ 66
        · rw [Nat.min_eq_left h, List.take_length, List.take_of_length_le h]
        · rw [Nat.min_eq_right (by omega)]⟩
      go_wp2
      go_ret
      rw [← HF.out]
      exact ⟨_, rfl, HO.out.bags (by rw [List.length_map, List.length_take]; omega) (fun k hk => (HO.out.ge k hk).1) (fun k hk => hk), HX.out⟩
end Go.Proofs.YtceiaekkfabeaaaDoor

/- Which bags may be: what decomp's Check says is what the document says. -/
namespace Go.Proofs.YtceiaekkfabeaaaDoor
open Go.RowKit Pl

theorem all_congr2 {α : Type} {p q : α → Bool} : ∀ {l : List α}, (∀ x ∈ l, p x = q x) → l.all p = l.all q
  | [], _ => rfl
  | x :: l, h => by rw [List.all_cons, List.all_cons, h x (by simp), all_congr2 (fun y hy => h y (by simp [hy]))]
theorem any_congr2 {α : Type} {p q : α → Bool} : ∀ {l : List α}, (∀ x ∈ l, p x = q x) → l.any p = l.any q
  | [], _ => rfl
  | x :: l, h => by rw [List.any_cons, List.any_cons, h x (by simp), any_congr2 (fun y hy => h y (by simp [hy]))]
theorem ofTo_has {l : List Int} (h : ∀ v ∈ l, 0 ≤ v) {v : Int} (hv : 0 ≤ v) : (ofTo l).testBit v.toNat = hasB l v := by
  rw [ofTo_testBit, Bool.eq_iff_iff, hasB_iff, List.any_eq_true]
  constructor
  · rintro ⟨x, hx, hxe⟩
    rw [beq_iff_eq] at hxe
    have := h x hx
    obtain rfl : x = v := by omega
    exact hx
  · exact fun hm => ⟨v, hm, by simp⟩
theorem sub_within {e m : List Int} (he : ∀ v ∈ e, 0 ≤ v) (hm : ∀ v ∈ m, 0 ≤ v) : (sdn (ofTo e) (ofTo m) == 0) = withinB e m := by
  rw [Bool.eq_iff_iff, beq_iff_eq, sdn_zero, withinB, allB, List.all_eq_true]
  constructor
  · intro h v hv
    rw [← ofTo_has hm (he v hv)]
    exact h _ (by rw [ofTo_has he (he v hv), hasB_iff]; exact hv)
  · intro h i hi
    rw [ofTo_testBit, List.any_eq_true] at hi
    obtain ⟨v, hv, hvi⟩ := hi
    rw [beq_iff_eq] at hvi
    subst hvi
    rw [ofTo_has hm (he v hv)]
    exact h v hv
theorem rises_nonneg {l : List Int} {m : Int} (h : risesB l m = true) : ∀ v ∈ l, 0 ≤ v := fun v hv => by
  obtain ⟨i, hi⟩ := List.mem_iff_getElem?.1 hv
  exact (risesB_iff.1 h i v hi).1
/-- What shaped bags are. -/
theorem shaped_bags {many : Int} {n : Nat} {bs : List Bag} (h : shapedB many n bs = true) : bs.length ≤ 64 ∧ ∀ (i : Nat) (b : Bag), bs[i]? = some b → risesB b.vs many = true ∧ risesB b.es n = true ∧ -1 ≤ b.parent ∧ b.parent < i := by
  simp only [shapedB, Bool.and_eq_true, decide_eq_true_eq] at h
  refine ⟨h.1, fun i b hb => ?_⟩
  have := allI_iff.1 h.2 i b hb
  simp only [bagFormB, Bool.and_eq_true, decide_eq_true_eq, Nat.zero_add] at this
  exact ⟨this.1.1.1, this.1.1.2, this.1.2, this.2⟩
theorem length_filter_idx {bs : List Bag} {f : Bag → Bool} {g : Nat → Bool} (h : ∀ (i : Nat) (b : Bag), bs[i]? = some b → f b = g i) : ((List.range bs.length).filter g).length = (bs.filter f).length := by
  have hb : bs = (List.range bs.length).map fun i => (bs[i]?).getD ⟨[], [], 0⟩ := by
    apply List.ext_getElem?
    intro i
    rw [List.getElem?_map]
    by_cases hi : i < bs.length
    · rw [List.getElem?_range hi]; simp [hi]
    · rw [List.getElem?_eq_none (by omega), List.getElem?_eq_none (by simpa using hi)]; rfl
  conv => rhs; rw [hb]
  rw [List.filter_map, List.length_map]
  congr 1
  apply List.filter_congr
  intro i hi
  have hi' := List.mem_range.1 hi
  have hg := List.getElem?_eq_getElem hi'
  simp only [Function.comp]
  rw [hg]
  exact (h i _ hg).symm
theorem tops_eq {many : Int} {n : Nat} {bs : List Bag} (h : shapedB many n bs = true) {v : Nat} : (topsC bs (bs.map fun b => ofTo b.vs) v bs.length : Int) = topsN bs (v : Int) bs := by
  obtain ⟨_, hs⟩ := shaped_bags h
  have hT : ∀ i : Nat, (bs.map fun b => ofTo b.vs).getD i 0 = ofTo ((bs[i]?).getD ⟨[], [], 0⟩).vs := fun i => by
    rw [List.getD_eq_getElem?_getD, List.getElem?_map]
    cases bs[i]? <;> rfl
  have hV : ∀ i : Nat, (ofTo ((bs[i]?).getD ⟨[], [], 0⟩).vs).testBit v = hasB ((bs[i]?).getD ⟨[], [], 0⟩).vs (v : Int) := fun i => by
    have := ofTo_has (l := ((bs[i]?).getD ⟨[], [], 0⟩).vs) (v := (v : Int)) (fun x hx => by
      cases hb : bs[i]? with
      | none => rw [hb] at hx; simp at hx
      | some b => rw [hb] at hx; exact rises_nonneg (hs i b hb).1 x hx) (by omega)
    rwa [Int.toNat_natCast] at this
  rw [topsC, topsN, length_filter_idx (f := topB bs (v : Int)) (g := fun i => topC (bs.map fun b => ofTo b.vs) v (i, (bs[i]?).getD ⟨[], [], 0⟩)) (fun i b hb => ?_)]
  rw [topC, hT, hV, hT, hV, topB]
  simp only [hb, Option.getD_some]
theorem check_law {many : Int} {es : List (List Int)} {bs : List Bag} (h : hyperB many es = true) : checkE many es bs = if rightB many es bs then 0 else 310 := by
  obtain ⟨hp1, hp2, hp3, hp4⟩ := hyperB_parts h
  obtain ⟨mm, rfl⟩ := Int.eq_ofNat_of_zero_le hp1
  rw [checkE, if_neg (by simp [h])]
  cases hsh : shapedB (mm : Int) es.length bs with
  | false =>
    rw [if_pos rfl]
    have : rightB (mm : Int) es bs = false := by
      rw [Bool.eq_false_iff]
      intro hr
      simp only [rightB, Bool.and_eq_true, decide_eq_true_eq] at hr
      have : shapedB (mm : Int) es.length bs = true := by
        simp only [shapedB, Bool.and_eq_true, decide_eq_true_eq]
        refine ⟨hr.1.1.1, allI_iff.2 fun i b hb => ?_⟩
        have := allI_iff.1 hr.1.1.2 i b hb
        simp only [Bool.and_eq_true] at this
        exact this.1
      rw [hsh] at this; cases this
    rw [this]; rfl
  | true =>
    rw [if_neg (by simp)]
    obtain ⟨h64, hs⟩ := shaped_bags hsh
    have hnn := hyper_nonneg h
    have e1 : allB (okByB (es.map ofTo)) bs = allI (fun i b => bagFormB (mm : Int) es.length i b && coversB es b.es b.vs) 0 bs := by
      rw [Bool.eq_iff_iff, allB, List.all_eq_true, allI_iff]
      constructor
      · intro hh i b hb
        have h1 := hh b (List.mem_of_getElem? hb)
        have h2 : bagFormB (mm : Int) es.length (0 + i) b = true := by
          simp only [shapedB, Bool.and_eq_true] at hsh
          exact allI_iff.1 hsh.2 i b hb
        have h3 : coversB es b.es b.vs = true := by rw [covers_covP hnn (rises_nonneg (hs i b hb).1)]; exact h1
        rw [h2, h3]; rfl
      · intro hh b hb
        obtain ⟨i, hi⟩ := List.mem_iff_getElem?.1 hb
        have := hh i b hi
        simp only [Bool.and_eq_true] at this
        have h3 := this.2
        rw [covers_covP hnn (rises_nonneg (hs i b hi).1)] at h3
        exact h3
    have e2 : allB (okInB (bs.map fun b => ofTo b.vs)) (es.map ofTo) = allB (fun e => anyB (fun b => withinB e b.vs) bs) es := by
      rw [allB, allB, List.all_map]
      refine all_congr2 fun e he => ?_
      simp only [Function.comp]
      rw [okInB, anyB, List.any_map]
      refine any_congr2 fun b hb => ?_
      obtain ⟨i, hi⟩ := List.mem_iff_getElem?.1 hb
      exact sub_within (hnn e he) (rises_nonneg (hs i b hi).1)
    have e3 : allB (fun v => topsC bs (bs.map fun b => ofTo b.vs) v bs.length == 1) (List.range (mm : Int).toNat) = allB (fun v => decide (topsN bs v bs = 1)) (vertsL (mm : Int)) := by
      rw [allB, allB, vertsL, List.all_map]
      refine all_congr2 fun v hv => ?_
      simp only [Function.comp]
      have := tops_eq hsh (v := v)
      rw [show (Int.ofNat v) = (v : Int) from rfl, ← this]
      rw [Bool.eq_iff_iff, beq_iff_eq, decide_eq_true_eq]
      omega
    rw [e1, e2, e3, rightB, decide_eq_true h64, Bool.true_and]
end Go.Proofs.YtceiaekkfabeaaaDoor
