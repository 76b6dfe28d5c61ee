/- Words and contracts for: DecompAcyclic: for every hypergraph the law answers true, and its arguments read as before. No condition; the library's table math/bits.deBruijn64tab is laid by its text. -/
import Derived.Test.YtceiaekkfabeaaaDoorZyo
/- What is known within the region that makes the hypergraph with one edge more. -/
namespace Go.Proofs.YtceiaekkfabeaaaDoor
open Go.RowKit Pl

def okOpsB (ops : Array Oper) : Bool := (List.range ops.size).all fun i => match ops[i]? with | some o => o.guard.isNone && o.after.all (fun e => !Region.binds .any e || decide (e.on < i)) | none => true

theorem slots_anyB {F : Fence} {n : Nat} {P : Program} {ops : Array Oper} {Q : Exit → Act → World → Prop} {mk : (Nat → Value) → Act} {Ph : (Nat → Value) → (Nat → Bool) → World → Prop} (hok : okOpsB ops = true)
    (hput : StepsFrom (fun i o => ∀ s v, (mk s).put o.dst v = mk (setS s i v)) ops.toList 0) (hstep : StepsFrom (SlotStep F n P Q mk Ph) ops.toList 0)
    (hend : ∀ s l w', (∀ i, i < ops.size → l i = true) → Ph s l w' → Q .normal (mk s) w') :
    ∀ (fuel : Nat) (listed : Array Bool) (s : Nat → Value) (w : World), listed.size = ops.size → (List.range ops.size).countP (fun j => !listed.getD j false) ≤ fuel → Ph s (fun j => listed.getD j false) w →
      wpAnyIn F n P .any ops Q fuel listed (mk s) w := by
  have hops : ∀ (i : Nat) (o : Oper), ops[i]? = some o → o.guard = none ∧ ∀ e ∈ o.after, Region.binds .any e = true → e.on < i := fun i o ho => by
    have hi : i < ops.size := (Array.getElem?_eq_some_iff.1 ho).1
    have := List.all_eq_true.1 hok i (List.mem_range.2 hi)
    simp only [ho, Bool.and_eq_true, Array.all_eq_true', Bool.or_eq_true, decide_eq_true_eq, Option.isNone_iff_eq_none] at this
    refine ⟨this.1, fun e he hb => ?_⟩
    rcases this.2 e he with h | h
    · rw [hb] at h; cases h
    · exact h
  have hempty : ∀ listed : Array Bool, listed.size = ops.size → Region.ready .any ops listed = [] → ∀ i, i < ops.size → listed.getD i false = true := by
    intro listed hsz hr i
    induction i using Nat.strongRecOn with
    | _ i ih =>
      intro hi
      cases hl : listed.getD i false with
      | true => rfl
      | false =>
        exfalso
        obtain ⟨o, ho⟩ : ∃ o : Oper, ops[i]? = some o := ⟨ops[i], by simp [hi]⟩
        have hmem : i ∈ Region.ready .any ops listed := by
          unfold Region.ready
          rw [List.mem_filter]
          refine ⟨List.mem_range.2 hi, ?_⟩
          have hlt : listed.getD i true = false := by
            have : i < listed.size := by omega
            simp only [Array.getD_eq_getD_getElem?, Array.getElem?_eq_getElem this, Option.getD_some] at hl ⊢
            exact hl
          simp only [hlt, Bool.not_false, Bool.true_and, ho, Option.map_some, Option.getD_some, Array.all_eq_true', Bool.or_eq_true]
          intro e he
          cases hb : Region.binds .any e with
          | false => exact Or.inl rfl
          | true => exact Or.inr (ih e.on ((hops i o ho).2 e he hb) (by have := (hops i o ho).2 e he hb; omega))
        rw [hr] at hmem
        cases hmem
  intro fuel
  induction fuel with
  | zero =>
    intro listed s w hsz hc h
    have hall : ∀ i, i < ops.size → listed.getD i false = true := fun i hi => by
      have : (List.range ops.size).countP (fun j => !listed.getD j false) = 0 := by omega
      rw [List.countP_eq_zero] at this
      simpa using this i (List.mem_range.2 hi)
    refine ⟨?_, hend _ _ _ hall h⟩
    unfold Region.ready
    rw [List.filter_eq_nil_iff]
    intro i hi
    have hi := List.mem_range.1 hi
    have := hall i hi
    have hlt : listed.getD i true = true := by
      have hb : i < listed.size := by omega
      simp only [Array.getD_eq_getD_getElem?, Array.getElem?_eq_getElem hb, Option.getD_some] at this ⊢
      exact this
    simp only [hlt]; simp
  | succ fuel ih =>
    intro listed s w hsz hc h
    refine ⟨fun hr => hend _ _ _ (hempty listed hsz hr) h, fun i hi => ?_⟩
    unfold Region.ready at hi
    rw [List.mem_filter] at hi
    obtain ⟨hi1, hi2⟩ := hi
    have hi1 := List.mem_range.1 hi1
    obtain ⟨o, ho⟩ : ∃ o : Oper, ops[i]? = some o := ⟨ops[i], by simp [hi1]⟩
    simp only [ho, Option.map_some, Option.getD_some, Bool.and_eq_true, Bool.not_eq_true', Array.all_eq_true', Bool.or_eq_true] at hi2
    obtain ⟨hi2, hi3⟩ := hi2
    have hlf : listed.getD i false = false := by
      have hb : i < listed.size := by omega
      simp only [Array.getD_eq_getD_getElem?, Array.getElem?_eq_getElem hb, Option.getD_some] at hi2 ⊢
      exact hi2
    have hset : ∀ j, (listed.setIfInBounds i true).getD j false = setL (fun j => listed.getD j false) i j := fun j => by
      unfold setL
      simp only [Array.getD_eq_getD_getElem?, Array.getElem?_setIfInBounds]
      by_cases hji : i = j
      · subst hji
        rw [if_pos rfl, if_pos (by omega), if_pos rfl]; rfl
      · rw [if_neg hji, if_neg (fun h => hji h.symm)]
    unfold wpOpIn
    simp only [ho]
    rw [if_pos (by simp [Region.wanted, (hops i o ho).1])]
    have hst := hstep.at (j := i) (o := o) (by simpa using ho)
    rw [Nat.zero_add] at hst
    refine hst s (fun j => listed.getD j false) w _ hlf (fun e he hb => by
      rcases hi3 e he with h | h
      · rw [hb] at h; cases h
      · exact h) h (fun v w' hp => ?_)
    have hp1 := hput.at (j := i) (o := o) (by simpa using ho)
    rw [Nat.zero_add] at hp1
    rw [hp1]
    refine ih _ _ _ (by simpa using hsz) ?_ ?_
    · have : (List.range ops.size).countP (fun j => !(listed.setIfInBounds i true).getD j false) < (List.range ops.size).countP (fun j => !listed.getD j false) := by
        have hsplit : List.range ops.size = List.range i ++ i :: List.range' (i + 1) (ops.size - i - 1) := by
          rw [← List.range'_succ, List.range_eq_range', List.range_eq_range']
          rw [show ops.size - i - 1 + 1 = ops.size - i from by omega]
          rw [show ops.size = i + (ops.size - i) from by omega, ← List.range'_append_1]
          simp
        rw [hsplit, List.countP_append, List.countP_append, List.countP_cons, List.countP_cons]
        have e1 : (List.range i).countP (fun j => !(listed.setIfInBounds i true).getD j false) = (List.range i).countP (fun j => !listed.getD j false) := by
          apply List.countP_congr
          intro j hj
          have := List.mem_range.1 hj
          rw [hset, setL, if_neg (by omega)]
        have e2 : (List.range' (i + 1) (ops.size - i - 1)).countP (fun j => !(listed.setIfInBounds i true).getD j false) = (List.range' (i + 1) (ops.size - i - 1)).countP (fun j => !listed.getD j false) := by
          apply List.countP_congr
          intro j hj
          have := List.mem_range'_1.1 hj
          rw [hset, setL, if_neg (by omega)]
        rw [e1, e2, hset, setL, if_pos rfl, hlf]
        simp
      omega
    · have : (fun j => (listed.setIfInBounds i true).getD j false) = setL (fun j => listed.getD j false) i := funext hset
      rw [this]; exact hp

/-- THE LAW: a region that draws its order, by its operations' steps. -/
theorem wpIn_slotsB {F : Fence} {n : Nat} {P : Program} {id : Nat} {ops : Array Oper} {Q : Exit → Act → World → Prop} {a : Act} {w : World} (mk : (Nat → Value) → Act) (Ph : (Nat → Value) → (Nat → Bool) → World → Prop) (s0 : Nat → Value)
    (hm : P.follows .mixedOrders = true) (hok : okOpsB ops = true) (hput : StepsFrom (fun i o => ∀ s v, (mk s).put o.dst v = mk (setS s i v)) ops.toList 0) (ha : a = mk s0) (h0 : Ph s0 (fun _ => false) w.drew)
    (hstep : StepsFrom (SlotStep F n P Q mk Ph) ops.toList 0) (hend : ∀ s l w', (∀ i, i < ops.size → l i = true) → Ph s l w' → Q .normal (mk s) w') : (Code.region id ops true).wpIn F n P Q a w := by
  subst ha
  refine wpIn_region_any hm ?_
  refine slots_anyB hok hput hstep hend _ _ s0 _ (by simp) ?_ ?_
  · refine Nat.le_trans List.countP_le_length (by simp)
  · have : (fun j => (Array.replicate ops.size false).getD j false) = fun _ => false := by
      funext j
      simp only [Array.getD_eq_getD_getElem?, Array.getElem?_replicate]
      split <;> rfl
    rw [this]; exact h0

def tupV (many : Int) (v : Value) : Value := .tuple #[.agg #[.int .i64 many, v], .int .i64 0]
structure RgC (W0 : World) (many : Int) (es : List (List Int)) (ev yv : Value) (B : Nat) (mo : List (List Int)) (vs : List Int) (s : Nat → Value) (l : Nat → Bool) (w : World) : Prop where
  d8 : l 8 = true → l 7 = true
  d9 : l 9 = true → l 8 = true
  d10 : l 10 = true → l 8 = true
  d13 : l 13 = true → ∀ j, j < 13 → j ≠ 11 → l j = true
  r8 : l 8 = true → ∃ v', s 8 = tupV many v'
  d14 : l 14 = true → l 13 = true
  x : l 13 = false → Ext No W0 w
  p0 : l 0 = true → s 0 = .pointer (some ⟨B, 0, none⟩)
  p1 : l 1 = true → s 1 = .int .i64 many
  p2 : l 2 = true → s 2 = .pointer (some ⟨B, 1, none⟩)
  p3 : l 3 = true → s 3 = ev
  p5 : l 5 = true → s 5 = yv
  p11 : l 11 = true → s 11 = .int .i64 0
  p14 : s 14 = .int .i64 0
  q4 : l 4 = true → l 7 = false → OwnRows (fun _ => True) W0.heap.size w (s 4) es
  q6 : l 6 = true → l 7 = false → ∃ g, s 6 = .slice (some ⟨g, 0, none⟩) 1 1 ∧ W0.heap.size ≤ g ∧ RowsR (fun k => k = g ∨ k < W0.heap.size) w (s 6) [vs] ∧ (l 4 = true → (s 4).ownBlock ≠ some g)
  q7 : l 7 = true → l 8 = false → RowsR (fun _ => True) w (s 7) (es ++ [vs])
  q8 : l 8 = true → l 13 = false → ∃ v', s 8 = tupV many v' ∧ RowsR (fun k => W0.heap.size ≤ k ∧ (l 12 = true → s 12 ≠ .pointer (some ⟨k, 0, none⟩))) w v' mo
  q9 : l 9 = true → s 9 = s 8
  q10 : l 10 = true → ∀ v', s 8 = tupV many v' → s 10 = .agg #[.int .i64 many, v']
  q12 : l 12 = true → l 13 = false → ∃ b, s 12 = .pointer (some ⟨b, 0, none⟩) ∧ W0.heap.size ≤ b ∧ w.heap[b]? = some (.cells #[.int .i64 0, .slice none 0 0] 24 (0, 0))
  q13 : l 13 = true → ∃ b v', s 12 = .pointer (some ⟨b, 0, none⟩) ∧ Ext No W0 w ∧ w.cell? ⟨b, 0, none⟩ = some (.int .i64 many) ∧ w.cell? ⟨b, 1, none⟩ = some v' ∧ RowsR (fun k => W0.heap.size ≤ k) w v' mo
section
variable {W0 : World} {many : Int} {es : List (List Int)} {ev yv : Value} {B : Nat} {mo : List (List Int)} {vs : List Int} {s : Nat → Value} {l : Nat → Bool} {w w' : World}
theorem RgC.op0 (h : RgC W0 many es ev yv B mo vs s l w) (hl : l 0 = false) {v : Value} (hv : v = .pointer (some ⟨B, 0, none⟩)) (hx : Ext No w w') : RgC W0 many es ev yv B mo vs (setS s 0 v) (setL l 0) w' := by
  have n13 : l 13 = false := by
    cases hh : l 13 with
    | false => rfl
    | true => have := h.d13 hh 0 (by decide) (by decide); rw [hl] at this; cases this
  have eS0 : setS s 0 v 0 = v := setS_eq
  have eL0 : setL l 0 0 = true := setL_eq
  have eS1 : setS s 0 v 1 = s 1 := setS_ne (by decide)
  have eL1 : setL l 0 1 = l 1 := setL_ne (by decide)
  have eS2 : setS s 0 v 2 = s 2 := setS_ne (by decide)
  have eL2 : setL l 0 2 = l 2 := setL_ne (by decide)
  have eS3 : setS s 0 v 3 = s 3 := setS_ne (by decide)
  have eL3 : setL l 0 3 = l 3 := setL_ne (by decide)
  have eS4 : setS s 0 v 4 = s 4 := setS_ne (by decide)
  have eL4 : setL l 0 4 = l 4 := setL_ne (by decide)
  have eS5 : setS s 0 v 5 = s 5 := setS_ne (by decide)
  have eL5 : setL l 0 5 = l 5 := setL_ne (by decide)
  have eS6 : setS s 0 v 6 = s 6 := setS_ne (by decide)
  have eL6 : setL l 0 6 = l 6 := setL_ne (by decide)
  have eS7 : setS s 0 v 7 = s 7 := setS_ne (by decide)
  have eL7 : setL l 0 7 = l 7 := setL_ne (by decide)
  have eS8 : setS s 0 v 8 = s 8 := setS_ne (by decide)
  have eL8 : setL l 0 8 = l 8 := setL_ne (by decide)
  have eS9 : setS s 0 v 9 = s 9 := setS_ne (by decide)
  have eL9 : setL l 0 9 = l 9 := setL_ne (by decide)
  have eS10 : setS s 0 v 10 = s 10 := setS_ne (by decide)
  have eL10 : setL l 0 10 = l 10 := setL_ne (by decide)
  have eS11 : setS s 0 v 11 = s 11 := setS_ne (by decide)
  have eL11 : setL l 0 11 = l 11 := setL_ne (by decide)
  have eS12 : setS s 0 v 12 = s 12 := setS_ne (by decide)
  have eL12 : setL l 0 12 = l 12 := setL_ne (by decide)
  have eS13 : setS s 0 v 13 = s 13 := setS_ne (by decide)
  have eL13 : setL l 0 13 = l 13 := setL_ne (by decide)
  have eS14 : setS s 0 v 14 = s 14 := setS_ne (by decide)
  have eL14 : setL l 0 14 = l 14 := setL_ne (by decide)
  exact {
    d8 := fun q => by rw [eL8] at q; rw [eL7]; exact h.d8 q
    d9 := fun q => by rw [eL9] at q; rw [eL8]; exact h.d9 q
    d10 := fun q => by rw [eL10] at q; rw [eL8]; exact h.d10 q
    d13 := fun q => by rw [eL13, n13] at q; cases q
    d14 := fun q => by rw [eL14] at q; rw [eL13]; exact h.d14 q
    r8 := fun q => by rw [eL8] at q; rw [eS8]; exact h.r8 q
    x := fun _ => (h.x n13).trans hx
    p0 := fun _ => by rw [eS0]; exact hv
    p1 := fun q => by rw [eL1] at q; rw [eS1]; exact h.p1 q
    p2 := fun q => by rw [eL2] at q; rw [eS2]; exact h.p2 q
    p3 := fun q => by rw [eL3] at q; rw [eS3]; exact h.p3 q
    p5 := fun q => by rw [eL5] at q; rw [eS5]; exact h.p5 q
    p11 := fun q => by rw [eL11] at q; rw [eS11]; exact h.p11 q
    p14 := by rw [eS14]; exact h.p14
    q4 := fun q r => by rw [eL4] at q; rw [eL7] at r; rw [eS4]; exact (h.q4 q r).no hx
    q6 := fun q r => by
      rw [eL6] at q; rw [eL7] at r; rw [eS6]
      obtain ⟨g, a1, a2, a3, a4⟩ := h.q6 q r
      exact ⟨g, a1, a2, a3.no hx, fun z => by rw [eL4] at z; rw [eS4]; exact a4 z⟩
    q7 := fun q r => by rw [eL7] at q; rw [eL8] at r; rw [eS7]; exact (h.q7 q r).no hx
    q8 := fun q _ => by
      rw [eL8] at q; rw [eS8]
      obtain ⟨v', a1, a2⟩ := h.q8 q n13
      exact ⟨v', a1, (a2.no hx).imp (fun k _ hk => ⟨hk.1, fun z => by rw [eL12] at z; rw [eS12]; exact hk.2 z⟩)⟩
    q9 := fun q => by rw [eL9] at q; rw [eS9, eS8]; exact h.q9 q
    q10 := fun q v' e => by rw [eL10] at q; rw [eS8] at e; rw [eS10]; exact h.q10 q v' e
    q12 := fun q _ => by
      rw [eL12] at q; rw [eS12]
      obtain ⟨b, a1, a2, a3⟩ := h.q12 q n13
      exact ⟨b, a1, a2, (hx.block b (Array.getElem?_eq_some_iff.1 a3).1 (fun h => h)).trans a3⟩
    q13 := fun q => by rw [eL13, n13] at q; cases q }
theorem RgC.op1 (h : RgC W0 many es ev yv B mo vs s l w) (hl : l 1 = false) {v : Value} (hv : v = .int .i64 many) (hx : Ext No w w') : RgC W0 many es ev yv B mo vs (setS s 1 v) (setL l 1) w' := by
  have n13 : l 13 = false := by
    cases hh : l 13 with
    | false => rfl
    | true => have := h.d13 hh 1 (by decide) (by decide); rw [hl] at this; cases this
  have eS0 : setS s 1 v 0 = s 0 := setS_ne (by decide)
  have eL0 : setL l 1 0 = l 0 := setL_ne (by decide)
  have eS1 : setS s 1 v 1 = v := setS_eq
  have eL1 : setL l 1 1 = true := setL_eq
  have eS2 : setS s 1 v 2 = s 2 := setS_ne (by decide)
  have eL2 : setL l 1 2 = l 2 := setL_ne (by decide)
  have eS3 : setS s 1 v 3 = s 3 := setS_ne (by decide)
  have eL3 : setL l 1 3 = l 3 := setL_ne (by decide)
  have eS4 : setS s 1 v 4 = s 4 := setS_ne (by decide)
  have eL4 : setL l 1 4 = l 4 := setL_ne (by decide)
  have eS5 : setS s 1 v 5 = s 5 := setS_ne (by decide)
  have eL5 : setL l 1 5 = l 5 := setL_ne (by decide)
  have eS6 : setS s 1 v 6 = s 6 := setS_ne (by decide)
  have eL6 : setL l 1 6 = l 6 := setL_ne (by decide)
  have eS7 : setS s 1 v 7 = s 7 := setS_ne (by decide)
  have eL7 : setL l 1 7 = l 7 := setL_ne (by decide)
  have eS8 : setS s 1 v 8 = s 8 := setS_ne (by decide)
  have eL8 : setL l 1 8 = l 8 := setL_ne (by decide)
  have eS9 : setS s 1 v 9 = s 9 := setS_ne (by decide)
  have eL9 : setL l 1 9 = l 9 := setL_ne (by decide)
  have eS10 : setS s 1 v 10 = s 10 := setS_ne (by decide)
  have eL10 : setL l 1 10 = l 10 := setL_ne (by decide)
  have eS11 : setS s 1 v 11 = s 11 := setS_ne (by decide)
  have eL11 : setL l 1 11 = l 11 := setL_ne (by decide)
  have eS12 : setS s 1 v 12 = s 12 := setS_ne (by decide)
  have eL12 : setL l 1 12 = l 12 := setL_ne (by decide)
  have eS13 : setS s 1 v 13 = s 13 := setS_ne (by decide)
  have eL13 : setL l 1 13 = l 13 := setL_ne (by decide)
  have eS14 : setS s 1 v 14 = s 14 := setS_ne (by decide)
  have eL14 : setL l 1 14 = l 14 := setL_ne (by decide)
  exact {
    d8 := fun q => by rw [eL8] at q; rw [eL7]; exact h.d8 q
    d9 := fun q => by rw [eL9] at q; rw [eL8]; exact h.d9 q
    d10 := fun q => by rw [eL10] at q; rw [eL8]; exact h.d10 q
    d13 := fun q => by rw [eL13, n13] at q; cases q
    d14 := fun q => by rw [eL14] at q; rw [eL13]; exact h.d14 q
    r8 := fun q => by rw [eL8] at q; rw [eS8]; exact h.r8 q
    x := fun _ => (h.x n13).trans hx
    p0 := fun q => by rw [eL0] at q; rw [eS0]; exact h.p0 q
    p1 := fun _ => by rw [eS1]; exact hv
    p2 := fun q => by rw [eL2] at q; rw [eS2]; exact h.p2 q
    p3 := fun q => by rw [eL3] at q; rw [eS3]; exact h.p3 q
    p5 := fun q => by rw [eL5] at q; rw [eS5]; exact h.p5 q
    p11 := fun q => by rw [eL11] at q; rw [eS11]; exact h.p11 q
    p14 := by rw [eS14]; exact h.p14
    q4 := fun q r => by rw [eL4] at q; rw [eL7] at r; rw [eS4]; exact (h.q4 q r).no hx
    q6 := fun q r => by
      rw [eL6] at q; rw [eL7] at r; rw [eS6]
      obtain ⟨g, a1, a2, a3, a4⟩ := h.q6 q r
      exact ⟨g, a1, a2, a3.no hx, fun z => by rw [eL4] at z; rw [eS4]; exact a4 z⟩
    q7 := fun q r => by rw [eL7] at q; rw [eL8] at r; rw [eS7]; exact (h.q7 q r).no hx
    q8 := fun q _ => by
      rw [eL8] at q; rw [eS8]
      obtain ⟨v', a1, a2⟩ := h.q8 q n13
      exact ⟨v', a1, (a2.no hx).imp (fun k _ hk => ⟨hk.1, fun z => by rw [eL12] at z; rw [eS12]; exact hk.2 z⟩)⟩
    q9 := fun q => by rw [eL9] at q; rw [eS9, eS8]; exact h.q9 q
    q10 := fun q v' e => by rw [eL10] at q; rw [eS8] at e; rw [eS10]; exact h.q10 q v' e
    q12 := fun q _ => by
      rw [eL12] at q; rw [eS12]
      obtain ⟨b, a1, a2, a3⟩ := h.q12 q n13
      exact ⟨b, a1, a2, (hx.block b (Array.getElem?_eq_some_iff.1 a3).1 (fun h => h)).trans a3⟩
    q13 := fun q => by rw [eL13, n13] at q; cases q }
theorem RgC.op2 (h : RgC W0 many es ev yv B mo vs s l w) (hl : l 2 = false) {v : Value} (hv : v = .pointer (some ⟨B, 1, none⟩)) (hx : Ext No w w') : RgC W0 many es ev yv B mo vs (setS s 2 v) (setL l 2) w' := by
  have n13 : l 13 = false := by
    cases hh : l 13 with
    | false => rfl
    | true => have := h.d13 hh 2 (by decide) (by decide); rw [hl] at this; cases this
  have eS0 : setS s 2 v 0 = s 0 := setS_ne (by decide)
  have eL0 : setL l 2 0 = l 0 := setL_ne (by decide)
  have eS1 : setS s 2 v 1 = s 1 := setS_ne (by decide)
  have eL1 : setL l 2 1 = l 1 := setL_ne (by decide)
  have eS2 : setS s 2 v 2 = v := setS_eq
  have eL2 : setL l 2 2 = true := setL_eq
  have eS3 : setS s 2 v 3 = s 3 := setS_ne (by decide)
  have eL3 : setL l 2 3 = l 3 := setL_ne (by decide)
  have eS4 : setS s 2 v 4 = s 4 := setS_ne (by decide)
  have eL4 : setL l 2 4 = l 4 := setL_ne (by decide)
  have eS5 : setS s 2 v 5 = s 5 := setS_ne (by decide)
  have eL5 : setL l 2 5 = l 5 := setL_ne (by decide)
  have eS6 : setS s 2 v 6 = s 6 := setS_ne (by decide)
  have eL6 : setL l 2 6 = l 6 := setL_ne (by decide)
  have eS7 : setS s 2 v 7 = s 7 := setS_ne (by decide)
  have eL7 : setL l 2 7 = l 7 := setL_ne (by decide)
  have eS8 : setS s 2 v 8 = s 8 := setS_ne (by decide)
  have eL8 : setL l 2 8 = l 8 := setL_ne (by decide)
  have eS9 : setS s 2 v 9 = s 9 := setS_ne (by decide)
  have eL9 : setL l 2 9 = l 9 := setL_ne (by decide)
  have eS10 : setS s 2 v 10 = s 10 := setS_ne (by decide)
  have eL10 : setL l 2 10 = l 10 := setL_ne (by decide)
  have eS11 : setS s 2 v 11 = s 11 := setS_ne (by decide)
  have eL11 : setL l 2 11 = l 11 := setL_ne (by decide)
  have eS12 : setS s 2 v 12 = s 12 := setS_ne (by decide)
  have eL12 : setL l 2 12 = l 12 := setL_ne (by decide)
  have eS13 : setS s 2 v 13 = s 13 := setS_ne (by decide)
  have eL13 : setL l 2 13 = l 13 := setL_ne (by decide)
  have eS14 : setS s 2 v 14 = s 14 := setS_ne (by decide)
  have eL14 : setL l 2 14 = l 14 := setL_ne (by decide)
  exact {
    d8 := fun q => by rw [eL8] at q; rw [eL7]; exact h.d8 q
    d9 := fun q => by rw [eL9] at q; rw [eL8]; exact h.d9 q
    d10 := fun q => by rw [eL10] at q; rw [eL8]; exact h.d10 q
    d13 := fun q => by rw [eL13, n13] at q; cases q
    d14 := fun q => by rw [eL14] at q; rw [eL13]; exact h.d14 q
    r8 := fun q => by rw [eL8] at q; rw [eS8]; exact h.r8 q
    x := fun _ => (h.x n13).trans hx
    p0 := fun q => by rw [eL0] at q; rw [eS0]; exact h.p0 q
    p1 := fun q => by rw [eL1] at q; rw [eS1]; exact h.p1 q
    p2 := fun _ => by rw [eS2]; exact hv
    p3 := fun q => by rw [eL3] at q; rw [eS3]; exact h.p3 q
    p5 := fun q => by rw [eL5] at q; rw [eS5]; exact h.p5 q
    p11 := fun q => by rw [eL11] at q; rw [eS11]; exact h.p11 q
    p14 := by rw [eS14]; exact h.p14
    q4 := fun q r => by rw [eL4] at q; rw [eL7] at r; rw [eS4]; exact (h.q4 q r).no hx
    q6 := fun q r => by
      rw [eL6] at q; rw [eL7] at r; rw [eS6]
      obtain ⟨g, a1, a2, a3, a4⟩ := h.q6 q r
      exact ⟨g, a1, a2, a3.no hx, fun z => by rw [eL4] at z; rw [eS4]; exact a4 z⟩
    q7 := fun q r => by rw [eL7] at q; rw [eL8] at r; rw [eS7]; exact (h.q7 q r).no hx
    q8 := fun q _ => by
      rw [eL8] at q; rw [eS8]
      obtain ⟨v', a1, a2⟩ := h.q8 q n13
      exact ⟨v', a1, (a2.no hx).imp (fun k _ hk => ⟨hk.1, fun z => by rw [eL12] at z; rw [eS12]; exact hk.2 z⟩)⟩
    q9 := fun q => by rw [eL9] at q; rw [eS9, eS8]; exact h.q9 q
    q10 := fun q v' e => by rw [eL10] at q; rw [eS8] at e; rw [eS10]; exact h.q10 q v' e
    q12 := fun q _ => by
      rw [eL12] at q; rw [eS12]
      obtain ⟨b, a1, a2, a3⟩ := h.q12 q n13
      exact ⟨b, a1, a2, (hx.block b (Array.getElem?_eq_some_iff.1 a3).1 (fun h => h)).trans a3⟩
    q13 := fun q => by rw [eL13, n13] at q; cases q }
theorem RgC.op3 (h : RgC W0 many es ev yv B mo vs s l w) (hl : l 3 = false) {v : Value} (hv : v = ev) (hx : Ext No w w') : RgC W0 many es ev yv B mo vs (setS s 3 v) (setL l 3) w' := by
  have n13 : l 13 = false := by
    cases hh : l 13 with
    | false => rfl
    | true => have := h.d13 hh 3 (by decide) (by decide); rw [hl] at this; cases this
  have eS0 : setS s 3 v 0 = s 0 := setS_ne (by decide)
  have eL0 : setL l 3 0 = l 0 := setL_ne (by decide)
  have eS1 : setS s 3 v 1 = s 1 := setS_ne (by decide)
  have eL1 : setL l 3 1 = l 1 := setL_ne (by decide)
  have eS2 : setS s 3 v 2 = s 2 := setS_ne (by decide)
  have eL2 : setL l 3 2 = l 2 := setL_ne (by decide)
  have eS3 : setS s 3 v 3 = v := setS_eq
  have eL3 : setL l 3 3 = true := setL_eq
  have eS4 : setS s 3 v 4 = s 4 := setS_ne (by decide)
  have eL4 : setL l 3 4 = l 4 := setL_ne (by decide)
  have eS5 : setS s 3 v 5 = s 5 := setS_ne (by decide)
  have eL5 : setL l 3 5 = l 5 := setL_ne (by decide)
  have eS6 : setS s 3 v 6 = s 6 := setS_ne (by decide)
  have eL6 : setL l 3 6 = l 6 := setL_ne (by decide)
  have eS7 : setS s 3 v 7 = s 7 := setS_ne (by decide)
  have eL7 : setL l 3 7 = l 7 := setL_ne (by decide)
  have eS8 : setS s 3 v 8 = s 8 := setS_ne (by decide)
  have eL8 : setL l 3 8 = l 8 := setL_ne (by decide)
  have eS9 : setS s 3 v 9 = s 9 := setS_ne (by decide)
  have eL9 : setL l 3 9 = l 9 := setL_ne (by decide)
  have eS10 : setS s 3 v 10 = s 10 := setS_ne (by decide)
  have eL10 : setL l 3 10 = l 10 := setL_ne (by decide)
  have eS11 : setS s 3 v 11 = s 11 := setS_ne (by decide)
  have eL11 : setL l 3 11 = l 11 := setL_ne (by decide)
  have eS12 : setS s 3 v 12 = s 12 := setS_ne (by decide)
  have eL12 : setL l 3 12 = l 12 := setL_ne (by decide)
  have eS13 : setS s 3 v 13 = s 13 := setS_ne (by decide)
  have eL13 : setL l 3 13 = l 13 := setL_ne (by decide)
  have eS14 : setS s 3 v 14 = s 14 := setS_ne (by decide)
  have eL14 : setL l 3 14 = l 14 := setL_ne (by decide)
  exact {
    d8 := fun q => by rw [eL8] at q; rw [eL7]; exact h.d8 q
    d9 := fun q => by rw [eL9] at q; rw [eL8]; exact h.d9 q
    d10 := fun q => by rw [eL10] at q; rw [eL8]; exact h.d10 q
    d13 := fun q => by rw [eL13, n13] at q; cases q
    d14 := fun q => by rw [eL14] at q; rw [eL13]; exact h.d14 q
    r8 := fun q => by rw [eL8] at q; rw [eS8]; exact h.r8 q
    x := fun _ => (h.x n13).trans hx
    p0 := fun q => by rw [eL0] at q; rw [eS0]; exact h.p0 q
    p1 := fun q => by rw [eL1] at q; rw [eS1]; exact h.p1 q
    p2 := fun q => by rw [eL2] at q; rw [eS2]; exact h.p2 q
    p3 := fun _ => by rw [eS3]; exact hv
    p5 := fun q => by rw [eL5] at q; rw [eS5]; exact h.p5 q
    p11 := fun q => by rw [eL11] at q; rw [eS11]; exact h.p11 q
    p14 := by rw [eS14]; exact h.p14
    q4 := fun q r => by rw [eL4] at q; rw [eL7] at r; rw [eS4]; exact (h.q4 q r).no hx
    q6 := fun q r => by
      rw [eL6] at q; rw [eL7] at r; rw [eS6]
      obtain ⟨g, a1, a2, a3, a4⟩ := h.q6 q r
      exact ⟨g, a1, a2, a3.no hx, fun z => by rw [eL4] at z; rw [eS4]; exact a4 z⟩
    q7 := fun q r => by rw [eL7] at q; rw [eL8] at r; rw [eS7]; exact (h.q7 q r).no hx
    q8 := fun q _ => by
      rw [eL8] at q; rw [eS8]
      obtain ⟨v', a1, a2⟩ := h.q8 q n13
      exact ⟨v', a1, (a2.no hx).imp (fun k _ hk => ⟨hk.1, fun z => by rw [eL12] at z; rw [eS12]; exact hk.2 z⟩)⟩
    q9 := fun q => by rw [eL9] at q; rw [eS9, eS8]; exact h.q9 q
    q10 := fun q v' e => by rw [eL10] at q; rw [eS8] at e; rw [eS10]; exact h.q10 q v' e
    q12 := fun q _ => by
      rw [eL12] at q; rw [eS12]
      obtain ⟨b, a1, a2, a3⟩ := h.q12 q n13
      exact ⟨b, a1, a2, (hx.block b (Array.getElem?_eq_some_iff.1 a3).1 (fun h => h)).trans a3⟩
    q13 := fun q => by rw [eL13, n13] at q; cases q }
theorem RgC.op5 (h : RgC W0 many es ev yv B mo vs s l w) (hl : l 5 = false) {v : Value} (hv : v = yv) (hx : Ext No w w') : RgC W0 many es ev yv B mo vs (setS s 5 v) (setL l 5) w' := by
  have n13 : l 13 = false := by
    cases hh : l 13 with
    | false => rfl
    | true => have := h.d13 hh 5 (by decide) (by decide); rw [hl] at this; cases this
  have eS0 : setS s 5 v 0 = s 0 := setS_ne (by decide)
  have eL0 : setL l 5 0 = l 0 := setL_ne (by decide)
  have eS1 : setS s 5 v 1 = s 1 := setS_ne (by decide)
  have eL1 : setL l 5 1 = l 1 := setL_ne (by decide)
  have eS2 : setS s 5 v 2 = s 2 := setS_ne (by decide)
  have eL2 : setL l 5 2 = l 2 := setL_ne (by decide)
  have eS3 : setS s 5 v 3 = s 3 := setS_ne (by decide)
  have eL3 : setL l 5 3 = l 3 := setL_ne (by decide)
  have eS4 : setS s 5 v 4 = s 4 := setS_ne (by decide)
  have eL4 : setL l 5 4 = l 4 := setL_ne (by decide)
  have eS5 : setS s 5 v 5 = v := setS_eq
  have eL5 : setL l 5 5 = true := setL_eq
  have eS6 : setS s 5 v 6 = s 6 := setS_ne (by decide)
  have eL6 : setL l 5 6 = l 6 := setL_ne (by decide)
  have eS7 : setS s 5 v 7 = s 7 := setS_ne (by decide)
  have eL7 : setL l 5 7 = l 7 := setL_ne (by decide)
  have eS8 : setS s 5 v 8 = s 8 := setS_ne (by decide)
  have eL8 : setL l 5 8 = l 8 := setL_ne (by decide)
  have eS9 : setS s 5 v 9 = s 9 := setS_ne (by decide)
  have eL9 : setL l 5 9 = l 9 := setL_ne (by decide)
  have eS10 : setS s 5 v 10 = s 10 := setS_ne (by decide)
  have eL10 : setL l 5 10 = l 10 := setL_ne (by decide)
  have eS11 : setS s 5 v 11 = s 11 := setS_ne (by decide)
  have eL11 : setL l 5 11 = l 11 := setL_ne (by decide)
  have eS12 : setS s 5 v 12 = s 12 := setS_ne (by decide)
  have eL12 : setL l 5 12 = l 12 := setL_ne (by decide)
  have eS13 : setS s 5 v 13 = s 13 := setS_ne (by decide)
  have eL13 : setL l 5 13 = l 13 := setL_ne (by decide)
  have eS14 : setS s 5 v 14 = s 14 := setS_ne (by decide)
  have eL14 : setL l 5 14 = l 14 := setL_ne (by decide)
  exact {
    d8 := fun q => by rw [eL8] at q; rw [eL7]; exact h.d8 q
    d9 := fun q => by rw [eL9] at q; rw [eL8]; exact h.d9 q
    d10 := fun q => by rw [eL10] at q; rw [eL8]; exact h.d10 q
    d13 := fun q => by rw [eL13, n13] at q; cases q
    d14 := fun q => by rw [eL14] at q; rw [eL13]; exact h.d14 q
    r8 := fun q => by rw [eL8] at q; rw [eS8]; exact h.r8 q
    x := fun _ => (h.x n13).trans hx
    p0 := fun q => by rw [eL0] at q; rw [eS0]; exact h.p0 q
    p1 := fun q => by rw [eL1] at q; rw [eS1]; exact h.p1 q
    p2 := fun q => by rw [eL2] at q; rw [eS2]; exact h.p2 q
    p3 := fun q => by rw [eL3] at q; rw [eS3]; exact h.p3 q
    p5 := fun _ => by rw [eS5]; exact hv
    p11 := fun q => by rw [eL11] at q; rw [eS11]; exact h.p11 q
    p14 := by rw [eS14]; exact h.p14
    q4 := fun q r => by rw [eL4] at q; rw [eL7] at r; rw [eS4]; exact (h.q4 q r).no hx
    q6 := fun q r => by
      rw [eL6] at q; rw [eL7] at r; rw [eS6]
      obtain ⟨g, a1, a2, a3, a4⟩ := h.q6 q r
      exact ⟨g, a1, a2, a3.no hx, fun z => by rw [eL4] at z; rw [eS4]; exact a4 z⟩
    q7 := fun q r => by rw [eL7] at q; rw [eL8] at r; rw [eS7]; exact (h.q7 q r).no hx
    q8 := fun q _ => by
      rw [eL8] at q; rw [eS8]
      obtain ⟨v', a1, a2⟩ := h.q8 q n13
      exact ⟨v', a1, (a2.no hx).imp (fun k _ hk => ⟨hk.1, fun z => by rw [eL12] at z; rw [eS12]; exact hk.2 z⟩)⟩
    q9 := fun q => by rw [eL9] at q; rw [eS9, eS8]; exact h.q9 q
    q10 := fun q v' e => by rw [eL10] at q; rw [eS8] at e; rw [eS10]; exact h.q10 q v' e
    q12 := fun q _ => by
      rw [eL12] at q; rw [eS12]
      obtain ⟨b, a1, a2, a3⟩ := h.q12 q n13
      exact ⟨b, a1, a2, (hx.block b (Array.getElem?_eq_some_iff.1 a3).1 (fun h => h)).trans a3⟩
    q13 := fun q => by rw [eL13, n13] at q; cases q }
theorem RgC.op4 (h : RgC W0 many es ev yv B mo vs s l w) (hl : l 4 = false) {v : Value} (hx : Ext No w w') (ho : OwnRows (fun _ => True) W0.heap.size w' v es) (hg : ∀ g, v.ownBlock = some g → w.heap.size ≤ g) : RgC W0 many es ev yv B mo vs (setS s 4 v) (setL l 4) w' := by
  have n13 : l 13 = false := by
    cases hh : l 13 with
    | false => rfl
    | true => have := h.d13 hh 4 (by decide) (by decide); rw [hl] at this; cases this
  have eS0 : setS s 4 v 0 = s 0 := setS_ne (by decide)
  have eL0 : setL l 4 0 = l 0 := setL_ne (by decide)
  have eS1 : setS s 4 v 1 = s 1 := setS_ne (by decide)
  have eL1 : setL l 4 1 = l 1 := setL_ne (by decide)
  have eS2 : setS s 4 v 2 = s 2 := setS_ne (by decide)
  have eL2 : setL l 4 2 = l 2 := setL_ne (by decide)
  have eS3 : setS s 4 v 3 = s 3 := setS_ne (by decide)
  have eL3 : setL l 4 3 = l 3 := setL_ne (by decide)
  have eS4 : setS s 4 v 4 = v := setS_eq
  have eL4 : setL l 4 4 = true := setL_eq
  have eS5 : setS s 4 v 5 = s 5 := setS_ne (by decide)
  have eL5 : setL l 4 5 = l 5 := setL_ne (by decide)
  have eS6 : setS s 4 v 6 = s 6 := setS_ne (by decide)
  have eL6 : setL l 4 6 = l 6 := setL_ne (by decide)
  have eS7 : setS s 4 v 7 = s 7 := setS_ne (by decide)
  have eL7 : setL l 4 7 = l 7 := setL_ne (by decide)
  have eS8 : setS s 4 v 8 = s 8 := setS_ne (by decide)
  have eL8 : setL l 4 8 = l 8 := setL_ne (by decide)
  have eS9 : setS s 4 v 9 = s 9 := setS_ne (by decide)
  have eL9 : setL l 4 9 = l 9 := setL_ne (by decide)
  have eS10 : setS s 4 v 10 = s 10 := setS_ne (by decide)
  have eL10 : setL l 4 10 = l 10 := setL_ne (by decide)
  have eS11 : setS s 4 v 11 = s 11 := setS_ne (by decide)
  have eL11 : setL l 4 11 = l 11 := setL_ne (by decide)
  have eS12 : setS s 4 v 12 = s 12 := setS_ne (by decide)
  have eL12 : setL l 4 12 = l 12 := setL_ne (by decide)
  have eS13 : setS s 4 v 13 = s 13 := setS_ne (by decide)
  have eL13 : setL l 4 13 = l 13 := setL_ne (by decide)
  have eS14 : setS s 4 v 14 = s 14 := setS_ne (by decide)
  have eL14 : setL l 4 14 = l 14 := setL_ne (by decide)
  exact {
    d8 := fun q => by rw [eL8] at q; rw [eL7]; exact h.d8 q
    d9 := fun q => by rw [eL9] at q; rw [eL8]; exact h.d9 q
    d10 := fun q => by rw [eL10] at q; rw [eL8]; exact h.d10 q
    d13 := fun q => by rw [eL13, n13] at q; cases q
    d14 := fun q => by rw [eL14] at q; rw [eL13]; exact h.d14 q
    r8 := fun q => by rw [eL8] at q; rw [eS8]; exact h.r8 q
    x := fun _ => (h.x n13).trans hx
    p0 := fun q => by rw [eL0] at q; rw [eS0]; exact h.p0 q
    p1 := fun q => by rw [eL1] at q; rw [eS1]; exact h.p1 q
    p2 := fun q => by rw [eL2] at q; rw [eS2]; exact h.p2 q
    p3 := fun q => by rw [eL3] at q; rw [eS3]; exact h.p3 q
    p5 := fun q => by rw [eL5] at q; rw [eS5]; exact h.p5 q
    p11 := fun q => by rw [eL11] at q; rw [eS11]; exact h.p11 q
    p14 := by rw [eS14]; exact h.p14
    q4 := fun _ _ => by rw [eS4]; exact ho
    q6 := fun q r => by
      rw [eL6] at q; rw [eL7] at r; rw [eS6]
      obtain ⟨g, a1, a2, a3, a4⟩ := h.q6 q r
      refine ⟨g, a1, a2, a3.no hx, fun _ hh => ?_⟩
      rw [eS4] at hh
      have h1 := hg g hh
      rw [a1] at a3
      obtain ⟨_, _, he, _, _, hn⟩ := a3
      cases he
      obtain ⟨ad, ha, _, _, hj⟩ := hn (by simp)
      cases ha
      obtain ⟨cs, _, hc, hcell⟩ := hj 0 (by simp)
      have := World.block_lt_of_cell? w _ (hcell 0 _ (List.getElem?_eq_getElem (by omega)))
      simp at this
      omega
    q7 := fun q r => by rw [eL7] at q; rw [eL8] at r; rw [eS7]; exact (h.q7 q r).no hx
    q8 := fun q _ => by
      rw [eL8] at q; rw [eS8]
      obtain ⟨v', a1, a2⟩ := h.q8 q n13
      exact ⟨v', a1, (a2.no hx).imp (fun k _ hk => ⟨hk.1, fun z => by rw [eL12] at z; rw [eS12]; exact hk.2 z⟩)⟩
    q9 := fun q => by rw [eL9] at q; rw [eS9, eS8]; exact h.q9 q
    q10 := fun q v' e => by rw [eL10] at q; rw [eS8] at e; rw [eS10]; exact h.q10 q v' e
    q12 := fun q _ => by
      rw [eL12] at q; rw [eS12]
      obtain ⟨b, a1, a2, a3⟩ := h.q12 q n13
      exact ⟨b, a1, a2, (hx.block b (Array.getElem?_eq_some_iff.1 a3).1 (fun h => h)).trans a3⟩
    q13 := fun q => by rw [eL13, n13] at q; cases q }
theorem RgC.op6 (h : RgC W0 many es ev yv B mo vs s l w) (hl : l 6 = false) {v : Value} {g : Nat} (hx : Ext No w w') (hv : v = .slice (some ⟨g, 0, none⟩) 1 1) (hg : g = w.heap.size) (hr : RowsR (fun k => k = g ∨ k < W0.heap.size) w' v [vs]) : RgC W0 many es ev yv B mo vs (setS s 6 v) (setL l 6) w' := by
  have n13 : l 13 = false := by
    cases hh : l 13 with
    | false => rfl
    | true => have := h.d13 hh 6 (by decide) (by decide); rw [hl] at this; cases this
  have eS0 : setS s 6 v 0 = s 0 := setS_ne (by decide)
  have eL0 : setL l 6 0 = l 0 := setL_ne (by decide)
  have eS1 : setS s 6 v 1 = s 1 := setS_ne (by decide)
  have eL1 : setL l 6 1 = l 1 := setL_ne (by decide)
  have eS2 : setS s 6 v 2 = s 2 := setS_ne (by decide)
  have eL2 : setL l 6 2 = l 2 := setL_ne (by decide)
  have eS3 : setS s 6 v 3 = s 3 := setS_ne (by decide)
  have eL3 : setL l 6 3 = l 3 := setL_ne (by decide)
  have eS4 : setS s 6 v 4 = s 4 := setS_ne (by decide)
  have eL4 : setL l 6 4 = l 4 := setL_ne (by decide)
  have eS5 : setS s 6 v 5 = s 5 := setS_ne (by decide)
  have eL5 : setL l 6 5 = l 5 := setL_ne (by decide)
  have eS6 : setS s 6 v 6 = v := setS_eq
  have eL6 : setL l 6 6 = true := setL_eq
  have eS7 : setS s 6 v 7 = s 7 := setS_ne (by decide)
  have eL7 : setL l 6 7 = l 7 := setL_ne (by decide)
  have eS8 : setS s 6 v 8 = s 8 := setS_ne (by decide)
  have eL8 : setL l 6 8 = l 8 := setL_ne (by decide)
  have eS9 : setS s 6 v 9 = s 9 := setS_ne (by decide)
  have eL9 : setL l 6 9 = l 9 := setL_ne (by decide)
  have eS10 : setS s 6 v 10 = s 10 := setS_ne (by decide)
  have eL10 : setL l 6 10 = l 10 := setL_ne (by decide)
  have eS11 : setS s 6 v 11 = s 11 := setS_ne (by decide)
  have eL11 : setL l 6 11 = l 11 := setL_ne (by decide)
  have eS12 : setS s 6 v 12 = s 12 := setS_ne (by decide)
  have eL12 : setL l 6 12 = l 12 := setL_ne (by decide)
  have eS13 : setS s 6 v 13 = s 13 := setS_ne (by decide)
  have eL13 : setL l 6 13 = l 13 := setL_ne (by decide)
  have eS14 : setS s 6 v 14 = s 14 := setS_ne (by decide)
  have eL14 : setL l 6 14 = l 14 := setL_ne (by decide)
  exact {
    d8 := fun q => by rw [eL8] at q; rw [eL7]; exact h.d8 q
    d9 := fun q => by rw [eL9] at q; rw [eL8]; exact h.d9 q
    d10 := fun q => by rw [eL10] at q; rw [eL8]; exact h.d10 q
    d13 := fun q => by rw [eL13, n13] at q; cases q
    d14 := fun q => by rw [eL14] at q; rw [eL13]; exact h.d14 q
    r8 := fun q => by rw [eL8] at q; rw [eS8]; exact h.r8 q
    x := fun _ => (h.x n13).trans hx
    p0 := fun q => by rw [eL0] at q; rw [eS0]; exact h.p0 q
    p1 := fun q => by rw [eL1] at q; rw [eS1]; exact h.p1 q
    p2 := fun q => by rw [eL2] at q; rw [eS2]; exact h.p2 q
    p3 := fun q => by rw [eL3] at q; rw [eS3]; exact h.p3 q
    p5 := fun q => by rw [eL5] at q; rw [eS5]; exact h.p5 q
    p11 := fun q => by rw [eL11] at q; rw [eS11]; exact h.p11 q
    p14 := by rw [eS14]; exact h.p14
    q4 := fun q r => by rw [eL4] at q; rw [eL7] at r; rw [eS4]; exact (h.q4 q r).no hx
    q6 := fun _ r => by
      rw [eL7] at r; rw [eS6]
      refine ⟨g, hv, by rw [hg]; exact (h.x n13).size, hr, fun z hh => ?_⟩
      rw [eL4] at z; rw [eS4] at hh
      have := ((h.q4 z r).ge g hh).2
      omega
    q7 := fun q r => by rw [eL7] at q; rw [eL8] at r; rw [eS7]; exact (h.q7 q r).no hx
    q8 := fun q _ => by
      rw [eL8] at q; rw [eS8]
      obtain ⟨v', a1, a2⟩ := h.q8 q n13
      exact ⟨v', a1, (a2.no hx).imp (fun k _ hk => ⟨hk.1, fun z => by rw [eL12] at z; rw [eS12]; exact hk.2 z⟩)⟩
    q9 := fun q => by rw [eL9] at q; rw [eS9, eS8]; exact h.q9 q
    q10 := fun q v' e => by rw [eL10] at q; rw [eS8] at e; rw [eS10]; exact h.q10 q v' e
    q12 := fun q _ => by
      rw [eL12] at q; rw [eS12]
      obtain ⟨b, a1, a2, a3⟩ := h.q12 q n13
      exact ⟨b, a1, a2, (hx.block b (Array.getElem?_eq_some_iff.1 a3).1 (fun h => h)).trans a3⟩
    q13 := fun q => by rw [eL13, n13] at q; cases q }
theorem RgC.op7 (h : RgC W0 many es ev yv B mo vs s l w) (hl : l 7 = false) (h4 : l 4 = true) {v : Value} (hx7 : Ext (fun k => some k = (s 4).ownBlock) w w') (hr : RowsR (fun _ => True) w' v (es ++ [vs])) : RgC W0 many es ev yv B mo vs (setS s 7 v) (setL l 7) w' := by
  have n13 : l 13 = false := by
    cases hh : l 13 with
    | false => rfl
    | true => have := h.d13 hh 7 (by decide) (by decide); rw [hl] at this; cases this
  have eS0 : setS s 7 v 0 = s 0 := setS_ne (by decide)
  have eL0 : setL l 7 0 = l 0 := setL_ne (by decide)
  have eS1 : setS s 7 v 1 = s 1 := setS_ne (by decide)
  have eL1 : setL l 7 1 = l 1 := setL_ne (by decide)
  have eS2 : setS s 7 v 2 = s 2 := setS_ne (by decide)
  have eL2 : setL l 7 2 = l 2 := setL_ne (by decide)
  have eS3 : setS s 7 v 3 = s 3 := setS_ne (by decide)
  have eL3 : setL l 7 3 = l 3 := setL_ne (by decide)
  have eS4 : setS s 7 v 4 = s 4 := setS_ne (by decide)
  have eL4 : setL l 7 4 = l 4 := setL_ne (by decide)
  have eS5 : setS s 7 v 5 = s 5 := setS_ne (by decide)
  have eL5 : setL l 7 5 = l 5 := setL_ne (by decide)
  have eS6 : setS s 7 v 6 = s 6 := setS_ne (by decide)
  have eL6 : setL l 7 6 = l 6 := setL_ne (by decide)
  have eS7 : setS s 7 v 7 = v := setS_eq
  have eL7 : setL l 7 7 = true := setL_eq
  have eS8 : setS s 7 v 8 = s 8 := setS_ne (by decide)
  have eL8 : setL l 7 8 = l 8 := setL_ne (by decide)
  have eS9 : setS s 7 v 9 = s 9 := setS_ne (by decide)
  have eL9 : setL l 7 9 = l 9 := setL_ne (by decide)
  have eS10 : setS s 7 v 10 = s 10 := setS_ne (by decide)
  have eL10 : setL l 7 10 = l 10 := setL_ne (by decide)
  have eS11 : setS s 7 v 11 = s 11 := setS_ne (by decide)
  have eL11 : setL l 7 11 = l 11 := setL_ne (by decide)
  have eS12 : setS s 7 v 12 = s 12 := setS_ne (by decide)
  have eL12 : setL l 7 12 = l 12 := setL_ne (by decide)
  have eS13 : setS s 7 v 13 = s 13 := setS_ne (by decide)
  have eL13 : setL l 7 13 = l 13 := setL_ne (by decide)
  have eS14 : setS s 7 v 14 = s 14 := setS_ne (by decide)
  have eL14 : setL l 7 14 = l 14 := setL_ne (by decide)
  exact {
    d8 := fun q => by rw [eL7]
    d9 := fun q => by rw [eL9] at q; rw [eL8]; exact h.d9 q
    d10 := fun q => by rw [eL10] at q; rw [eL8]; exact h.d10 q
    d13 := fun q => by rw [eL13, n13] at q; cases q
    d14 := fun q => by rw [eL14] at q; rw [eL13]; exact h.d14 q
    r8 := fun q => by rw [eL8] at q; rw [eS8]; exact h.r8 q
    x := fun _ => (h.x n13).step hx7 (fun i hi hh => by have := ((h.q4 h4 hl).ge i hh.symm).1; omega)
    p0 := fun q => by rw [eL0] at q; rw [eS0]; exact h.p0 q
    p1 := fun q => by rw [eL1] at q; rw [eS1]; exact h.p1 q
    p2 := fun q => by rw [eL2] at q; rw [eS2]; exact h.p2 q
    p3 := fun q => by rw [eL3] at q; rw [eS3]; exact h.p3 q
    p5 := fun q => by rw [eL5] at q; rw [eS5]; exact h.p5 q
    p11 := fun q => by rw [eL11] at q; rw [eS11]; exact h.p11 q
    p14 := by rw [eS14]; exact h.p14
    q4 := fun _ r => by rw [eL7] at r; cases r
    q6 := fun _ r => by rw [eL7] at r; cases r
    q7 := fun _ _ => by rw [eS7]; exact hr
    q8 := fun q _ => by rw [eL8] at q; have := h.d8 q; rw [hl] at this; cases this
    q9 := fun q => by rw [eL9] at q; rw [eS9, eS8]; exact h.q9 q
    q10 := fun q v' e => by rw [eL10] at q; rw [eS8] at e; rw [eS10]; exact h.q10 q v' e
    q12 := fun q _ => by
      rw [eL12] at q; rw [eS12]
      obtain ⟨b, a1, a2, a3⟩ := h.q12 q n13
      refine ⟨b, a1, a2, (hx7.block b (Array.getElem?_eq_some_iff.1 a3).1 (fun hh => ?_)).trans a3⟩
      obtain ⟨us, ho, _⟩ := h.q4 h4 hl
      rcases ho.2 with ⟨he, _⟩ | ⟨g, cap, cur, he, _, hg, _⟩
      · rw [he] at hh; have hj2 : some b = (none : Option Nat) := hh; cases hj2
      · rw [he] at hh; have hj2 : some b = some g := hh; cases hj2; rw [hg] at a3; cases a3
    q13 := fun q => by rw [eL13, n13] at q; cases q }
theorem RgC.op8 (h : RgC W0 many es ev yv B mo vs s l w) (hl : l 8 = false) (h7 : l 7 = true) {v v8 : Value} (hx : Ext No w w') (hv : v = tupV many v8) (hr : RowsR (fun k => w.heap.size ≤ k) w' v8 mo) : RgC W0 many es ev yv B mo vs (setS s 8 v) (setL l 8) w' := by
  have n13 : l 13 = false := by
    cases hh : l 13 with
    | false => rfl
    | true => have := h.d13 hh 8 (by decide) (by decide); rw [hl] at this; cases this
  have eS0 : setS s 8 v 0 = s 0 := setS_ne (by decide)
  have eL0 : setL l 8 0 = l 0 := setL_ne (by decide)
  have eS1 : setS s 8 v 1 = s 1 := setS_ne (by decide)
  have eL1 : setL l 8 1 = l 1 := setL_ne (by decide)
  have eS2 : setS s 8 v 2 = s 2 := setS_ne (by decide)
  have eL2 : setL l 8 2 = l 2 := setL_ne (by decide)
  have eS3 : setS s 8 v 3 = s 3 := setS_ne (by decide)
  have eL3 : setL l 8 3 = l 3 := setL_ne (by decide)
  have eS4 : setS s 8 v 4 = s 4 := setS_ne (by decide)
  have eL4 : setL l 8 4 = l 4 := setL_ne (by decide)
  have eS5 : setS s 8 v 5 = s 5 := setS_ne (by decide)
  have eL5 : setL l 8 5 = l 5 := setL_ne (by decide)
  have eS6 : setS s 8 v 6 = s 6 := setS_ne (by decide)
  have eL6 : setL l 8 6 = l 6 := setL_ne (by decide)
  have eS7 : setS s 8 v 7 = s 7 := setS_ne (by decide)
  have eL7 : setL l 8 7 = l 7 := setL_ne (by decide)
  have eS8 : setS s 8 v 8 = v := setS_eq
  have eL8 : setL l 8 8 = true := setL_eq
  have eS9 : setS s 8 v 9 = s 9 := setS_ne (by decide)
  have eL9 : setL l 8 9 = l 9 := setL_ne (by decide)
  have eS10 : setS s 8 v 10 = s 10 := setS_ne (by decide)
  have eL10 : setL l 8 10 = l 10 := setL_ne (by decide)
  have eS11 : setS s 8 v 11 = s 11 := setS_ne (by decide)
  have eL11 : setL l 8 11 = l 11 := setL_ne (by decide)
  have eS12 : setS s 8 v 12 = s 12 := setS_ne (by decide)
  have eL12 : setL l 8 12 = l 12 := setL_ne (by decide)
  have eS13 : setS s 8 v 13 = s 13 := setS_ne (by decide)
  have eL13 : setL l 8 13 = l 13 := setL_ne (by decide)
  have eS14 : setS s 8 v 14 = s 14 := setS_ne (by decide)
  have eL14 : setL l 8 14 = l 14 := setL_ne (by decide)
  exact {
    d8 := fun _ => by rw [eL7]; exact h7
    d9 := fun _ => by rw [eL8]
    d10 := fun _ => by rw [eL8]
    d13 := fun q => by rw [eL13, n13] at q; cases q
    d14 := fun q => by rw [eL14] at q; rw [eL13]; exact h.d14 q
    r8 := fun _ => by rw [eS8]; exact ⟨v8, hv⟩
    x := fun _ => (h.x n13).trans hx
    p0 := fun q => by rw [eL0] at q; rw [eS0]; exact h.p0 q
    p1 := fun q => by rw [eL1] at q; rw [eS1]; exact h.p1 q
    p2 := fun q => by rw [eL2] at q; rw [eS2]; exact h.p2 q
    p3 := fun q => by rw [eL3] at q; rw [eS3]; exact h.p3 q
    p5 := fun q => by rw [eL5] at q; rw [eS5]; exact h.p5 q
    p11 := fun q => by rw [eL11] at q; rw [eS11]; exact h.p11 q
    p14 := by rw [eS14]; exact h.p14
    q4 := fun q r => by rw [eL4] at q; rw [eL7] at r; rw [eS4]; exact (h.q4 q r).no hx
    q6 := fun q r => by
      rw [eL6] at q; rw [eL7] at r; rw [eS6]
      obtain ⟨g, a1, a2, a3, a4⟩ := h.q6 q r
      exact ⟨g, a1, a2, a3.no hx, fun z => by rw [eL4] at z; rw [eS4]; exact a4 z⟩
    q7 := fun _ r => by rw [eL8] at r; cases r
    q8 := fun _ _ => by
      rw [eS8]
      refine ⟨v8, hv, hr.imp (fun k _ hk => ⟨Nat.le_trans (h.x n13).size hk, fun z hh => ?_⟩)⟩
      rw [eL12] at z; rw [eS12] at hh
      obtain ⟨b, a1, a2, a3⟩ := h.q12 z n13
      rw [a1] at hh
      have h1 := (Array.getElem?_eq_some_iff.1 a3).1
      simp only [Value.pointer.injEq, Option.some.injEq, Addr.mk.injEq] at hh
      omega
    q9 := fun q => by rw [eL9] at q; have := h.d9 q; rw [hl] at this; cases this
    q10 := fun q v' e => by rw [eL10] at q; have := h.d10 q; rw [hl] at this; cases this
    q12 := fun q _ => by
      rw [eL12] at q; rw [eS12]
      obtain ⟨b, a1, a2, a3⟩ := h.q12 q n13
      exact ⟨b, a1, a2, (hx.block b (Array.getElem?_eq_some_iff.1 a3).1 (fun h => h)).trans a3⟩
    q13 := fun q => by rw [eL13, n13] at q; cases q }
theorem RgC.op9 (h : RgC W0 many es ev yv B mo vs s l w) (hl : l 9 = false) (h8 : l 8 = true) {v : Value} (hv : v = s 8) (hx : Ext No w w') : RgC W0 many es ev yv B mo vs (setS s 9 v) (setL l 9) w' := by
  have n13 : l 13 = false := by
    cases hh : l 13 with
    | false => rfl
    | true => have := h.d13 hh 9 (by decide) (by decide); rw [hl] at this; cases this
  have eS0 : setS s 9 v 0 = s 0 := setS_ne (by decide)
  have eL0 : setL l 9 0 = l 0 := setL_ne (by decide)
  have eS1 : setS s 9 v 1 = s 1 := setS_ne (by decide)
  have eL1 : setL l 9 1 = l 1 := setL_ne (by decide)
  have eS2 : setS s 9 v 2 = s 2 := setS_ne (by decide)
  have eL2 : setL l 9 2 = l 2 := setL_ne (by decide)
  have eS3 : setS s 9 v 3 = s 3 := setS_ne (by decide)
  have eL3 : setL l 9 3 = l 3 := setL_ne (by decide)
  have eS4 : setS s 9 v 4 = s 4 := setS_ne (by decide)
  have eL4 : setL l 9 4 = l 4 := setL_ne (by decide)
  have eS5 : setS s 9 v 5 = s 5 := setS_ne (by decide)
  have eL5 : setL l 9 5 = l 5 := setL_ne (by decide)
  have eS6 : setS s 9 v 6 = s 6 := setS_ne (by decide)
  have eL6 : setL l 9 6 = l 6 := setL_ne (by decide)
  have eS7 : setS s 9 v 7 = s 7 := setS_ne (by decide)
  have eL7 : setL l 9 7 = l 7 := setL_ne (by decide)
  have eS8 : setS s 9 v 8 = s 8 := setS_ne (by decide)
  have eL8 : setL l 9 8 = l 8 := setL_ne (by decide)
  have eS9 : setS s 9 v 9 = v := setS_eq
  have eL9 : setL l 9 9 = true := setL_eq
  have eS10 : setS s 9 v 10 = s 10 := setS_ne (by decide)
  have eL10 : setL l 9 10 = l 10 := setL_ne (by decide)
  have eS11 : setS s 9 v 11 = s 11 := setS_ne (by decide)
  have eL11 : setL l 9 11 = l 11 := setL_ne (by decide)
  have eS12 : setS s 9 v 12 = s 12 := setS_ne (by decide)
  have eL12 : setL l 9 12 = l 12 := setL_ne (by decide)
  have eS13 : setS s 9 v 13 = s 13 := setS_ne (by decide)
  have eL13 : setL l 9 13 = l 13 := setL_ne (by decide)
  have eS14 : setS s 9 v 14 = s 14 := setS_ne (by decide)
  have eL14 : setL l 9 14 = l 14 := setL_ne (by decide)
  exact {
    d8 := fun q => by rw [eL8] at q; rw [eL7]; exact h.d8 q
    d9 := fun _ => by rw [eL8]; exact h8
    d10 := fun q => by rw [eL10] at q; rw [eL8]; exact h.d10 q
    d13 := fun q => by rw [eL13, n13] at q; cases q
    d14 := fun q => by rw [eL14] at q; rw [eL13]; exact h.d14 q
    r8 := fun q => by rw [eL8] at q; rw [eS8]; exact h.r8 q
    x := fun _ => (h.x n13).trans hx
    p0 := fun q => by rw [eL0] at q; rw [eS0]; exact h.p0 q
    p1 := fun q => by rw [eL1] at q; rw [eS1]; exact h.p1 q
    p2 := fun q => by rw [eL2] at q; rw [eS2]; exact h.p2 q
    p3 := fun q => by rw [eL3] at q; rw [eS3]; exact h.p3 q
    p5 := fun q => by rw [eL5] at q; rw [eS5]; exact h.p5 q
    p11 := fun q => by rw [eL11] at q; rw [eS11]; exact h.p11 q
    p14 := by rw [eS14]; exact h.p14
    q4 := fun q r => by rw [eL4] at q; rw [eL7] at r; rw [eS4]; exact (h.q4 q r).no hx
    q6 := fun q r => by
      rw [eL6] at q; rw [eL7] at r; rw [eS6]
      obtain ⟨g, a1, a2, a3, a4⟩ := h.q6 q r
      exact ⟨g, a1, a2, a3.no hx, fun z => by rw [eL4] at z; rw [eS4]; exact a4 z⟩
    q7 := fun q r => by rw [eL7] at q; rw [eL8] at r; rw [eS7]; exact (h.q7 q r).no hx
    q8 := fun q _ => by
      rw [eL8] at q; rw [eS8]
      obtain ⟨v', a1, a2⟩ := h.q8 q n13
      exact ⟨v', a1, (a2.no hx).imp (fun k _ hk => ⟨hk.1, fun z => by rw [eL12] at z; rw [eS12]; exact hk.2 z⟩)⟩
    q9 := fun _ => by rw [eS9, eS8]; exact hv
    q10 := fun q v' e => by rw [eL10] at q; rw [eS8] at e; rw [eS10]; exact h.q10 q v' e
    q12 := fun q _ => by
      rw [eL12] at q; rw [eS12]
      obtain ⟨b, a1, a2, a3⟩ := h.q12 q n13
      exact ⟨b, a1, a2, (hx.block b (Array.getElem?_eq_some_iff.1 a3).1 (fun h => h)).trans a3⟩
    q13 := fun q => by rw [eL13, n13] at q; cases q }
theorem RgC.op10 (h : RgC W0 many es ev yv B mo vs s l w) (hl : l 10 = false) (h8 : l 8 = true) {v : Value} (hv : ∀ v', s 8 = tupV many v' → v = .agg #[.int .i64 many, v']) (hx : Ext No w w') : RgC W0 many es ev yv B mo vs (setS s 10 v) (setL l 10) w' := by
  have n13 : l 13 = false := by
    cases hh : l 13 with
    | false => rfl
    | true => have := h.d13 hh 10 (by decide) (by decide); rw [hl] at this; cases this
  have eS0 : setS s 10 v 0 = s 0 := setS_ne (by decide)
  have eL0 : setL l 10 0 = l 0 := setL_ne (by decide)
  have eS1 : setS s 10 v 1 = s 1 := setS_ne (by decide)
  have eL1 : setL l 10 1 = l 1 := setL_ne (by decide)
  have eS2 : setS s 10 v 2 = s 2 := setS_ne (by decide)
  have eL2 : setL l 10 2 = l 2 := setL_ne (by decide)
  have eS3 : setS s 10 v 3 = s 3 := setS_ne (by decide)
  have eL3 : setL l 10 3 = l 3 := setL_ne (by decide)
  have eS4 : setS s 10 v 4 = s 4 := setS_ne (by decide)
  have eL4 : setL l 10 4 = l 4 := setL_ne (by decide)
  have eS5 : setS s 10 v 5 = s 5 := setS_ne (by decide)
  have eL5 : setL l 10 5 = l 5 := setL_ne (by decide)
  have eS6 : setS s 10 v 6 = s 6 := setS_ne (by decide)
  have eL6 : setL l 10 6 = l 6 := setL_ne (by decide)
  have eS7 : setS s 10 v 7 = s 7 := setS_ne (by decide)
  have eL7 : setL l 10 7 = l 7 := setL_ne (by decide)
  have eS8 : setS s 10 v 8 = s 8 := setS_ne (by decide)
  have eL8 : setL l 10 8 = l 8 := setL_ne (by decide)
  have eS9 : setS s 10 v 9 = s 9 := setS_ne (by decide)
  have eL9 : setL l 10 9 = l 9 := setL_ne (by decide)
  have eS10 : setS s 10 v 10 = v := setS_eq
  have eL10 : setL l 10 10 = true := setL_eq
  have eS11 : setS s 10 v 11 = s 11 := setS_ne (by decide)
  have eL11 : setL l 10 11 = l 11 := setL_ne (by decide)
  have eS12 : setS s 10 v 12 = s 12 := setS_ne (by decide)
  have eL12 : setL l 10 12 = l 12 := setL_ne (by decide)
  have eS13 : setS s 10 v 13 = s 13 := setS_ne (by decide)
  have eL13 : setL l 10 13 = l 13 := setL_ne (by decide)
  have eS14 : setS s 10 v 14 = s 14 := setS_ne (by decide)
  have eL14 : setL l 10 14 = l 14 := setL_ne (by decide)
  exact {
    d8 := fun q => by rw [eL8] at q; rw [eL7]; exact h.d8 q
    d9 := fun q => by rw [eL9] at q; rw [eL8]; exact h.d9 q
    d10 := fun _ => by rw [eL8]; exact h8
    d13 := fun q => by rw [eL13, n13] at q; cases q
    d14 := fun q => by rw [eL14] at q; rw [eL13]; exact h.d14 q
    r8 := fun q => by rw [eL8] at q; rw [eS8]; exact h.r8 q
    x := fun _ => (h.x n13).trans hx
    p0 := fun q => by rw [eL0] at q; rw [eS0]; exact h.p0 q
    p1 := fun q => by rw [eL1] at q; rw [eS1]; exact h.p1 q
    p2 := fun q => by rw [eL2] at q; rw [eS2]; exact h.p2 q
    p3 := fun q => by rw [eL3] at q; rw [eS3]; exact h.p3 q
    p5 := fun q => by rw [eL5] at q; rw [eS5]; exact h.p5 q
    p11 := fun q => by rw [eL11] at q; rw [eS11]; exact h.p11 q
    p14 := by rw [eS14]; exact h.p14
    q4 := fun q r => by rw [eL4] at q; rw [eL7] at r; rw [eS4]; exact (h.q4 q r).no hx
    q6 := fun q r => by
      rw [eL6] at q; rw [eL7] at r; rw [eS6]
      obtain ⟨g, a1, a2, a3, a4⟩ := h.q6 q r
      exact ⟨g, a1, a2, a3.no hx, fun z => by rw [eL4] at z; rw [eS4]; exact a4 z⟩
    q7 := fun q r => by rw [eL7] at q; rw [eL8] at r; rw [eS7]; exact (h.q7 q r).no hx
    q8 := fun q _ => by
      rw [eL8] at q; rw [eS8]
      obtain ⟨v', a1, a2⟩ := h.q8 q n13
      exact ⟨v', a1, (a2.no hx).imp (fun k _ hk => ⟨hk.1, fun z => by rw [eL12] at z; rw [eS12]; exact hk.2 z⟩)⟩
    q9 := fun q => by rw [eL9] at q; rw [eS9, eS8]; exact h.q9 q
    q10 := fun _ v' e => by rw [eS8] at e; rw [eS10]; exact hv v' e
    q12 := fun q _ => by
      rw [eL12] at q; rw [eS12]
      obtain ⟨b, a1, a2, a3⟩ := h.q12 q n13
      exact ⟨b, a1, a2, (hx.block b (Array.getElem?_eq_some_iff.1 a3).1 (fun h => h)).trans a3⟩
    q13 := fun q => by rw [eL13, n13] at q; cases q }
theorem RgC.op11 (h : RgC W0 many es ev yv B mo vs s l w) {v : Value} (hv : v = .int .i64 0) : RgC W0 many es ev yv B mo vs (setS s 11 v) (setL l 11) w := by
  have eS0 : setS s 11 v 0 = s 0 := setS_ne (by decide)
  have eL0 : setL l 11 0 = l 0 := setL_ne (by decide)
  have eS1 : setS s 11 v 1 = s 1 := setS_ne (by decide)
  have eL1 : setL l 11 1 = l 1 := setL_ne (by decide)
  have eS2 : setS s 11 v 2 = s 2 := setS_ne (by decide)
  have eL2 : setL l 11 2 = l 2 := setL_ne (by decide)
  have eS3 : setS s 11 v 3 = s 3 := setS_ne (by decide)
  have eL3 : setL l 11 3 = l 3 := setL_ne (by decide)
  have eS4 : setS s 11 v 4 = s 4 := setS_ne (by decide)
  have eL4 : setL l 11 4 = l 4 := setL_ne (by decide)
  have eS5 : setS s 11 v 5 = s 5 := setS_ne (by decide)
  have eL5 : setL l 11 5 = l 5 := setL_ne (by decide)
  have eS6 : setS s 11 v 6 = s 6 := setS_ne (by decide)
  have eL6 : setL l 11 6 = l 6 := setL_ne (by decide)
  have eS7 : setS s 11 v 7 = s 7 := setS_ne (by decide)
  have eL7 : setL l 11 7 = l 7 := setL_ne (by decide)
  have eS8 : setS s 11 v 8 = s 8 := setS_ne (by decide)
  have eL8 : setL l 11 8 = l 8 := setL_ne (by decide)
  have eS9 : setS s 11 v 9 = s 9 := setS_ne (by decide)
  have eL9 : setL l 11 9 = l 9 := setL_ne (by decide)
  have eS10 : setS s 11 v 10 = s 10 := setS_ne (by decide)
  have eL10 : setL l 11 10 = l 10 := setL_ne (by decide)
  have eS11 : setS s 11 v 11 = v := setS_eq
  have eS12 : setS s 11 v 12 = s 12 := setS_ne (by decide)
  have eL12 : setL l 11 12 = l 12 := setL_ne (by decide)
  have eS13 : setS s 11 v 13 = s 13 := setS_ne (by decide)
  have eL13 : setL l 11 13 = l 13 := setL_ne (by decide)
  have eS14 : setS s 11 v 14 = s 14 := setS_ne (by decide)
  have eL14 : setL l 11 14 = l 14 := setL_ne (by decide)
  exact {
    d8 := fun q => by rw [eL8] at q; rw [eL7]; exact h.d8 q
    d9 := fun q => by rw [eL9] at q; rw [eL8]; exact h.d9 q
    d10 := fun q => by rw [eL10] at q; rw [eL8]; exact h.d10 q
    d13 := fun q j hj hn => by rw [eL13] at q; rw [setL_ne (by omega)]; exact h.d13 q j hj hn
    r8 := fun q => by rw [eL8] at q; rw [eS8]; exact h.r8 q
    d14 := fun q => by rw [eL14] at q; rw [eL13]; exact h.d14 q
    x := fun q => by rw [eL13] at q; exact h.x q
    p0 := fun q => by rw [eL0] at q; rw [eS0]; exact h.p0 q
    p1 := fun q => by rw [eL1] at q; rw [eS1]; exact h.p1 q
    p2 := fun q => by rw [eL2] at q; rw [eS2]; exact h.p2 q
    p3 := fun q => by rw [eL3] at q; rw [eS3]; exact h.p3 q
    p5 := fun q => by rw [eL5] at q; rw [eS5]; exact h.p5 q
    p11 := fun _ => by rw [eS11]; exact hv
    p14 := by rw [eS14]; exact h.p14
    q4 := fun q r => by rw [eL4] at q; rw [eL7] at r; rw [eS4]; exact h.q4 q r
    q6 := fun q r => by
      rw [eL6] at q; rw [eL7] at r; rw [eS6]
      obtain ⟨g, a1, a2, a3, a4⟩ := h.q6 q r
      exact ⟨g, a1, a2, a3, fun z => by rw [eL4] at z; rw [eS4]; exact a4 z⟩
    q7 := fun q r => by rw [eL7] at q; rw [eL8] at r; rw [eS7]; exact h.q7 q r
    q8 := fun q r => by
      rw [eL8] at q; rw [eL13] at r; rw [eS8]
      obtain ⟨v', a1, a2⟩ := h.q8 q r
      exact ⟨v', a1, a2.imp (fun k _ hk => ⟨hk.1, fun z => by rw [eL12] at z; rw [eS12]; exact hk.2 z⟩)⟩
    q9 := fun q => by rw [eL9] at q; rw [eS9, eS8]; exact h.q9 q
    q10 := fun q v' e => by rw [eL10] at q; rw [eS8] at e; rw [eS10]; exact h.q10 q v' e
    q12 := fun q r => by rw [eL12] at q; rw [eL13] at r; rw [eS12]; exact h.q12 q r
    q13 := fun q => by rw [eL13] at q; rw [eS12]; exact h.q13 q }
theorem RgC.op12 (h : RgC W0 many es ev yv B mo vs s l w) (hl : l 12 = false) {v : Value} {b : Nat} (hb : b = w.heap.size) (hv : v = .pointer (some ⟨b, 0, none⟩)) (hx : Ext No w w') (hc : w'.heap[b]? = some (.cells #[.int .i64 0, .slice none 0 0] 24 (0, 0))) : RgC W0 many es ev yv B mo vs (setS s 12 v) (setL l 12) w' := by
  have n13 : l 13 = false := by
    cases hh : l 13 with
    | false => rfl
    | true => have := h.d13 hh 12 (by decide) (by decide); rw [hl] at this; cases this
  have eS0 : setS s 12 v 0 = s 0 := setS_ne (by decide)
  have eL0 : setL l 12 0 = l 0 := setL_ne (by decide)
  have eS1 : setS s 12 v 1 = s 1 := setS_ne (by decide)
  have eL1 : setL l 12 1 = l 1 := setL_ne (by decide)
  have eS2 : setS s 12 v 2 = s 2 := setS_ne (by decide)
  have eL2 : setL l 12 2 = l 2 := setL_ne (by decide)
  have eS3 : setS s 12 v 3 = s 3 := setS_ne (by decide)
  have eL3 : setL l 12 3 = l 3 := setL_ne (by decide)
  have eS4 : setS s 12 v 4 = s 4 := setS_ne (by decide)
  have eL4 : setL l 12 4 = l 4 := setL_ne (by decide)
  have eS5 : setS s 12 v 5 = s 5 := setS_ne (by decide)
  have eL5 : setL l 12 5 = l 5 := setL_ne (by decide)
  have eS6 : setS s 12 v 6 = s 6 := setS_ne (by decide)
  have eL6 : setL l 12 6 = l 6 := setL_ne (by decide)
  have eS7 : setS s 12 v 7 = s 7 := setS_ne (by decide)
  have eL7 : setL l 12 7 = l 7 := setL_ne (by decide)
  have eS8 : setS s 12 v 8 = s 8 := setS_ne (by decide)
  have eL8 : setL l 12 8 = l 8 := setL_ne (by decide)
  have eS9 : setS s 12 v 9 = s 9 := setS_ne (by decide)
  have eL9 : setL l 12 9 = l 9 := setL_ne (by decide)
  have eS10 : setS s 12 v 10 = s 10 := setS_ne (by decide)
  have eL10 : setL l 12 10 = l 10 := setL_ne (by decide)
  have eS11 : setS s 12 v 11 = s 11 := setS_ne (by decide)
  have eL11 : setL l 12 11 = l 11 := setL_ne (by decide)
  have eS12 : setS s 12 v 12 = v := setS_eq
  have eL12 : setL l 12 12 = true := setL_eq
  have eS13 : setS s 12 v 13 = s 13 := setS_ne (by decide)
  have eL13 : setL l 12 13 = l 13 := setL_ne (by decide)
  have eS14 : setS s 12 v 14 = s 14 := setS_ne (by decide)
  have eL14 : setL l 12 14 = l 14 := setL_ne (by decide)
  exact {
    d8 := fun q => by rw [eL8] at q; rw [eL7]; exact h.d8 q
    d9 := fun q => by rw [eL9] at q; rw [eL8]; exact h.d9 q
    d10 := fun q => by rw [eL10] at q; rw [eL8]; exact h.d10 q
    d13 := fun q => by rw [eL13, n13] at q; cases q
    d14 := fun q => by rw [eL14] at q; rw [eL13]; exact h.d14 q
    r8 := fun q => by rw [eL8] at q; rw [eS8]; exact h.r8 q
    x := fun _ => (h.x n13).trans hx
    p0 := fun q => by rw [eL0] at q; rw [eS0]; exact h.p0 q
    p1 := fun q => by rw [eL1] at q; rw [eS1]; exact h.p1 q
    p2 := fun q => by rw [eL2] at q; rw [eS2]; exact h.p2 q
    p3 := fun q => by rw [eL3] at q; rw [eS3]; exact h.p3 q
    p5 := fun q => by rw [eL5] at q; rw [eS5]; exact h.p5 q
    p11 := fun q => by rw [eL11] at q; rw [eS11]; exact h.p11 q
    p14 := by rw [eS14]; exact h.p14
    q4 := fun q r => by rw [eL4] at q; rw [eL7] at r; rw [eS4]; exact (h.q4 q r).no hx
    q6 := fun q r => by
      rw [eL6] at q; rw [eL7] at r; rw [eS6]
      obtain ⟨g, a1, a2, a3, a4⟩ := h.q6 q r
      exact ⟨g, a1, a2, a3.no hx, fun z => by rw [eL4] at z; rw [eS4]; exact a4 z⟩
    q7 := fun q r => by rw [eL7] at q; rw [eL8] at r; rw [eS7]; exact (h.q7 q r).no hx
    q8 := fun q _ => by
      rw [eL8] at q; rw [eS8]
      obtain ⟨v', a1, a2⟩ := h.q8 q n13
      refine ⟨v', a1, (a2.imp (P' := fun k => W0.heap.size ≤ k ∧ (setL l 12 12 = true → setS s 12 v 12 ≠ .pointer (some ⟨k, 0, none⟩))) (fun k hk hp => ⟨hp.1, fun _ hh => ?_⟩)).no hx⟩
      rw [eS12, hv] at hh
      simp only [Value.pointer.injEq, Option.some.injEq, Addr.mk.injEq] at hh
      omega
    q9 := fun q => by rw [eL9] at q; rw [eS9, eS8]; exact h.q9 q
    q10 := fun q v' e => by rw [eL10] at q; rw [eS8] at e; rw [eS10]; exact h.q10 q v' e
    q12 := fun _ _ => by rw [eS12]; exact ⟨b, hv, by rw [hb]; exact (h.x n13).size, hc⟩
    q13 := fun q => by rw [eL13, n13] at q; cases q }
theorem RgC.op13 (h : RgC W0 many es ev yv B mo vs s l w) (hl : l 13 = false) (hall : ∀ j, j < 13 → j ≠ 11 → l j = true) {v v8 : Value} {b : Nat} (hb : s 12 = .pointer (some ⟨b, 0, none⟩)) (h8 : s 8 = tupV many v8) (hx : Ext (fun k => k = b) w w') (hc0 : w'.cell? ⟨b, 0, none⟩ = some (.int .i64 many)) (hc1 : w'.cell? ⟨b, 1, none⟩ = some v8) : RgC W0 many es ev yv B mo vs (setS s 13 v) (setL l 13) w' := by
  have eS0 : setS s 13 v 0 = s 0 := setS_ne (by decide)
  have eL0 : setL l 13 0 = l 0 := setL_ne (by decide)
  have eS1 : setS s 13 v 1 = s 1 := setS_ne (by decide)
  have eL1 : setL l 13 1 = l 1 := setL_ne (by decide)
  have eS2 : setS s 13 v 2 = s 2 := setS_ne (by decide)
  have eL2 : setL l 13 2 = l 2 := setL_ne (by decide)
  have eS3 : setS s 13 v 3 = s 3 := setS_ne (by decide)
  have eL3 : setL l 13 3 = l 3 := setL_ne (by decide)
  have eS4 : setS s 13 v 4 = s 4 := setS_ne (by decide)
  have eL4 : setL l 13 4 = l 4 := setL_ne (by decide)
  have eS5 : setS s 13 v 5 = s 5 := setS_ne (by decide)
  have eL5 : setL l 13 5 = l 5 := setL_ne (by decide)
  have eS6 : setS s 13 v 6 = s 6 := setS_ne (by decide)
  have eL6 : setL l 13 6 = l 6 := setL_ne (by decide)
  have eS7 : setS s 13 v 7 = s 7 := setS_ne (by decide)
  have eL7 : setL l 13 7 = l 7 := setL_ne (by decide)
  have eS8 : setS s 13 v 8 = s 8 := setS_ne (by decide)
  have eL8 : setL l 13 8 = l 8 := setL_ne (by decide)
  have eS9 : setS s 13 v 9 = s 9 := setS_ne (by decide)
  have eL9 : setL l 13 9 = l 9 := setL_ne (by decide)
  have eS10 : setS s 13 v 10 = s 10 := setS_ne (by decide)
  have eL10 : setL l 13 10 = l 10 := setL_ne (by decide)
  have eS11 : setS s 13 v 11 = s 11 := setS_ne (by decide)
  have eL11 : setL l 13 11 = l 11 := setL_ne (by decide)
  have eS12 : setS s 13 v 12 = s 12 := setS_ne (by decide)
  have eL12 : setL l 13 12 = l 12 := setL_ne (by decide)
  have eL13 : setL l 13 13 = true := setL_eq
  have eS14 : setS s 13 v 14 = s 14 := setS_ne (by decide)
  have eL14 : setL l 13 14 = l 14 := setL_ne (by decide)
  have hbW : W0.heap.size ≤ b := by
    obtain ⟨b', a1, a2, _⟩ := h.q12 (hall 12 (by decide) (by decide)) hl
    rw [a1] at hb
    simp only [Value.pointer.injEq, Option.some.injEq, Addr.mk.injEq] at hb
    omega
  exact {
    d8 := fun q => by rw [eL7]; exact hall 7 (by decide) (by decide)
    d9 := fun q => by rw [eL8]; exact hall 8 (by decide) (by decide)
    d10 := fun q => by rw [eL8]; exact hall 8 (by decide) (by decide)
    d13 := fun _ j hj hn => by rw [setL_ne (by omega)]; exact hall j hj hn
    r8 := fun q => by rw [eL8] at q; rw [eS8]; exact h.r8 q
    d14 := fun _ => by rw [eL13]
    x := fun q => by rw [eL13] at q; cases q
    p0 := fun q => by rw [eL0] at q; rw [eS0]; exact h.p0 q
    p1 := fun q => by rw [eL1] at q; rw [eS1]; exact h.p1 q
    p2 := fun q => by rw [eL2] at q; rw [eS2]; exact h.p2 q
    p3 := fun q => by rw [eL3] at q; rw [eS3]; exact h.p3 q
    p5 := fun q => by rw [eL5] at q; rw [eS5]; exact h.p5 q
    p11 := fun q => by rw [eL11] at q; rw [eS11]; exact h.p11 q
    p14 := by rw [eS14]; exact h.p14
    q4 := fun _ r => by rw [eL7, hall 7 (by decide) (by decide)] at r; cases r
    q6 := fun _ r => by rw [eL7, hall 7 (by decide) (by decide)] at r; cases r
    q7 := fun _ r => by rw [eL8, hall 8 (by decide) (by decide)] at r; cases r
    q8 := fun _ r => by rw [eL13] at r; cases r
    q9 := fun q => by rw [eL9] at q; rw [eS9, eS8]; exact h.q9 q
    q10 := fun q v' e => by rw [eL10] at q; rw [eS8] at e; rw [eS10]; exact h.q10 q v' e
    q12 := fun _ r => by rw [eL13] at r; cases r
    q13 := fun _ => by
      obtain ⟨v', a1, a2⟩ := h.q8 (hall 8 (by decide) (by decide)) hl
      rw [h8] at a1
      simp only [tupV, Value.tuple.injEq, Array.mk.injEq, List.cons.injEq, Value.agg.injEq, and_true, true_and] at a1
      subst a1
      refine ⟨b, v8, by rw [eS12]; exact hb, (h.x hl).step hx (fun i hi hh => by omega), hc0, hc1, (a2.ext hx (fun k hk hh => ?_)).imp (fun k _ hk => hk.1)⟩
      exact hk.2 (hall 12 (by decide) (by decide)) (by rw [hb, hh]) }
theorem RgC.op14 (h : RgC W0 many es ev yv B mo vs s l w) (h13 : l 13 = true) {v : Value} (hv : v = .int .i64 0) : RgC W0 many es ev yv B mo vs (setS s 14 v) (setL l 14) w := by
  have eS0 : setS s 14 v 0 = s 0 := setS_ne (by decide)
  have eL0 : setL l 14 0 = l 0 := setL_ne (by decide)
  have eS1 : setS s 14 v 1 = s 1 := setS_ne (by decide)
  have eL1 : setL l 14 1 = l 1 := setL_ne (by decide)
  have eS2 : setS s 14 v 2 = s 2 := setS_ne (by decide)
  have eL2 : setL l 14 2 = l 2 := setL_ne (by decide)
  have eS3 : setS s 14 v 3 = s 3 := setS_ne (by decide)
  have eL3 : setL l 14 3 = l 3 := setL_ne (by decide)
  have eS4 : setS s 14 v 4 = s 4 := setS_ne (by decide)
  have eL4 : setL l 14 4 = l 4 := setL_ne (by decide)
  have eS5 : setS s 14 v 5 = s 5 := setS_ne (by decide)
  have eL5 : setL l 14 5 = l 5 := setL_ne (by decide)
  have eS6 : setS s 14 v 6 = s 6 := setS_ne (by decide)
  have eL6 : setL l 14 6 = l 6 := setL_ne (by decide)
  have eS7 : setS s 14 v 7 = s 7 := setS_ne (by decide)
  have eL7 : setL l 14 7 = l 7 := setL_ne (by decide)
  have eS8 : setS s 14 v 8 = s 8 := setS_ne (by decide)
  have eL8 : setL l 14 8 = l 8 := setL_ne (by decide)
  have eS9 : setS s 14 v 9 = s 9 := setS_ne (by decide)
  have eL9 : setL l 14 9 = l 9 := setL_ne (by decide)
  have eS10 : setS s 14 v 10 = s 10 := setS_ne (by decide)
  have eL10 : setL l 14 10 = l 10 := setL_ne (by decide)
  have eS11 : setS s 14 v 11 = s 11 := setS_ne (by decide)
  have eL11 : setL l 14 11 = l 11 := setL_ne (by decide)
  have eS12 : setS s 14 v 12 = s 12 := setS_ne (by decide)
  have eL12 : setL l 14 12 = l 12 := setL_ne (by decide)
  have eS13 : setS s 14 v 13 = s 13 := setS_ne (by decide)
  have eL13 : setL l 14 13 = l 13 := setL_ne (by decide)
  have eS14 : setS s 14 v 14 = v := setS_eq
  exact {
    d8 := fun q => by rw [eL8] at q; rw [eL7]; exact h.d8 q
    d9 := fun q => by rw [eL9] at q; rw [eL8]; exact h.d9 q
    d10 := fun q => by rw [eL10] at q; rw [eL8]; exact h.d10 q
    d13 := fun _ j hj hn => by rw [setL_ne (by omega)]; exact h.d13 h13 j hj hn
    r8 := fun q => by rw [eL8] at q; rw [eS8]; exact h.r8 q
    d14 := fun _ => by rw [eL13]; exact h13
    x := fun q => by rw [eL13, h13] at q; cases q
    p0 := fun q => by rw [eL0] at q; rw [eS0]; exact h.p0 q
    p1 := fun q => by rw [eL1] at q; rw [eS1]; exact h.p1 q
    p2 := fun q => by rw [eL2] at q; rw [eS2]; exact h.p2 q
    p3 := fun q => by rw [eL3] at q; rw [eS3]; exact h.p3 q
    p5 := fun q => by rw [eL5] at q; rw [eS5]; exact h.p5 q
    p11 := fun q => by rw [eL11] at q; rw [eS11]; exact h.p11 q
    p14 := by rw [eS14]; exact hv
    q4 := fun _ r => by rw [eL7, h.d13 h13 7 (by decide) (by decide)] at r; cases r
    q6 := fun _ r => by rw [eL7, h.d13 h13 7 (by decide) (by decide)] at r; cases r
    q7 := fun _ r => by rw [eL8, h.d13 h13 8 (by decide) (by decide)] at r; cases r
    q8 := fun _ r => by rw [eL13, h13] at r; cases r
    q9 := fun q => by rw [eL9] at q; rw [eS9, eS8]; exact h.q9 q
    q10 := fun q v' e => by rw [eL10] at q; rw [eS8] at e; rw [eS10]; exact h.q10 q v' e
    q12 := fun _ r => by rw [eL13, h13] at r; cases r
    q13 := fun _ => by rw [eS12]; exact h.q13 h13 }
theorem RgC.start (hs : s 14 = .int .i64 0) : RgC W0 many es ev yv B mo vs s (fun _ => false) W0 := by
  exact { p14 := hs, x := fun _ => Ext.refl _ _, d8 := fun q => (by cases q), d9 := fun q => (by cases q), d10 := fun q => (by cases q), d13 := fun q => (by cases q), r8 := fun q => (by cases q), d14 := fun q => (by cases q), p0 := fun q => (by cases q), p1 := fun q => (by cases q), p2 := fun q => (by cases q), p3 := fun q => (by cases q), p5 := fun q => (by cases q), p11 := fun q => (by cases q), q9 := fun q => (by cases q), q10 := fun q => (by cases q), q13 := fun q => (by cases q), q4 := fun q _ => (by cases q), q6 := fun q _ => (by cases q), q7 := fun q _ => (by cases q), q8 := fun q _ => (by cases q), q12 := fun q _ => (by cases q) }
end
end Go.Proofs.YtceiaekkfabeaaaDoor
