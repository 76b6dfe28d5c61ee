/- Words and contracts for: DecompHomes: for every hypergraph, and number the law answers true, and its arguments read as before. No condition; the library's table math/bits.deBruijn64tab is laid by its text. -/
import Derived.Maps.OwnIn
import Derived.Test.YtceiaekkfabeaaaDoorZhl
/- append within regions that draw their order; what is known there. -/
namespace Go.Proofs.YtceiaekkfabeaaaDoor
open Go.RowKit Pl

section
variable {Pg : Program} {F : Fence} {nF : Nat} {o : Oper} {a : Act} {K : Act → World → Prop} {Q : Exit → Act → World → Prop} {w : World}
theorem wpIn_append (s x : Operand) (t : TypeId)
    (ho : o.op = .call { callee := .builtin .append, args := #[s, x], argTypes := #[t, t] })
    (base : Nat) (e : TypeId) (i : TypeInfo) (z : Value) (size bytes : Nat) (ht : Pg.underlying t = some (.slice e)) (hi : Pg.info? e = some i) (hz : i.zero = some z)
    (hsize : i.size = size) (hby : i.bytes = bytes) (hzs : z.cells.size = size) (hsz : 0 < size)
    (v : Value) (n : Nat) (xs : List Value) (hs : a.eval s = v) (hown : w.ownsRow base e size v n xs)
    (ad : Addr) (m c : Nat) (news : List Value) (hx : a.eval x = .slice (some ad) m c) (hl : news.length = m * size) (hnews : ∀ j u, news[j]? = some u → w.cell? (ad.add j) = some u) (h1 : ∀ u ∈ news, u.oneCell' = true)
    (h63 : n + m ≤ maxLen) (hbytes : (n + m) * bytes ≤ 140737488355328) (hbase : base ≤ w.heap.size)
    (h : ∀ v' w', w'.ownsRow base e size v' (n + m) (xs ++ news) → w.grownBy w' v.ownBlock → (v' = .slice none 0 0 ↔ v = .slice none 0 0 ∧ m = 0) → (v'.ownBlock = v.ownBlock ∨ v'.ownBlock = some w.heap.size) → K (a.put o.dst v') w') :
    o.wpIn F nF Pg a w K Q := by
  obtain ⟨v', w', hr, h2, h3, h4, h5⟩ := run_append_own_at (P := Pg) w base t o.type e i z size bytes ht hi hz hsize hby hzs hsz v n xs hown ad m c news hl hnews h1 h63 hbytes hbase
  unfold Oper.wpIn
  refine ⟨by simp [Oper.about, ho, resolve, Target.leads, Sem.run_pure], ?_⟩
  rw [Oper.semAt_plain F _ _ (by rw [ho]; intro c hc'; cases hc')]
  simp [execOp, ho, resolve, invoke, builtin, hs, hx, hr, Result.andThen]
  exact h v' w' h2 h3 h4 h5

theorem appRowIn {P : Nat → Prop} {W : World} (base : Nat) (s x : Operand) (t : TypeId)
    (ho : o.op = .call { callee := .builtin .append, args := #[s, x], argTypes := #[t, t] })
    (ht : Pg.underlying t = some (.slice 28)) (hinfo : (Pg.info? 28).map (fun i => (i.zero, i.size, i.bytes)) = some (some (.slice none 0 0), 1, 24))
    (v : Value) (xss : List (List Int)) (ys : List Int) (hs : a.eval s = v) (ad : Addr) (c : Nat) (hx : a.eval x = .slice (some ad) 1 c)
    (HO : OwnRows P base W v xss) (hy : RowsR (fun k => P k ∧ some k ≠ v.ownBlock) W (.slice (some ad) 1 c) [ys]) (hbase : base ≤ W.heap.size) (hl : xss.length ≤ 1000000000)
    (h : ∀ v1 w1, OwnRows P base w1 v1 (xss ++ [ys]) → Ext (fun k => some k = v.ownBlock) W w1 → (v1.ownBlock = v.ownBlock ∨ ∃ b, v1.ownBlock = some b ∧ W.heap.size ≤ b) → (∃ A c, v1 = .slice A (xss.length + 1) c) → K (a.put o.dst v1) w1) :
    o.wpIn F nF Pg a W K Q := by
  obtain ⟨vs, g1, g2⟩ := HO
  obtain ⟨A', c', hv, hc, hm, hn⟩ := hy
  cases hv
  obtain ⟨ad', ha, hpa, hsp, hj⟩ := hn (by simp)
  cases ha
  obtain ⟨cs, ⟨u, rfl, hu1, hu2⟩, _, hcell⟩ := hj 0 (by simp)
  obtain ⟨A2, c2, rfl, _⟩ := hu2.at
  obtain ⟨i0, hi, hzz⟩ := Option.map_eq_some_iff.1 hinfo
  simp only [Prod.mk.injEq] at hzz
  obtain ⟨hz0, hz1, hz2⟩ := hzz
  obtain ⟨b, of, sp⟩ := ad
  simp only at hsp
  subst hsp
  refine wpIn_append s x t ho base 28 i0 _ 1 24 ht hi hz0 hz1 hz2 rfl (by omega) v xss.length vs hs g1 ⟨b, of, none⟩ 1 c [.slice A2 ys.length c2] hx rfl
    (fun j u hu => ?_) (by simp [Value.oneCell']) (by simp only [maxLen]; omega) (by omega) hbase ?_
  · have hj0 : j = 0 := by have := (List.getElem?_eq_some_iff.1 hu).1; simpa using this
    subst hj0
    rw [addr_add]
    have := hcell 0 u hu
    simpa using this
  · intro v1 w1 hown hg _ hat
    have hx1 : Ext (fun k => some k = v.ownBlock) W w1 := ⟨hg.os, hg.tape, hg.output, hg.size, fun k hk hx => hg.block k hk hx⟩
    have hat' : v1.ownBlock = v.ownBlock ∨ ∃ b, v1.ownBlock = some b ∧ W.heap.size ≤ b := by
      rcases hat with hat | hat
      · exact .inl hat
      · exact .inr ⟨_, hat, by simp⟩
    have hfix : ∀ (u : Value) (xs : List Int), IntsR .i64 (fun k => P k ∧ some k ≠ v.ownBlock) W u xs → IntsR .i64 (fun k => P k ∧ some k ≠ v1.ownBlock) w1 u xs := by
      intro u xs hu
      refine IntsR.ext (X := fun k => some k = v.ownBlock) (IntsR.imp (P' := fun k => (P k ∧ some k ≠ v1.ownBlock) ∧ some k ≠ v.ownBlock) hu ?_) hx1 (fun k hk => hk.2) |>.imp (fun k _ hk => hk.1)
      rintro k hk ⟨hp, hne⟩
      refine ⟨⟨hp, ?_⟩, hne⟩
      rcases hat' with h3 | ⟨b, h3, hb⟩
      · rw [h3]; exact hne
      · rw [h3]; intro he; cases he; omega
    refine h v1 w1 ⟨vs ++ [.slice A2 ys.length c2], by rw [List.length_append]; exact hown, fun j u xs hu hxs => ?_⟩ hx1 hat' (Own.slice hown)
    have hl' := g1.len
    by_cases hj : j < xss.length
    · rw [List.getElem?_append_left (by omega)] at hu
      rw [List.getElem?_append_left hj] at hxs
      exact hfix u xs (g2 j u xs hu hxs)
    · rw [List.getElem?_append_right (by omega)] at hu
      rw [List.getElem?_append_right (by omega)] at hxs
      have hj0 : j - xss.length = 0 := by have := (List.getElem?_eq_some_iff.1 hxs).1; simp at this; omega
      rw [show j - vs.length = 0 by omega] at hu
      rw [hj0] at hxs
      simp at hu hxs
      subst hu; subst hxs
      exact hfix _ _ hu2

theorem appBagsIn {P : Nat → Prop} {W : World} (base : Nat) (s x : Operand) (t : TypeId)
    (ho : o.op = .call { callee := .builtin .append, args := #[s, x], argTypes := #[t, t] })
    (ht : Pg.underlying t = some (.slice 51)) (hinfo : (Pg.info? 51).map (fun i => (i.zero, i.size, i.bytes)) = some (some (.agg #[.slice none 0 0, .slice none 0 0, .int .i64 0]), 3, 56))
    (v : Value) (bs news : List Bag) (hs : a.eval s = v) (ad : Addr) (c : Nat) (hx : a.eval x = .slice (some ad) news.length c)
    (HO : OwnBags P base W v bs) (hy : BagsR (fun k => P k ∧ some k ≠ v.ownBlock) W (.slice (some ad) news.length c) news) (hp : 0 < news.length) (hbase : base ≤ W.heap.size) (hl : bs.length + news.length ≤ 1000000000)
    (h : ∀ v1 w1, OwnBags P base w1 v1 (bs ++ news) → Ext (fun k => some k = v.ownBlock) W w1 → (v1.ownBlock = v.ownBlock ∨ ∃ b, v1.ownBlock = some b ∧ W.heap.size ≤ b) → (∃ A c, v1 = .slice A (bs.length + news.length) c) → K (a.put o.dst v1) w1) :
    o.wpIn F nF Pg a W K Q := by
  obtain ⟨us, rfl, g1, g2⟩ := HO
  obtain ⟨hspot, us', hus, hcell, hint⟩ := hy.us hp
  have hlen : us'.length = news.length := by rw [← hus, List.length_map]
  obtain ⟨i0, hi, hzz⟩ := Option.map_eq_some_iff.1 hinfo
  simp only [Prod.mk.injEq] at hzz
  obtain ⟨hz0, hz1, hz2⟩ := hzz
  rw [List.length_map] at hl h
  have hfl : ∀ l : List (Value × Value × Bag), (l.flatMap bagCells).length = l.length * 3 := by
    intro l
    induction l with
    | nil => rfl
    | cons a l ih => rw [List.flatMap_cons, List.length_append, ih]; simp [bagCells]; omega
  refine wpIn_append (w := W) s x t ho base 51 i0 _ 3 56 ht hi hz0 hz1 hz2 rfl (by omega) v us.length (us.flatMap bagCells) hs g1 ad news.length c (us'.flatMap bagCells) hx (by rw [hfl, hlen])
    hcell ?_ (by simp only [maxLen]; omega) (by omega) hbase ?_
  · intro u hu
    obtain ⟨t', ht', hu⟩ := List.mem_flatMap.1 hu
    obtain ⟨h1, h2⟩ := hint t' ht'
    obtain ⟨A1, c1, e1, _⟩ := h1.at
    obtain ⟨A2, c2, e2, _⟩ := h2.at
    simp only [bagCells, List.mem_cons, List.not_mem_nil, or_false] at hu
    rcases hu with rfl | rfl | rfl
    · rw [e1]; rfl
    · rw [e2]; rfl
    · rfl
  · intro v1 w1 hown hg _ hat
    have hx1 : Ext (fun k => some k = v.ownBlock) W w1 := ⟨hg.os, hg.tape, hg.output, hg.size, fun k hk hx => hg.block k hk hx⟩
    have hat' : v1.ownBlock = v.ownBlock ∨ ∃ b, v1.ownBlock = some b ∧ W.heap.size ≤ b := by
      rcases hat with hat | hat
      · exact .inl hat
      · exact .inr ⟨_, hat, by simp⟩
    have hfix : ∀ (u : Value) (xs : List Int), IntsR .i64 (fun k => P k ∧ some k ≠ v.ownBlock) W u xs → IntsR .i64 (fun k => P k ∧ some k ≠ v1.ownBlock) w1 u xs := by
      intro u xs hu
      refine IntsR.ext (X := fun k => some k = v.ownBlock) (IntsR.imp (P' := fun k => (P k ∧ some k ≠ v1.ownBlock) ∧ some k ≠ v.ownBlock) hu ?_) hx1 (fun k hk => hk.2) |>.imp (fun k _ hk => hk.1)
      rintro k hk ⟨hp, hne⟩
      refine ⟨⟨hp, ?_⟩, hne⟩
      rcases hat' with h3 | ⟨b, h3, hb⟩
      · rw [h3]; exact hne
      · rw [h3]; intro he; cases he; omega
    refine h v1 w1 ⟨us ++ us', by simp [hus], ?_, fun t ht => ?_⟩ hx1 hat' (Own.slice hown)
    · rw [List.flatMap_append, List.length_append, hlen]; exact hown
    · rcases List.mem_append.1 ht with ht | ht
      · exact ⟨hfix _ _ (g2 t ht).1, hfix _ _ (g2 t ht).2⟩
      · exact ⟨hfix _ _ (hint t ht).1, hfix _ _ (hint t ht).2⟩
end

/-- What is known within a region that draws: before operation c the world grows, each value that is there is known of in it; behind c a fact of all. D: which operation wants which. -/
structure PhA (D : List (Nat × Nat)) (c : Nat) (W0 : World) (Fact : Nat → Value → World → Prop) (Pure : Nat → Value → Prop) (Aft : (Nat → Value) → (Nat → Bool) → World → Prop) (s : Nat → Value) (l : Nat → Bool) (w : World) : Prop where
  dep : ∀ i j, (i, j) ∈ D → l i = true → l j = true
  bef : l c = false → Ext No W0 w ∧ ∀ i, l i = true → Fact i (s i) w
  aft : l c = true → Aft s l w
  pur : ∀ i, l i = true → Pure i (s i)
variable {D : List (Nat × Nat)} {c : Nat} {W0 w w' : World} {Fact : Nat → Value → World → Prop} {Pure : Nat → Value → Prop} {Aft : (Nat → Value) → (Nat → Bool) → World → Prop} {s : Nat → Value} {l : Nat → Bool}
theorem PhA.start : PhA D c W0 Fact Pure Aft s (fun _ => false) W0 := ⟨by simp, fun _ => ⟨Ext.refl _ _, by simp⟩, by simp, by simp⟩
theorem PhA.dep' (h : PhA D c W0 Fact Pure Aft s l w) {i : Nat} (hd : ∀ j, (i, j) ∈ D → l j = true) : ∀ i' j, (i', j) ∈ D → setL l i i' = true → setL l i j = true := by
  intro i' j hm hl
  have hj : l j = true := by
    by_cases hii : i' = i
    · subst hii; exact hd j hm
    · rw [setL, if_neg hii] at hl; exact h.dep i' j hm hl
  rw [setL]
  split
  · rfl
  · exact hj
/-- An operation before c. -/
theorem PhA.step (hst : ∀ i v w w', Ext No w w' → Fact i v w → Fact i v w') (h : PhA D c W0 Fact Pure Aft s l w) {i : Nat} (hi : i ≠ c) (hd : ∀ j, (i, j) ∈ D → l j = true) (hc : l c = false) {v : Value} (hx : Ext No w w') (hf : Fact i v w') (hp : Pure i v) :
    PhA D c W0 Fact Pure Aft (setS s i v) (setL l i) w' := by
  obtain ⟨h1, h2⟩ := h.bef hc
  refine ⟨h.dep' hd, fun _ => ⟨h1.trans hx, fun j hj => ?_⟩, fun hl => ?_, fun j hj => ?_⟩
  · by_cases hji : j = i
    · subst hji; rw [setS, if_pos rfl]; exact hf
    · rw [setS, if_neg hji]; rw [setL, if_neg hji] at hj; exact hst _ _ _ _ hx (h2 j hj)
  · rw [setL, if_neg (Ne.symm hi), hc] at hl; cases hl
  · by_cases hji : j = i
    · subst hji; rw [setS, if_pos rfl]; exact hp
    · rw [setS, if_neg hji]; rw [setL, if_neg hji] at hj; exact h.pur j hj
/-- An operation whose value is known beforehand, wherever it stands. -/
theorem PhA.pure (h : PhA D c W0 Fact Pure Aft s l w) {i : Nat} (hi : i ≠ c) (hd : ∀ j, (i, j) ∈ D → l j = true) {v : Value} (hf : l c = false → Fact i v w) (hp : Pure i v) (ha : Aft s l w → Aft (setS s i v) (setL l i) w) : PhA D c W0 Fact Pure Aft (setS s i v) (setL l i) w := by
  refine ⟨h.dep' hd, fun hl => ?_, fun hl => ?_, fun j hj => ?_⟩
  · rw [setL, if_neg (Ne.symm hi)] at hl
    obtain ⟨h1, h2⟩ := h.bef hl
    refine ⟨h1, fun j hj => ?_⟩
    by_cases hji : j = i
    · subst hji; rw [setS, if_pos rfl]; exact hf hl
    · rw [setS, if_neg hji]; rw [setL, if_neg hji] at hj; exact h2 j hj
  · rw [setL, if_neg (Ne.symm hi)] at hl; exact ha (h.aft hl)
  · by_cases hji : j = i
    · subst hji; rw [setS, if_pos rfl]; exact hp
    · rw [setS, if_neg hji]; rw [setL, if_neg hji] at hj; exact h.pur j hj
/-- Operation c itself, or one behind it. -/
theorem PhA.after (h : PhA D c W0 Fact Pure Aft s l w) {i : Nat} {v : Value} (hd : ∀ j, (i, j) ∈ D → l j = true) (hc : setL l i c = true) (hp : Pure i v) (ha : Aft (setS s i v) (setL l i) w') : PhA D c W0 Fact Pure Aft (setS s i v) (setL l i) w' := by
  refine ⟨h.dep' hd, fun hl => (by rw [hc] at hl; cases hl), fun _ => ha, fun j hj => ?_⟩
  by_cases hji : j = i
  · subst hji; rw [setS, if_pos rfl]; exact hp
  · rw [setS, if_neg hji]; rw [setL, if_neg hji] at hj; exact h.pur j hj
end Go.Proofs.YtceiaekkfabeaaaDoor

/- The law's own copy of a hypergraph. -/
namespace Go.Proofs.YtceiaekkfabeaaaDoor
open Go.RowKit Go.Shelf Pl
attribute [local go_sem] Oper.semAt_some

theorem take_succ_of {α : Type} {l : List α} {k : Nat} {x : α} (h : l[k]? = some x) : l.take (k + 1) = l.take k ++ [x] := by
  obtain ⟨hk, rfl⟩ := List.getElem?_eq_some_iff.1 h
  exact List.take_succ_eq_append_getElem hk
/-- A hypergraph that can be gone through. -/
def ownB (many : Int) (es : List (List Int)) : Bool := decide (es.length ≤ 7) && decide (many ≤ 6) && allB (fun e => decide (e.length ≤ 8)) es

/-- What own answers. -/
def OwnPost (many : Int) (es : List (List Int)) (w : World) (e : Ending) (w' : World) : Prop :=
  Ext No w w' ∧ if ownB many es then ∃ v', e = .returned (.tuple #[.agg #[.int .i64 many, v'], .bool true]) ∧ RowsR (fun k => w.heap.size ≤ k) w' v' es else e = .returned (.tuple #[.agg #[.int .i64 0, .slice none 0 0], .bool false])
theorem OwnPost.no {many : Int} {es : List (List Int)} {w w' : World} (h : ownB many es = false) (hx : Ext No w w') : OwnPost many es w (.returned (.tuple #[.agg #[.int .i64 0, .slice none 0 0], .bool false])) w' := ⟨hx, by rw [h]; simp⟩
theorem OwnPost.yes {many : Int} {es : List (List Int)} {w w' : World} {v : Value} (h : ownB many es = true) (hx : Ext No w w') (hr : RowsR (fun k => w.heap.size ≤ k) w' v es) : OwnPost many es w (.returned (.tuple #[.agg #[.int .i64 many, v], .bool true])) w' := ⟨hx, by rw [h]; exact ⟨v, rfl, hr⟩⟩

set_option maxHeartbeats 4000000 in
set_option maxRecDepth 100000 in
theorem own_any {P : Nat → Prop} (many : Int) (ev : Value) (es : List (List Int)) (w : World) (he : RowsR P w ev es) :
    Calls Tryd.prog 9 #[.agg #[.int .i64 many, ev]] w (OwnPost many es w) := by
  obtain ⟨A, c, rfl, hc, hm, hat⟩ := he.at
  have HE := Sid.mk he
  have HAT := Sid.mk hat
  clear he hat
  by_cases h7 : es.length ≤ 7
  · by_cases h6 : many ≤ 6
    · have h7' : ¬ ((7 : Int) < (es.length : Int)) := by omega
      have h6' : ¬ ((6 : Int) < many) := by omega
      have HOK : Sid ((∀ e ∈ es, e.length ≤ 8) → ownB many es = true) := ⟨fun h => by simp only [ownB, Bool.and_eq_true, decide_eq_true_eq]; exact ⟨⟨h7, h6⟩, by rw [allB, List.all_eq_true]; exact fun e he => by simpa using h e he⟩⟩
      have HNO : Sid (∀ (k : Nat) (e : List Int), es[k]? = some e → ¬ e.length ≤ 8 → ownB many es = false) := ⟨fun k e hk h => by rw [ownB, allB_false hk (by simpa using h), Bool.and_false]⟩
      go_enter Tryd.func9, Tryd.ntmps9
      go_wp2
      obtain ⟨W0, hW0⟩ : ∃ W0, W0 = ((w.alloc (.cells #[.int .i64 many, .slice A es.length c] 24)).alloc (.cells #[.int .i64 0, .slice none 0 0] 24)).alloc (.cells #[.int .i64 many, .slice none 0 0] 24) := ⟨_, rfl⟩
      have HX0 : Sid (Ext No w W0) := ⟨by rw [hW0]; exact (((Ext.refl No w).alloc _).alloc _).alloc _⟩
      have HSZ0 : Sid (W0.heap.size = w.heap.size + 3) := ⟨by rw [hW0]; simp⟩
      have HC0 : Sid (W0.cell? ⟨w.heap.size + 1 + 1, 0, none⟩ = some (.int .i64 many) ∧ W0.cell? ⟨w.heap.size + 1 + 1, 1, none⟩ = some (.slice none 0 0) ∧ W0.frozen? ⟨w.heap.size + 1 + 1, 1, none⟩ = false) := ⟨by rw [hW0]; simp [go_sem]⟩
      have HC1 : Sid (W0.cell? ⟨w.heap.size + 1, 0, none⟩ = some (.int .i64 0) ∧ W0.cell? ⟨w.heap.size + 1, 1, none⟩ = some (.slice none 0 0) ∧ W0.frozen? ⟨w.heap.size + 1, 0, none⟩ = false ∧ W0.frozen? ⟨w.heap.size + 1, 1, none⟩ = false) := ⟨by rw [hW0]; simp [go_sem]⟩
      rw [← hW0]
      clear hW0
      go_loopw [23] (fun i wr => ∃ (k : Nat) (v : Value), k ≤ es.length ∧ i = .int .i64 (k : Int) ∧ Sid (∀ j e, j < k → es[j]? = some e → e.length ≤ 8) ∧ wr.cell? ⟨w.heap.size + 1 + 1, 1, none⟩ = some v ∧ wr.frozen? ⟨w.heap.size + 1 + 1, 1, none⟩ = false ∧ Sid (wr.cell? ⟨w.heap.size + 1 + 1, 0, none⟩ = some (.int .i64 many)) ∧ Sid (OwnRows (fun j => w.heap.size + 3 ≤ j) (w.heap.size + 3) wr v (es.take k)) ∧ Sid (Ext (fun j => j = w.heap.size + 1 + 1) W0 wr)) (fun i _ => es.length - (intOf i).toNat)
      case atStart => exact ⟨0, _, Nat.zero_le _, rfl, ⟨fun j e hj => by omega⟩, HC0.out.2.1, HC0.out.2.2, ⟨HC0.out.1⟩, ⟨OwnRows.nil _ _ _⟩, ⟨Ext.refl _ _⟩⟩
      case round =>
        obtain ⟨k, v, hk, rfl, HL, hcv, hfv, HCM, HO, HX⟩ := hrel
        obtain ⟨wo, rfl⟩ : ∃ wo : World, wo = wr := ⟨_, rfl⟩
        have hr0 := HX.out.cell (p := ⟨w.heap.size + 1, 0, none⟩) (by simp) HC1.out.1
        have hr1 := HX.out.cell (p := ⟨w.heap.size + 1, 1, none⟩) (by simp) HC1.out.2.1
        have hf0 : wo.frozen? ⟨w.heap.size + 1, 0, none⟩ = false := (HX.out.frozen (p := ⟨w.heap.size + 1, 0, none⟩) (by simp) (by rw [HSZ0.out]; simp)).trans HC1.out.2.2.1
        have hf1 : wo.frozen? ⟨w.heap.size + 1, 1, none⟩ = false := (HX.out.frozen (p := ⟨w.heap.size + 1, 1, none⟩) (by simp) (by rw [HSZ0.out]; simp)).trans HC1.out.2.2.2
        have HXF : Sid (Ext No w wo) := ⟨HX0.out.step HX.out (fun i hi he => by omega)⟩
        by_cases hlt : k < es.length
        · obtain ⟨b, off, A', c', r, rfl, hPb, hcell0, HR', HI'⟩ := HAT.out k hlt
          have hcell := HXF.out.no hcell0
          have HI2 : Sid (IntsR .i64 P wo (.slice A' r.length c') r) := ⟨HI'.out.no HXF.out⟩
          clear hcell0 HI'
          by_cases h8 : r.length ≤ 8
          · have h8' : ¬ ((8 : Int) < (r.length : Int)) := by omega
            have HRL : Sid (r.length ≤ 1000000) := ⟨by omega⟩
            obtain ⟨Fact, hFact⟩ : ∃ Fact : Nat → Value → World → Prop, Fact = fun i u W => (i = 3 → IntsR .i64 (fun j => wo.heap.size ≤ j) W u r) ∧ (i = 4 → ∃ g, u = .slice (some ⟨g, 0, none⟩) 1 1 ∧ RowsR (fun j => wo.heap.size ≤ j) W u [r]) := ⟨_, rfl⟩
            obtain ⟨Pure, hPure⟩ : ∃ Pure : Nat → Value → Prop, Pure = fun i u => (i = 0 → u = .pointer (some ⟨w.heap.size + 1 + 1, 1, none⟩)) ∧ (i = 1 → u = v) ∧ (i = 2 → u = .slice A' r.length c') ∧ (i = 6 → u = .pointer (some ⟨w.heap.size + 1 + 1, 1, none⟩)) := ⟨_, rfl⟩
            obtain ⟨Aft, hAft⟩ : ∃ Aft : (Nat → Value) → (Nat → Bool) → World → Prop, Aft = fun s l W =>
              (l 7 = false → OwnRows (fun j => w.heap.size + 3 ≤ j) (w.heap.size + 3) W (s 5) (es.take k ++ [r]) ∧ Ext (fun j => some j = v.ownBlock) wo W) ∧
              (l 7 = true → ∃ v1, W.cell? ⟨w.heap.size + 1 + 1, 1, none⟩ = some v1 ∧ W.frozen? ⟨w.heap.size + 1 + 1, 1, none⟩ = false ∧ W.cell? ⟨w.heap.size + 1 + 1, 0, none⟩ = some (.int .i64 many) ∧ OwnRows (fun j => w.heap.size + 3 ≤ j) (w.heap.size + 3) W v1 (es.take k ++ [r]) ∧ Ext (fun j => j = w.heap.size + 1 + 1 ∨ some j = v.ownBlock) wo W) := ⟨_, rfl⟩
            have HFA := Sid.mk hFact
            have HPU := Sid.mk hPure
            have HAF := Sid.mk hAft
            have HST : Sid (∀ i u W W', Ext No W W' → Fact i u W → Fact i u W') := ⟨fun i u W W' hx hf => by
              rw [hFact] at hf ⊢
              exact ⟨fun h => (hf.1 h).no hx, fun h => by obtain ⟨g, h1, h2⟩ := hf.2 h; exact ⟨g, h1, h2.no hx⟩⟩⟩
            have HF3 : Sid (∀ u W, Fact 3 u W = IntsR .i64 (fun j => wo.heap.size ≤ j) W u r) := ⟨fun u W => by rw [hFact]; simp⟩
            have HF4 : Sid (∀ u W, Fact 4 u W = ∃ g, u = .slice (some ⟨g, 0, none⟩) 1 1 ∧ RowsR (fun j => wo.heap.size ≤ j) W u [r]) := ⟨fun u W => by rw [hFact]; simp⟩
            have HFT : Sid (∀ i u W, i ≠ 3 → i ≠ 4 → Fact i u W) := ⟨fun i u W h3 h4 => by
              rw [hFact]; exact ⟨fun h => absurd h h3, fun h => absurd h h4⟩⟩
            have HP0 : Sid (∀ u, Pure 0 u = (u = .pointer (some ⟨w.heap.size + 1 + 1, 1, none⟩))) := ⟨fun u => by rw [hPure]; simp⟩
            have HP1 : Sid (∀ u, Pure 1 u = (u = v)) := ⟨fun u => by rw [hPure]; simp⟩
            have HP2 : Sid (∀ u, Pure 2 u = (u = .slice A' r.length c')) := ⟨fun u => by rw [hPure]; simp⟩
            have HP6 : Sid (∀ u, Pure 6 u = (u = .pointer (some ⟨w.heap.size + 1 + 1, 1, none⟩))) := ⟨fun u => by rw [hPure]; simp⟩
            have HPT : Sid (∀ i u, i = 3 ∨ i = 4 ∨ i = 5 ∨ i = 7 → Pure i u) := ⟨fun i u h => by rw [hPure]; rcases h with rfl | rfl | rfl | rfl <;> simp⟩
            clear hFact hPure hAft
            go_wp2
            refine (wpIn_wide (n := 0)).1 ?_
            refine wpIn_slots (fun s => { tmps := #[.agg #[.int .i64 many, .slice (some ⟨b, off, none⟩) es.length c], .pointer (some ⟨w.heap.size, 0, none⟩), .pointer (some ⟨w.heap.size + 1, 0, none⟩), u3, .pointer (some ⟨w.heap.size + 1 + 1, 0, none⟩), undef, .slice A' r.length c', .pointer (some ⟨w.heap.size, 1, none⟩), .slice (some ⟨b, off, none⟩) es.length c, .int .i64 (es.length : Int), .bool false, .bool false, .pointer (some ⟨w.heap.size, 0, none⟩), .int .i64 many, .bool false, .bool false, undef, .pointer (some ⟨w.heap.size, 0, none⟩), .int .i64 many, .agg #[.int .i64 many, .slice none 0 0], .pointer (some ⟨w.heap.size, 1, none⟩), .slice (some ⟨b, off, none⟩) es.length c, .int .i64 (es.length : Int), .int .i64 (k : Int), .bool true, .pointer (some ⟨b, off + k, none⟩), .slice A' r.length c', .slice A' r.length c', .int .i64 (r.length : Int), .bool false, u30, s 0, s 1, s 2, s 3, s 4, s 5, s 6, u38, undef], defers := [] })
              (PhA [(1, 0), (3, 2), (4, 3), (5, 1), (5, 4), (7, 5), (7, 6)] 5 wo.drew Fact Pure Aft) (fun i => #[u31, u32, u33, u34, u35, u36, u37].getD i undef) (by kernel_rfl) (by kernel_rfl) ⟨fun _ _ => rfl, fun _ _ => rfl, fun _ _ => rfl, fun _ _ => rfl, fun _ _ => rfl, fun _ _ => rfl, fun _ _ => rfl, fun _ _ => rfl, trivial⟩ ?ha ?h0
              ⟨?s0, ?s1, ?s2, ?s3, ?s4, ?s5, ?s6, ?s7, trivial⟩ ?hend
            case ha => rfl
            case h0 => exact PhA.start
            case s0 =>
              rintro s l w' K hl hd hp hK
              have hc : l 5 = false := by
                cases h5 : l 5 with
                | false => rfl
                | true =>
                  have h1 := hp.dep 5 1 (by simp) h5
                  have h0 := hp.dep 1 0 (by simp) h1
                  rw [hl] at h0; cases h0
              have hdp : ∀ j, (0, j) ∈ [(1, 0), (3, 2), (4, 3), (5, 1), (5, 4), (7, 5), (7, 6)] → l j = true := (by intro j hj; simp at hj)
              have HP := Sid.mk (hp.step HST.out (i := 0) (v := .pointer (some ⟨w.heap.size + 1 + 1, 1, none⟩)) (by decide) hdp hc (Ext.refl _ _) (HFT.out _ _ _ (by decide) (by decide)) (by rw [HP0.out]))
              clear hp hd hdp
              gi_wp2
              exact HP.out
            case s1 =>
              rintro s l w' K hl hd hp hK
              have hc : l 5 = false := by
                cases h5 : l 5 with
                | false => rfl
                | true =>
                  have h1 := hp.dep 5 1 (by simp) h5
                  rw [hl] at h1; cases h1
              have hdp : ∀ j, (1, j) ∈ [(1, 0), (3, 2), (4, 3), (5, 1), (5, 4), (7, 5), (7, 6)] → l j = true := (by intro j hj; simp at hj; subst hj; exact hd { on := 0, ground := .data } (by simp) rfl)
              have e0 : s 0 = .pointer (some ⟨w.heap.size + 1 + 1, 1, none⟩) := by have h := hp.pur 0 (hd { on := 0, ground := .data } (by simp) rfl); rwa [HP0.out] at h
              simp only [e0] at hK
              have hcw := (hp.bef hc).1.no (p := ⟨w.heap.size + 1 + 1, 1, none⟩) hcv
              have HP := Sid.mk (hp.step HST.out (i := 1) (v := v) (by decide) hdp hc (Ext.refl _ _) (HFT.out _ _ _ (by decide) (by decide)) (by rw [HP1.out]))
              clear hp hd hdp
              gi_wp2
              exact HP.out
            case s2 =>
              rintro s l w' K hl hd hp hK
              have hc : l 5 = false := by
                cases h5 : l 5 with
                | false => rfl
                | true =>
                  have h4 := hp.dep 5 4 (by simp) h5
                  have h3 := hp.dep 4 3 (by simp) h4
                  have h2 := hp.dep 3 2 (by simp) h3
                  rw [hl] at h2; cases h2
              have hdp : ∀ j, (2, j) ∈ [(1, 0), (3, 2), (4, 3), (5, 1), (5, 4), (7, 5), (7, 6)] → l j = true := (by intro j hj; simp at hj)
              have HP := Sid.mk (hp.step HST.out (i := 2) (v := .slice A' r.length c') (by decide) hdp hc (Ext.refl _ _) (HFT.out _ _ _ (by decide) (by decide)) (by rw [HP2.out]))
              clear hp hd hdp
              gi_wp2
              exact HP.out
            case s3 =>
              rintro s l w' K hl hd hp hK
              have hc : l 5 = false := by
                cases h5 : l 5 with
                | false => rfl
                | true =>
                  have h4 := hp.dep 5 4 (by simp) h5
                  have h3 := hp.dep 4 3 (by simp) h4
                  rw [hl] at h3; cases h3
              have hdp : ∀ j, (3, j) ∈ [(1, 0), (3, 2), (4, 3), (5, 1), (5, 4), (7, 5), (7, 6)] → l j = true := (by intro j hj; simp at hj; subst hj; exact hd { on := 2, ground := .data } (by simp) rfl)
              have e2 : s 2 = .slice A' r.length c' := by have h := hp.pur 2 (hd { on := 2, ground := .data } (by simp) rfl); rwa [HP2.out] at h
              simp only [e2] at hK
              have hx := (hp.bef hc).1
              have HIW : Sid (IntsR .i64 P w' (.slice A' r.length c') r) := ⟨HI2.out.no ((Ext.refl No wo).drew.trans hx)⟩
              have HSW : Sid (wo.heap.size ≤ w'.heap.size) := ⟨by have := hx.size; simpa using this⟩
              have HPP := Sid.mk hp
              have HC := Sid.mk hc
              have HDP := Sid.mk hdp
              clear hp hd hx hc hdp
              gi_wp2_with (refine ⟨trivial, rfl, ?_⟩; gi_at_call 10; refine (callsIn_wide.2 (Clone_any _ r _ HIW.out HRL.out)).mono ?_; rintro e w2 ⟨v2, rfl, hr2, hx2⟩; have HR2 := Sid.mk hr2; have HX2 := Sid.mk hx2; clear hr2 hx2)
              exact HPP.out.step HST.out (i := 3) (by decide) HDP.out HC.out HX2.out (by rw [HF3.out]; exact HR2.out.imp (fun j _ hj => by have := HSW.out; omega)) (HPT.out _ _ (by simp))
            case s4 =>
              rintro s l w' K hl hd hp hK
              have hc : l 5 = false := by
                cases h5 : l 5 with
                | false => rfl
                | true =>
                  have h4 := hp.dep 5 4 (by simp) h5
                  rw [hl] at h4; cases h4
              have hdp : ∀ j, (4, j) ∈ [(1, 0), (3, 2), (4, 3), (5, 1), (5, 4), (7, 5), (7, 6)] → l j = true := (by intro j hj; simp at hj; subst hj; exact hd { on := 3, ground := .data } (by simp) rfl)
              have hl3 := hd { on := 3, ground := .data } (by simp) rfl
              have hf3 := (hp.bef hc).2 3 hl3
              rw [HF3.out] at hf3
              obtain ⟨A3, c3, e3, _⟩ := hf3.at
              rw [e3] at hf3
              simp only [e3] at hK
              have HF := Sid.mk hf3
              have HSW : Sid (wo.heap.size ≤ w'.heap.size) := ⟨by have := (hp.bef hc).1.size; simpa using this⟩
              have HPP := Sid.mk hp
              have HC := Sid.mk hc
              have HDP := Sid.mk hdp
              clear hp hd hc hdp hf3
              gi_wp2
              exact HPP.out.step HST.out (i := 4) (by decide) HDP.out HC.out (ext_box _) (by
                rw [HF4.out]
                refine ⟨_, rfl, (Own.lit1 w' w'.heap.size 28 (.slice A3 r.length c3) (Nat.le_refl _)).rows (xss := [r]) (by simp) (fun j hj => by simp [Value.ownBlock] at hj; have := HSW.out; omega) (fun j u xs hu hxs => ?_)⟩
                rcases j with _ | j
                · simp at hu hxs; subst hu; subst hxs; exact HF.out.no (ext_box _)
                · simp at hu) (HPT.out _ _ (by simp))
            case s5 =>
              rintro s l w' K hl hd hp hK
              have hdp : ∀ j, (5, j) ∈ [(1, 0), (3, 2), (4, 3), (5, 1), (5, 4), (7, 5), (7, 6)] → l j = true := (by intro j hj; simp at hj; rcases hj with rfl | rfl; all_goals (first | exact hd { on := 1, ground := .data } (by simp) rfl | exact hd { on := 4, ground := .data } (by simp) rfl))
              have e1 : s 1 = v := by have h := hp.pur 1 (hd { on := 1, ground := .data } (by simp) rfl); rwa [HP1.out] at h
              have hl4 := hd { on := 4, ground := .data } (by simp) rfl
              obtain ⟨hx, hfs⟩ := hp.bef hl
              have hf4 := hfs 4 hl4
              rw [HF4.out] at hf4
              obtain ⟨g, e4, hr4⟩ := hf4
              rw [e4] at hr4
              have hxw : Ext No wo w' := (Ext.refl No wo).drew.trans hx
              refine appRowIn (P := fun j => w.heap.size + 3 ≤ j) (w.heap.size + 3) (.tmp 32) (.tmp 35) 22 rfl Tryd.underlying22 info28 v (es.take k) r e1 ⟨g, 0, none⟩ 1 e4 (HO.out.no hxw) (hr4.imp (fun j _ hj => ⟨by have := HX.out.size; have := HSZ0.out; omega, fun he => by have := (HO.out.ge j he.symm).2; omega⟩)) (by have := hxw.size; have := HX.out.size; have := HSZ0.out; omega) (by rw [List.length_take]; omega) ?_
              intro v1 w1 ho1 hx1 hb1 hs1
              refine hK v1 w1 (hp.after hdp setL_eq (HPT.out _ _ (by simp)) ?_)
              rw [HAF.out]
              refine ⟨fun _ => ⟨by rw [setS_eq]; exact ho1, (hxw.mono (Y := fun j => some j = v.ownBlock) (fun _ h => h.elim)).trans hx1⟩, fun h7 => ?_⟩
              rw [setL_ne (by decide)] at h7
              have := hp.dep 7 5 (by simp) h7
              rw [hl] at this; cases this
            case s6 =>
              rintro s l w' K hl hd hp hK
              have hdp : ∀ j, (6, j) ∈ [(1, 0), (3, 2), (4, 3), (5, 1), (5, 4), (7, 5), (7, 6)] → l j = true := (by intro j hj; simp at hj)
              have HP := Sid.mk (hp.pure (i := 6) (v := .pointer (some ⟨w.heap.size + 1 + 1, 1, none⟩)) (by decide) hdp (fun _ => HFT.out _ _ _ (by decide) (by decide)) (by rw [HP6.out]) (fun h => by
                rw [HAF.out] at h ⊢
                refine ⟨?_, ?_⟩
                · rw [setL_ne (by omega), setS_ne (by omega)]; exact h.1
                · rw [setL_ne (by omega)]; exact h.2))
              clear hp hd hdp
              gi_wp2
              exact HP.out
            case s7 =>
              rintro s l w' K hl hd hp hK
              have hdp : ∀ j, (7, j) ∈ [(1, 0), (3, 2), (4, 3), (5, 1), (5, 4), (7, 5), (7, 6)] → l j = true := (by intro j hj; simp at hj; rcases hj with rfl | rfl; all_goals (first | exact hd { on := 5, ground := .data } (by simp) rfl | exact hd { on := 6, ground := .data } (by simp) rfl))
              have e6 : s 6 = .pointer (some ⟨w.heap.size + 1 + 1, 1, none⟩) := by have h := hp.pur 6 (hd { on := 6, ground := .data } (by simp) rfl); rwa [HP6.out] at h
              have hl5 := hd { on := 5, ground := .data } (by simp) rfl
              have ha := hp.aft hl5
              rw [HAF.out] at ha
              obtain ⟨ho1, hx1⟩ := ha.1 hl
              obtain ⟨A5, c5, e5⟩ := ho1.slice
              have hlen : (es.take k ++ [r]).length = k + 1 := by rw [List.length_append, List.length_take]; simp; omega
              rw [hlen] at e5
              have hne : ¬ some (w.heap.size + 1 + 1) = v.ownBlock := fun he => by have := (HO.out.ge _ he.symm).1; omega
              have hcw := hx1.cell (p := ⟨w.heap.size + 1 + 1, 1, none⟩) hne hcv
              have hfw : w'.frozen? ⟨w.heap.size + 1 + 1, 1, none⟩ = false := (hx1.frozen (p := ⟨w.heap.size + 1 + 1, 1, none⟩) hne (World.block_lt_of_cell? wo _ hcv)).trans hfv
              have hcm := hx1.cell (p := ⟨w.heap.size + 1 + 1, 0, none⟩) hne HCM.out
              obtain ⟨v5, hv5⟩ : ∃ v5, s 5 = v5 := ⟨_, rfl⟩
              rw [hv5] at ho1 e5
              simp only [e6, hv5] at hK
              have HPP := Sid.mk hp
              have HO1 := Sid.mk ho1
              have HX1 := Sid.mk hx1
              have HDP := Sid.mk hdp
              have HCW := Sid.mk hcw
              have HFW := Sid.mk hfw
              have HCM2 := Sid.mk hcm
              clear hp hd hdp ho1 hx1 hcm ha
              subst e5
              have hxs : Ext (fun j => j = w.heap.size + 1 + 1) w' (w'.setCell ⟨w.heap.size + 1 + 1, 1, none⟩ (.slice A5 (k + 1) c5)) := (Ext.refl (fun j => j = w.heap.size + 1 + 1) w').setCell (p := ⟨w.heap.size + 1 + 1, 1, none⟩) (Or.inl rfl) _
              have HXS := Sid.mk hxs
              clear hxs
              gi_wp2
              refine hK undef _ ?_
              refine HPP.out.after HDP.out (by rw [setL_ne (by decide)]; exact hl5) (HPT.out _ _ (by simp)) ?_
              rw [HAF.out]
              refine ⟨fun h7 => (by rw [setL_eq] at h7; cases h7), fun _ => ⟨.slice A5 (k + 1) c5, World.cell?_setCell_same' _ _ _ (by rw [HCW.out]; rfl), by simp [HFW.out], ?_, HO1.out.ext HXS.out (fun j hj he => by have := (HO1.out.ge j hj).1; omega) (fun j hj he => by omega), ?_⟩⟩
              · have hcm2 := HCM2.out; have hcw2 := HCW.out; simp [go_sem, hcm2, hcw2]
              · exact (HX1.out.mono (fun _ h => Or.inr h)).trans (HXS.out.mono (fun _ h => Or.inl h))
            case hend =>
              rintro s l w' hl hp
              have ha := hp.aft (hl 5 (by decide))
              rw [HAF.out] at ha
              obtain ⟨v1, hc1, hf1', hcm1, ho1, hx1⟩ := ha.2 (hl 7 (by decide))
              have HO1 := Sid.mk ho1
              have HX1 := Sid.mk hx1
              have HCM1 := Sid.mk hcm1
              clear hp ho1 hx1 hcm1 ha hl
              dsimp only
              go_wp2
              go_roundw
              case rel => exact ⟨k + 1, v1, by omega, by go_num, ⟨fun j e hj he => by
                by_cases hjk : j = k
                · subst hjk; rw [HR'.out] at he; cases he; exact h8
                · exact HL.out j e (by omega) he⟩, hc1, hf1', HCM1, ⟨by rw [take_succ_of HR'.out]; exact HO1.out⟩, ⟨HX.out.step HX1.out (fun i hi he => by
                  rcases he with he | he
                  · exact he
                  · have := (HO.out.ge i he.symm).1; have := HSZ0.out; omega)⟩⟩
              case measure => simp [intOf]; omega
          · have h8' : ((8 : Int) < (r.length : Int)) := by omega
            have HA : Sid (ownB many es = false) := ⟨HNO.out k r HR'.out h8⟩
            go_wp2
            refine bodyPost_ret (v := .tuple #[.agg #[.int .i64 0, .slice none 0 0], .bool false]) (by simp [results, Tryd.results9, go_sem, hr0, hr1]) rfl (OwnPost.no HA.out ?_)
            exact HXF.out.step (((Ext.refl (fun j => j = w.heap.size + 1) wo).setCell (p := ⟨w.heap.size + 1, 0, none⟩) (Or.inl rfl) _).setCell (p := ⟨w.heap.size + 1, 1, none⟩) (Or.inl rfl) _) (fun i hi he => by omega)
        · obtain rfl : k = es.length := by omega
          have hcm := HCM.out
          have HA : Sid (ownB many es = true) := ⟨HOK.out (fun e he => by
            obtain ⟨j, hj⟩ := List.mem_iff_getElem?.1 he
            exact HL.out j e (List.getElem?_eq_some_iff.1 hj).1 hj)⟩
          have HO2 : Sid (OwnRows (fun j => w.heap.size + 3 ≤ j) (w.heap.size + 3) wo v es) := ⟨by have := HO.out; rwa [List.take_length] at this⟩
          obtain ⟨Av, cv, rfl⟩ := HO2.out.slice
          go_wp2
          obtain ⟨v9, hv9⟩ : ∃ v9 : Value, Value.slice Av es.length cv = v9 := ⟨_, rfl⟩
          obtain ⟨W9, hW9⟩ : ∃ W9, W9 = ((wo.setCell ⟨w.heap.size + 1, 0, none⟩ (.int .i64 many)).setCell ⟨w.heap.size + 1, 1, none⟩ (.slice Av es.length cv)) := ⟨_, rfl⟩
          have hx9 : Ext (fun j => j = w.heap.size + 1) wo W9 := by rw [hW9]; exact (((Ext.refl (fun j => j = w.heap.size + 1) wo).setCell (p := ⟨w.heap.size + 1, 0, none⟩) (Or.inl rfl) _).setCell (p := ⟨w.heap.size + 1, 1, none⟩) (Or.inl rfl) _)
          have g0 : W9.cell? ⟨w.heap.size + 1, 0, none⟩ = some (.int .i64 many) := by rw [hW9]; simp [go_sem, hr0, hr1, hf0, hf1]
          have g1 : W9.cell? ⟨w.heap.size + 1, 1, none⟩ = some (.slice Av es.length cv) := by rw [hW9]; simp [go_sem, hr0, hr1, hf0, hf1]
          rw [← hW9]
          refine bodyPost_ret (v := .tuple #[.agg #[.int .i64 many, .slice Av es.length cv], .bool true]) (by simp [results, Tryd.results9, go_sem, g0, g1]) rfl (OwnPost.yes HA.out (HXF.out.step hx9 (fun i hi he => by omega)) ?_)
          exact ((HO2.out.ext hx9 (fun j hj he => by have := (HO2.out.ge j hj).1; omega) (fun j hj he => by omega)).rows (by omega) (fun j hj => by have := (HO2.out.ge j hj).1; omega) (fun j hj => by omega))
    · have HA : Sid (ownB many es = false) := ⟨by simp [ownB, h6]⟩
      have h7' : ¬ ((7 : Int) < (es.length : Int)) := by omega
      have h6' : ((6 : Int) < many) := by omega
      go_enter Tryd.func9, Tryd.ntmps9
      go_wp2
      exact bodyPost_ret (v := .tuple #[.agg #[.int .i64 0, .slice none 0 0], .bool false]) (by simp [results, Tryd.results9, go_sem]) rfl (OwnPost.no HA.out (((Ext.refl No w).alloc _).alloc _))
  · have HA : Sid (ownB many es = false) := ⟨by simp [ownB, h7]⟩
    have h7' : ((7 : Int) < (es.length : Int)) := by omega
    go_enter Tryd.func9, Tryd.ntmps9
    go_wp2
    exact bodyPost_ret (v := .tuple #[.agg #[.int .i64 0, .slice none 0 0], .bool false]) (by simp [results, Tryd.results9, go_sem]) rfl (OwnPost.no HA.out (((Ext.refl No w).alloc _).alloc _))
end Go.Proofs.YtceiaekkfabeaaaDoor

namespace Go.Proofs.YtceiaekkfabeaaaDoor
open Go.RowKit Pl

set_option maxHeartbeats 800000 in
theorem tops_any {P : Nat → Prop} (v : Value) (bs : List Bag) (x : Int) (w : World) (hv : BagsR P w v bs) (hp : ∀ b ∈ bs, b.parent < bs.length) :
    Calls Tryd.prog 47 #[v, .int .i64 x] w fun e w' => e = .returned (.int .i64 (topsN bs x bs)) ∧ Ext No w w' := by
  obtain ⟨A, c, rfl, hc, hm, hat⟩ := hv.at
  have HAT := Sid.mk hat
  have HV := Sid.mk hv
  have HP := Sid.mk hp
  clear hat hv hp
  go_enter Tryd.func47, Tryd.ntmps47
  go_wp2
  go_loopw [5, 10] (fun m i wr => ∃ (k : Nat) (t : Int), k ≤ bs.length ∧ i = .int .i64 k ∧ m = .int .i64 t ∧ 0 ≤ t ∧ t ≤ k ∧ Sid (t = topsN bs x (bs.take k)) ∧ Sid (Ext No w wr)) (fun _ i _ => bs.length - (intOf i).toNat)
  case atStart => exact ⟨0, 0, Nat.zero_le _, rfl, rfl, by omega, by omega, ⟨by simp [topsN]⟩, ⟨Ext.refl _ _⟩⟩
  case round =>
    obtain ⟨k, t, hk, rfl, rfl, ht0, htk, HT, HX⟩ := hrel
    by_cases hlt : k < bs.length
    · obtain ⟨b, off, A1, c1, A2, c2, vs, es, p, rfl, _, e0, e1, e2, HB, H1, H2⟩ := HAT.out k hlt
      replace e0 := HX.out.no e0
      replace e1 := HX.out.no e1
      replace e2 := HX.out.no e2
      have hpl : p < bs.length := HP.out _ (List.mem_of_getElem? HB.out)
      cases hb : hasB vs x with
      | false =>
        have HH := Sid.mk hb
        clear hb
        go_wp2_with (go_at_call 40; refine (has_any _ vs _ _ (H1.out.no (HX.out.alloc _))).mono ?_; rintro e w' ⟨rfl, rfl⟩; rw [HH.out])
        go_roundw
        case rel => exact ⟨k+1, t, by omega, by go_num, rfl, by omega, by omega, ⟨by rw [topsN_no HB.out (by simp [topB, HH.out])]; exact HT.out⟩, ⟨HX.out.alloc _⟩⟩
        case measure => simp [intOf]; omega
      | true =>
        have HH := Sid.mk hb
        clear hb
        by_cases hp0 : p < 0
        · go_wp2_with (go_at_call 40; refine (has_any _ vs _ _ (H1.out.no (HX.out.alloc _))).mono ?_; rintro e w' ⟨rfl, rfl⟩; rw [HH.out])
          go_roundw
          case rel => exact ⟨k+1, t+1, by omega, by go_num, by go_num, by omega, by omega, ⟨by rw [topsN_yes HB.out (by simp [topB, HH.out, hp0]), ← HT.out]⟩, ⟨HX.out.alloc _⟩⟩
          case measure => simp [intOf]; omega
        · obtain ⟨q, rfl⟩ := Int.eq_ofNat_of_zero_le (show 0 ≤ p by omega)
          obtain ⟨b', off', A1', c1', A2', c2', vs', es', p', hb', _, e0', _, _, HB', H1', _⟩ := HAT.out q (by omega)
          cases hb'
          replace e0' := fun o => (HX.out.alloc o).no e0'
          cases hb : hasB vs' x with
          | false =>
            have HH' := Sid.mk hb
            clear hb
            go_wp2_with (go_at_call 40; first | (with_reducible refine (has_any _ vs _ _ (H1.out.no (HX.out.alloc _))).mono ?_; rintro e w' ⟨rfl, rfl⟩; rw [HH.out]) | (refine (has_any _ vs' _ _ (H1'.out.no (HX.out.alloc _))).mono ?_; rintro e w' ⟨rfl, rfl⟩; rw [HH'.out]))
            go_roundw
            case rel => exact ⟨k+1, t+1, by omega, by go_num, by go_num, by omega, by omega, ⟨by rw [topsN_yes HB.out (by simp [topB, HH.out, HB'.out, HH'.out]), ← HT.out]⟩, ⟨HX.out.alloc _⟩⟩
            case measure => simp [intOf]; omega
          | true =>
            have HH' := Sid.mk hb
            clear hb
            go_wp2_with (go_at_call 40; first | (with_reducible refine (has_any _ vs _ _ (H1.out.no (HX.out.alloc _))).mono ?_; rintro e w' ⟨rfl, rfl⟩; rw [HH.out]) | (refine (has_any _ vs' _ _ (H1'.out.no (HX.out.alloc _))).mono ?_; rintro e w' ⟨rfl, rfl⟩; rw [HH'.out]))
            go_roundw
            case rel => exact ⟨k+1, t, by omega, by go_num, rfl, by omega, by omega, ⟨by rw [topsN_no HB.out (by simp [topB, HH.out, HB'.out, HH'.out])]; exact HT.out⟩, ⟨HX.out.alloc _⟩⟩
            case measure => simp [intOf]; omega
    · go_wp2
      go_ret
      exact ⟨ret_int (by rw [HT.out, List.take_of_length_le (by omega)]), HX.out⟩

theorem vertsTo {f : Int → Bool} {many : Int} {k : Nat} (hs : allB f ((vertsL many).take k) = true) (h : ¬ (k : Int) < many) : allB f (vertsL many) = true :=
  allB_all (by rw [vertsL_len]; omega) hs

set_option maxHeartbeats 2000000 in
theorem Right21_any {P P1 : Nat → Prop} (many : Int) (ev bv : Value) (es : List (List Int)) (bs : List Bag) (w : World) (he : RowsR P w ev es) (hv : BagsR P1 w bv bs) (hm1 : many ≤ 1000) :
    Calls Tryd.prog 20 #[.agg #[.int .i64 many, ev], bv] w fun e w' => e = .returned (.bool (rightB many es bs)) ∧ Ext No w w' := by
  obtain ⟨A, c, rfl, hc, hm, hat⟩ := hv.at
  obtain ⟨Ae, ce, rfl, hce, hme, hate⟩ := he.at
  have HAT := Sid.mk hat
  have HV := Sid.mk hv
  have HE := Sid.mk hate
  have HEV := Sid.mk he
  clear hat hv hate he
  by_cases h64 : 64 < bs.length
  · go_enter Tryd.func20, Tryd.ntmps20
    go_wp2
    go_ret
    exact ⟨ret_bool (by simp [rightB]; omega), ext_box _⟩
  have hh : rightB many es bs = (allI (fun i b => bagFormB many es.length i b && coversB es b.es b.vs) 0 bs && allB (fun e => anyB (fun b => withinB e b.vs) bs) es && allB (fun v => decide (topsN bs v bs = 1)) (vertsL many)) := by
    simp [rightB, show bs.length ≤ 64 by omega]
  rw [hh]
  clear hh
  go_enter Tryd.func20, Tryd.ntmps20
  go_wp2
  go_loopw [18] (fun i wr => ∃ (k : Nat), k ≤ bs.length ∧ i = .int .i64 k ∧ Sid (∀ i b, i < k → bs[i]? = some b → (bagFormB many es.length i b && coversB es b.es b.vs) = true) ∧ Sid (Ext No w wr) ∧ wr.cell? ⟨w.heap.size, 0, none⟩ = some (.int .i64 many) ∧ wr.cell? ⟨w.heap.size, 1, none⟩ = some (.slice Ae es.length ce)) (fun i _ => bs.length - (intOf i).toNat)
  case atStart => exact ⟨0, Nat.zero_le _, rfl, ⟨by omega⟩, ⟨ext_box _⟩, by simp, by simp⟩
  case round =>
    obtain ⟨k, hk, rfl, HS, HX, hb0, hb1⟩ := hrel
    by_cases hlt : k < bs.length
    · obtain ⟨b, off, A1, c1, A2, c2, vs, es', p, rfl, _, e0, e1, e2, HB, H1, H2⟩ := HAT.out k hlt
      replace e0 := HX.out.no e0
      replace e1 := HX.out.no e1
      replace e2 := HX.out.no e2
      have hb0a := fun o => (ext_box (w := wr) o).no hb0
      have hb1a := fun o => (ext_box (w := wr) o).no hb1
      cases hg1 : risesB vs many with
      | false =>
        have G1 := Sid.mk hg1
        clear hg1
        go_wp2_with (first | (go_at_call 13; first | (with_reducible refine (Rises_any _ vs _ _ (H1.out.no (HX.out.alloc _))).mono ?_; rintro e w' ⟨rfl, rfl⟩; rw [G1.out]) | (refine (Rises_any _ es' _ _ (H2.out.no (HX.out.alloc _))).mono ?_; rintro e w' ⟨rfl, rfl⟩; rw [G2.out])) | (go_at_call 38; refine (covers_any many _ _ _ es es' vs _ (HEV.out.no (HX.out.alloc _)) (H2.out.no (HX.out.alloc _)) (H1.out.no (HX.out.alloc _)) (inB_of_rises G2.out)).mono ?_; rintro e w' ⟨rfl, hx⟩; rw [G3.out]; have HC := Sid.mk hx; clear hx))
        go_ret
        exact ⟨ret_bool (by rw [allI_false HB.out (by simp [bagFormB, G1.out])]; rfl), HX.out.alloc _⟩
      | true =>
      have G1 := Sid.mk hg1
      clear hg1
      cases hg2 : risesB es' (es.length : Int) with
      | false =>
        have G2 := Sid.mk hg2
        clear hg2
        go_wp2_with (first | (go_at_call 13; first | (with_reducible refine (Rises_any _ vs _ _ (H1.out.no (HX.out.alloc _))).mono ?_; rintro e w' ⟨rfl, rfl⟩; rw [G1.out]) | (refine (Rises_any _ es' _ _ (H2.out.no (HX.out.alloc _))).mono ?_; rintro e w' ⟨rfl, rfl⟩; rw [G2.out])) | (go_at_call 38; refine (covers_any many _ _ _ es es' vs _ (HEV.out.no (HX.out.alloc _)) (H2.out.no (HX.out.alloc _)) (H1.out.no (HX.out.alloc _)) (inB_of_rises G2.out)).mono ?_; rintro e w' ⟨rfl, hx⟩; rw [G3.out]; have HC := Sid.mk hx; clear hx))
        go_ret
        exact ⟨ret_bool (by rw [allI_false HB.out (by simp [bagFormB, G2.out])]; rfl), HX.out.alloc _⟩
      | true =>
      have G2 := Sid.mk hg2
      clear hg2
      by_cases hp1 : p < -1
      · have hp1' := hp1
        go_wp2_with (first | (go_at_call 13; first | (with_reducible refine (Rises_any _ vs _ _ (H1.out.no (HX.out.alloc _))).mono ?_; rintro e w' ⟨rfl, rfl⟩; rw [G1.out]) | (refine (Rises_any _ es' _ _ (H2.out.no (HX.out.alloc _))).mono ?_; rintro e w' ⟨rfl, rfl⟩; rw [G2.out])) | (go_at_call 38; refine (covers_any many _ _ _ es es' vs _ (HEV.out.no (HX.out.alloc _)) (H2.out.no (HX.out.alloc _)) (H1.out.no (HX.out.alloc _)) (inB_of_rises G2.out)).mono ?_; rintro e w' ⟨rfl, hx⟩; rw [G3.out]; have HC := Sid.mk hx; clear hx))
        go_ret
        exact ⟨ret_bool (by rw [allI_false HB.out (by simp [bagFormB]; omega)]; rfl), HX.out.alloc _⟩
      by_cases hp2 : (k : Int) ≤ p
      · have hp2' := hp2
        go_wp2_with (first | (go_at_call 13; first | (with_reducible refine (Rises_any _ vs _ _ (H1.out.no (HX.out.alloc _))).mono ?_; rintro e w' ⟨rfl, rfl⟩; rw [G1.out]) | (refine (Rises_any _ es' _ _ (H2.out.no (HX.out.alloc _))).mono ?_; rintro e w' ⟨rfl, rfl⟩; rw [G2.out])) | (go_at_call 38; refine (covers_any many _ _ _ es es' vs _ (HEV.out.no (HX.out.alloc _)) (H2.out.no (HX.out.alloc _)) (H1.out.no (HX.out.alloc _)) (inB_of_rises G2.out)).mono ?_; rintro e w' ⟨rfl, hx⟩; rw [G3.out]; have HC := Sid.mk hx; clear hx))
        go_ret
        exact ⟨ret_bool (by rw [allI_false HB.out (by simp [bagFormB]; omega)]; rfl), HX.out.alloc _⟩
      cases hg3 : coversB es es' vs with
      | false =>
        have G3 := Sid.mk hg3
        clear hg3
        go_wp2_with (first | (go_at_call 13; first | (with_reducible refine (Rises_any _ vs _ _ (H1.out.no (HX.out.alloc _))).mono ?_; rintro e w' ⟨rfl, rfl⟩; rw [G1.out]) | (refine (Rises_any _ es' _ _ (H2.out.no (HX.out.alloc _))).mono ?_; rintro e w' ⟨rfl, rfl⟩; rw [G2.out])) | (go_at_call 38; refine (covers_any many _ _ _ es es' vs _ (HEV.out.no (HX.out.alloc _)) (H2.out.no (HX.out.alloc _)) (H1.out.no (HX.out.alloc _)) (inB_of_rises G2.out)).mono ?_; rintro e w' ⟨rfl, hx⟩; rw [G3.out]; have HC := Sid.mk hx; clear hx))
        go_ret
        exact ⟨ret_bool (by rw [allI_false HB.out (by simp [G3.out])]; rfl), (HX.out.alloc _).trans HC.out⟩
      | true =>
        have G3 := Sid.mk hg3
        clear hg3
        go_wp2_with (first | (go_at_call 13; first | (with_reducible refine (Rises_any _ vs _ _ (H1.out.no (HX.out.alloc _))).mono ?_; rintro e w' ⟨rfl, rfl⟩; rw [G1.out]) | (refine (Rises_any _ es' _ _ (H2.out.no (HX.out.alloc _))).mono ?_; rintro e w' ⟨rfl, rfl⟩; rw [G2.out])) | (go_at_call 38; refine (covers_any many _ _ _ es es' vs _ (HEV.out.no (HX.out.alloc _)) (H2.out.no (HX.out.alloc _)) (H1.out.no (HX.out.alloc _)) (inB_of_rises G2.out)).mono ?_; rintro e w' ⟨rfl, hx⟩; rw [G3.out]; have HC := Sid.mk hx; clear hx))
        go_roundw
        case rel => exact ⟨k+1, by omega, by go_num, ⟨fun i b hi hbi => by
              by_cases hik : i < k
              · exact HS.out i b hik hbi
              · obtain rfl : i = k := by omega
                rw [HB.out] at hbi; cases hbi
                simp [bagFormB, G1.out, G2.out, G3.out]; omega⟩, ⟨(HX.out.alloc _).trans HC.out⟩, HC.out.no ((ext_box _).no hb0), HC.out.no ((ext_box _).no hb1)⟩
        case measure => simp [intOf]; omega
    · have GA := Sid.mk (allI_of (f := fun i b => bagFormB many es.length i b && coversB es b.es b.vs) hlt HS.out)
      have HP : Sid (∀ b ∈ bs, b.parent < bs.length) := ⟨fun b hb => by
        obtain ⟨i, hi⟩ := List.mem_iff_getElem?.1 hb
        have h1 := allI_iff.1 GA.out i b hi
        have h2 := (List.getElem?_eq_some_iff.1 hi).1
        simp [bagFormB] at h1; omega⟩
      clear HS
      go_wp2
      go_loopw [62] (fun i wr => ∃ (k : Nat), k ≤ es.length ∧ i = .int .i64 k ∧ Sid (allB (fun e => anyB (fun b => withinB e b.vs) bs) (es.take k) = true) ∧ Sid (Ext No w wr) ∧ wr.cell? ⟨w.heap.size, 0, none⟩ = some (.int .i64 many)) (fun i _ => es.length - (intOf i).toNat)
      case atStart => exact ⟨0, Nat.zero_le _, rfl, ⟨by simp [allB]⟩, HX, hb0⟩
      case round =>
        clear hb0 hb1 HX
        obtain ⟨k, hk, rfl, HS, HX, hb0⟩ := hrel
        by_cases hlt : k < es.length
        · obtain ⟨be, offe, A', c', r, rfl, _, hcelle, HR', HI'⟩ := HE.out k hlt
          replace hcelle := HX.out.no hcelle
          go_wp2
          go_loopw [9, 68] (fun h i wr => ∃ (j : Nat), j ≤ bs.length ∧ i = .int .i64 j ∧ h = .bool (anyB (fun b => withinB r b.vs) (bs.take j)) ∧ Sid (Ext No w wr) ∧ wr.cell? ⟨w.heap.size, 0, none⟩ = some (.int .i64 many)) (fun _ i _ => bs.length - (intOf i).toNat)
          case atStart => exact ⟨0, Nat.zero_le _, rfl, by simp [anyB], HX, hb0⟩
          case round =>
            clear hb0 HX hcelle
            obtain ⟨j, hj, rfl, rfl, HX, hb0⟩ := hrel
            by_cases hjt : j < bs.length
            · obtain ⟨b, off, A1, c1, A2, c2, vs, es', p, rfl, _, e0, e1, e2, HB, H1, H2⟩ := HAT.out j hjt
              replace e0 := HX.out.no e0
              replace e1 := HX.out.no e1
              replace e2 := HX.out.no e2
              cases hb : anyB (fun b => withinB r b.vs) (bs.take j) with
              | true =>
                have HH := Sid.mk hb
                clear hb
                go_wp2
                go_roundw
                case rel => exact ⟨j+1, by omega, by go_num, by rw [anyB_succ HB.out, HH.out]; rfl, ⟨HX.out.alloc _⟩, (ext_box _).no hb0⟩
                case measure => simp [intOf]; omega
              | false =>
                have HH := Sid.mk hb
                clear hb
                go_wp2_with (go_at_call 46; refine (within_any _ _ r vs _ (HI'.out.no (HX.out.alloc _)) (H1.out.no (HX.out.alloc _))).mono ?_; rintro e w' ⟨rfl, rfl⟩)
                go_roundw
                case rel => exact ⟨j+1, by omega, by go_num, by rw [anyB_succ HB.out, HH.out]; rfl, ⟨HX.out.alloc _⟩, (ext_box _).no hb0⟩
                case measure => simp [intOf]; omega
            · cases hb : anyB (fun b => withinB r b.vs) (bs.take j) with
              | true =>
                have HH := Sid.mk hb
                clear hb
                go_wp2
                go_roundw
                case rel => exact ⟨k+1, by omega, by go_num, ⟨allB_succ HS.out HR'.out (by have := HH.out; rwa [List.take_of_length_le (by omega)] at this)⟩, HX, hb0⟩
                case measure => simp [intOf]; omega
              | false =>
                have HH := Sid.mk hb
                clear hb
                go_wp2
                go_ret
                exact ⟨ret_bool (by rw [GA.out, allB_false HR'.out (by have := HH.out; rwa [List.take_of_length_le (by omega)] at this)]; rfl), HX.out⟩
        · have GB := Sid.mk (allB_all hlt HS.out)
          clear HS
          go_wp2
          go_loopw [85] (fun i wr => ∃ (k : Nat), (k : Int) ≤ max 0 many ∧ i = .int .i64 k ∧ Sid (allB (fun v => decide (topsN bs v bs = 1)) ((vertsL many).take k) = true) ∧ Sid (Ext No w wr)) (fun i _ => many.toNat - (intOf i).toNat)
          case atStart => exact ⟨0, by omega, rfl, ⟨by simp [allB]⟩, HX⟩
          case round =>
            clear hb0 HX
            obtain ⟨k, hk, rfl, HS, HX⟩ := hrel
            by_cases hlt : (k : Int) < many
            · have HVk := Sid.mk (vertsL_at hlt)
              obtain ⟨t, ht⟩ : ∃ t, topsN bs (k : Int) bs = t := ⟨_, rfl⟩
              have HT := Sid.mk ht
              clear ht
              by_cases ht1 : t = 1
              · subst ht1
                go_wp2_with (go_at_call 47; refine (tops_any _ bs _ _ (HV.out.no HX.out) HP.out).mono ?_; rintro e w' ⟨rfl, hx⟩; rw [HT.out]; have HC := Sid.mk hx; clear hx)
                go_roundw
                case rel => exact ⟨k+1, by omega, by go_num, ⟨allB_succ HS.out HVk.out (by simp [HT.out])⟩, ⟨HX.out.trans HC.out⟩⟩
                case measure => simp [intOf]; omega
              · go_wp2_with (go_at_call 47; refine (tops_any _ bs _ _ (HV.out.no HX.out) HP.out).mono ?_; rintro e w' ⟨rfl, hx⟩; rw [HT.out]; have HC := Sid.mk hx; clear hx)
                go_ret
                exact ⟨ret_bool (by rw [GA.out, GB.out, allB_false HVk.out (by simp [HT.out, ht1])]; rfl), HX.out.trans HC.out⟩
            · go_wp2
              go_ret
              exact ⟨ret_bool (by rw [GA.out, GB.out, vertsTo HS.out (by omega)]; rfl), HX.out⟩
end Go.Proofs.YtceiaekkfabeaaaDoor
