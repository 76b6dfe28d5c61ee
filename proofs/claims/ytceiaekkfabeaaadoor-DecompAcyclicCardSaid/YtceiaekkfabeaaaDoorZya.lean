/- Words and contracts for: DecompAcyclic: for every hypergraph the law answers true, and its arguments read as before. No condition; the library's table math/bits.deBruijn64tab is laid by its text. -/
import Derived.Test.YtceiaekkfabeaaaDoorProg
import Derived.WalkKit
import Derived.WalkSpells
import Derived.WalkLawsBesides
import Derived.Deep.LoopGhost
import Derived.Deep.QuietTactic
import Derived.BigQuiet
import Derived.Deep.DeepCutAuto
import Derived.Maps.AppendAt
import Derived.Maps.OwnSet
/- Words for the walks over decomp: rows of numbers, rows of rows and bags that are read, told with the blocks they lie in; and what a call keeps. -/
namespace Go.Proofs.YtceiaekkfabeaaaDoor
open Go.RowKit

/-- A fact that the walk's simp doesn't look into. -/
structure Sid (p : Prop) : Prop where mk :: (out : p)

/-- What a call keeps: all blocks but those of X. -/
structure Ext (X : Nat → Prop) (w w' : World) : Prop where
  os : w'.os = w.os
  tape : w'.tape = w.tape
  output : w'.output = w.output
  size : w.heap.size ≤ w'.heap.size
  block : ∀ k, k < w.heap.size → ¬ X k → w'.heap[k]? = w.heap[k]?
def No : Nat → Prop := fun _ => False
theorem Ext.refl (X : Nat → Prop) (w : World) : Ext X w w := ⟨rfl, rfl, rfl, Nat.le_refl _, fun _ _ _ => rfl⟩
theorem Ext.trans {X : Nat → Prop} {a b c : World} (h : Ext X a b) (k : Ext X b c) : Ext X a c :=
  ⟨k.os.trans h.os, k.tape.trans h.tape, k.output.trans h.output, Nat.le_trans h.size k.size, fun i hi hx => (k.block i (Nat.lt_of_lt_of_le hi h.size) hx).trans (h.block i hi hx)⟩
theorem Ext.mono {X Y : Nat → Prop} {a b : World} (h : Ext X a b) (hx : ∀ k, X k → Y k) : Ext Y a b :=
  ⟨h.os, h.tape, h.output, h.size, fun i hi hy => h.block i hi (fun hh => hy (hx i hh))⟩
/-- What turns is X, or is newer. -/
theorem Ext.mono' {X Y : Nat → Prop} {a b : World} (h : Ext X a b) (hx : ∀ k, k < a.heap.size → X k → Y k) : Ext Y a b :=
  ⟨h.os, h.tape, h.output, h.size, fun i hi hy => h.block i hi (fun hh => hy (hx i hi hh))⟩
theorem Ext.of_below {w w' : World} (h : Below w.heap.size w w') (X : Nat → Prop) : Ext X w w' := ⟨h.os, h.tape, h.output, h.size, fun k hk _ => h.block k hk⟩
theorem Ext.below {w w' : World} (h : Ext No w w') : Below w.heap.size w w' := ⟨h.os, h.tape, h.output, h.size, fun k hk => h.block k hk (fun hh => hh)⟩
theorem Ext.step {X Y : Nat → Prop} {a b c : World} (h : Ext X a b) (k : Ext Y b c) (hy : ∀ i, i < a.heap.size → Y i → X i) : Ext X a c :=
  ⟨k.os.trans h.os, k.tape.trans h.tape, k.output.trans h.output, Nat.le_trans h.size k.size, fun i hi hx => (k.block i (Nat.lt_of_lt_of_le hi h.size) (fun hh => hx (hy i hi hh))).trans (h.block i hi hx)⟩
theorem Ext.alloc {X : Nat → Prop} {a w : World} (h : Ext X a w) (o : Obj) : Ext X a (w.alloc o) :=
  h.trans (Ext.of_below ((Below.refl _ w).alloc (Nat.le_refl _) o) X)
theorem Ext.drew {X : Nat → Prop} {a w : World} (h : Ext X a w) : Ext X a w.drew := ⟨h.os, h.tape, h.output, h.size, h.block⟩
theorem Ext.drewN {X : Nat → Prop} {a w : World} (h : Ext X a w) (n : Nat) : Ext X a (w.drewN n) := ⟨h.os, h.tape, h.output, h.size, h.block⟩
theorem Ext.setCell {X : Nat → Prop} {a w : World} (h : Ext X a w) {p : Addr} (hp : X p.block ∨ a.heap.size ≤ p.block) (u : Value) : Ext X a (w.setCell p u) :=
  ⟨h.os, h.tape, h.output, by simpa [World.setCell] using h.size, fun k hk hx => by
    rw [Below.heap_setCell _ _ _ _ (by rintro rfl; rcases hp with hp | hp; exact hx hp; omega)]; exact h.block k hk hx⟩
theorem Ext.cell {X : Nat → Prop} {w w' : World} (h : Ext X w w') {p : Addr} {v : Value} (hp : ¬ X p.block) (hc : w.cell? p = some v) : w'.cell? p = some v :=
  (World.cell?_of_block (w := w) (h.block p.block (World.block_lt_of_cell? w p hc) hp)).trans hc
theorem Ext.frozen {X : Nat → Prop} {w w' : World} (h : Ext X w w') {p : Addr} (hp : ¬ X p.block) (hl : p.block < w.heap.size) : w'.frozen? p = w.frozen? p :=
  World.frozen?_of_block (w := w) (h.block p.block hl hp)

/-- A row that is read: element by element (sz cells each), in blocks of P. -/
def RowR {α : Type} (P : Nat → Prop) (sz : Nat) (E : World → α → List Value → Prop) (w : World) (v : Value) (xs : List α) : Prop :=
  ∃ A c, v = .slice A xs.length c ∧ (xs.length ≤ c ∧ (A = none → c = 0)) ∧ xs.length ≤ 140737488355328 ∧ (0 < xs.length → ∃ ad, A = some ad ∧ P ad.block ∧ ad.spot = none ∧ ∀ (j : Nat) (h : j < xs.length), ∃ cs, E w xs[j] cs ∧ cs.length = sz ∧ ∀ i u, cs[i]? = some u → w.cell? ⟨ad.block, ad.off + (j * sz + i), none⟩ = some u)
theorem RowR.ext {α : Type} {P X : Nat → Prop} {sz : Nat} {E : World → α → List Value → Prop} {w w' : World} {v : Value} {xs : List α} (h : RowR P sz E w v xs) (hx : Ext X w w') (hP : ∀ k, P k → ¬ X k)
    (hE : ∀ x ∈ xs, ∀ cs, E w x cs → E w' x cs) : RowR P sz E w' v xs := by
  obtain ⟨A, c, hv, hc, hm, hn⟩ := h
  refine ⟨A, c, hv, hc, hm, fun hp => ?_⟩
  obtain ⟨ad, ha, hpa, hs, hj⟩ := hn hp
  refine ⟨ad, ha, hpa, hs, fun j hjl => ?_⟩
  obtain ⟨cs, he, hl, hcell⟩ := hj j hjl
  exact ⟨cs, hE _ (List.getElem_mem _) _ he, hl, fun i u hu => hx.cell (hP _ hpa) (hcell i u hu)⟩
theorem RowR.imp {α : Type} {P P' : Nat → Prop} {sz : Nat} {E E' : World → α → List Value → Prop} {w : World} {v : Value} {xs : List α} (h : RowR P sz E w v xs) (hP : ∀ k, k < w.heap.size → P k → P' k)
    (hs0 : 0 < sz) (hE : ∀ x ∈ xs, ∀ cs, E w x cs → E' w x cs) : RowR P' sz E' w v xs := by
  obtain ⟨A, c, hv, hc, hm, hn⟩ := h
  refine ⟨A, c, hv, hc, hm, fun hp => ?_⟩
  obtain ⟨ad, ha, hpa, hs, hj⟩ := hn hp
  have hlt : ad.block < w.heap.size := by
    obtain ⟨cs, _, hl, hcell⟩ := hj 0 hp
    have := World.block_lt_of_cell? w _ (hcell 0 _ (List.getElem?_eq_getElem (by omega)))
    exact this
  refine ⟨ad, ha, hP _ hlt hpa, hs, fun j hjl => ?_⟩
  obtain ⟨cs, he, hl, hcell⟩ := hj j hjl
  exact ⟨cs, hE _ (List.getElem_mem _) _ he, hl, hcell⟩

/-- Whole numbers. -/
def IntsR (k : IntKind) (P : Nat → Prop) (w : World) (v : Value) (xs : List Int) : Prop := RowR P 1 (fun _ x cs => cs = [.int k x]) w v xs
theorem IntsR.ext {k : IntKind} {P X : Nat → Prop} {w w' : World} {v : Value} {xs : List Int} (h : IntsR k P w v xs) (hx : Ext X w w') (hP : ∀ k, P k → ¬ X k) : IntsR k P w' v xs :=
  RowR.ext h hx hP (fun _ _ _ he => he)
theorem IntsR.imp {k : IntKind} {P P' : Nat → Prop} {w : World} {v : Value} {xs : List Int} (h : IntsR k P w v xs) (hP : ∀ k, k < w.heap.size → P k → P' k) : IntsR k P' w v xs :=
  RowR.imp h hP (by omega) (fun _ _ _ he => he)
theorem IntsR.at {k : IntKind} {P : Nat → Prop} {w : World} {v : Value} {xs : List Int} (h : IntsR k P w v xs) : ∃ A c, v = .slice A xs.length c ∧ xs.length ≤ c ∧ xs.length ≤ 140737488355328 ∧
    ∀ j, j < xs.length → ∃ b off x, A = some ⟨b, off, none⟩ ∧ P b ∧ w.cell? ⟨b, off + j, none⟩ = some (.int k x) ∧ Sid (xs[j]? = some x) := by
  obtain ⟨A, c, hv, hc, hm, hn⟩ := h
  refine ⟨A, c, hv, hc.1, hm, fun j hj => ?_⟩
  obtain ⟨⟨b, off, sp⟩, ha, hpa, hs, hh⟩ := hn (by omega)
  obtain ⟨cs, rfl, _, hcell⟩ := hh j hj
  simp only at hs
  subst hs
  refine ⟨b, off, xs[j], ha, hpa, ?_, ⟨by simp [hj]⟩⟩
  have := hcell 0 (.int k xs[j]) rfl
  simpa using this
theorem RowR.none {α : Type} {P : Nat → Prop} {sz : Nat} {E : World → α → List Value → Prop} {w : World} {n c : Nat} {xs : List α} (h : RowR P sz E w (.slice none n c) xs) : n = 0 ∧ c = 0 ∧ xs = [] := by
  obtain ⟨A, c', hv, hc, hm, hn⟩ := h
  cases hv
  have h0 := hc.2 rfl
  have hx : xs.length = 0 := by omega
  exact ⟨hx, h0, List.eq_nil_of_length_eq_zero hx⟩
end Go.Proofs.YtceiaekkfabeaaaDoor

/- Plain words: what decomp's functions compute, said of lists and numbers alone. -/
namespace Go.Proofs.YtceiaekkfabeaaaDoor.Pl

/-- Number i of a row is from 0 to below many, and greater than the one ahead. -/
def goodAt (l : List Int) (many : Int) (i : Nat) : Prop := ∀ x, l[i]? = some x → 0 ≤ x ∧ x < many ∧ ∀ y, 0 < i → l[i - 1]? = some y → y < x
/-- Numbers rise, and are from 0 to below many. -/
def risesB : List Int → Int → Bool
  | [], _ => true
  | [x], many => decide (0 ≤ x) && decide (x < many)
  | x :: y :: l, many => decide (0 ≤ x) && decide (x < many) && decide (x < y) && risesB (y :: l) many
theorem risesB_iff : ∀ {l : List Int} {many : Int}, risesB l many = true ↔ ∀ i, goodAt l many i
  | [], many => by simp [risesB, goodAt]
  | [x], many => by
    simp only [risesB, Bool.and_eq_true, decide_eq_true_eq]
    constructor
    · rintro ⟨h1, h2⟩ i z hz
      rcases i with _ | i
      · simp at hz; subst hz; exact ⟨h1, h2, fun _ h => by omega⟩
      · simp at hz
    · intro h; have := h 0 x rfl; exact ⟨this.1, this.2.1⟩
  | x :: y :: l, many => by
    have ih := risesB_iff (l := y :: l) (many := many)
    simp only [risesB, Bool.and_eq_true, decide_eq_true_eq, ih]
    constructor
    · rintro ⟨⟨⟨h1, h2⟩, h3⟩, h4⟩ i z hz
      rcases i with _ | i
      · simp at hz; subst hz; exact ⟨h1, h2, fun _ h => by omega⟩
      · rw [List.getElem?_cons_succ] at hz
        have h5 := h4 i z hz
        refine ⟨h5.1, h5.2.1, fun u hu hu2 => ?_⟩
        rcases i with _ | i
        · simp at hz hu2; subst hz; subst hu2; exact h3
        · simp only [Nat.add_sub_cancel, List.getElem?_cons_succ] at hu2
          exact h5.2.2 u (by omega) (by simpa using hu2)
    · intro h
      have h0 := h 0 x rfl
      refine ⟨⟨⟨h0.1, h0.2.1⟩, (h 1 y rfl).2.2 x (by omega) rfl⟩, fun i z hz => ?_⟩
      have h5 := h (i + 1) z (by simpa using hz)
      refine ⟨h5.1, h5.2.1, fun u hu hu2 => h5.2.2 u (by omega) ?_⟩
      rcases i with _ | i
      · omega
      · simpa using hu2
theorem risesB_false {l : List Int} {many : Int} {i : Nat} (h : ¬ goodAt l many i) : risesB l many = false := by
  rw [Bool.eq_false_iff]; exact fun hh => h (risesB_iff.1 hh i)

def hasB (xs : List Int) (n : Int) : Bool := xs.contains n
theorem hasB_false_succ {xs : List Int} {n x : Int} {k : Nat} (h0 : hasB (xs.take k) n = false) (hx : xs[k]? = some x) (hne : (x == n) = false) : hasB (xs.take (k+1)) n = false := by
  obtain ⟨h, rfl⟩ := List.getElem?_eq_some_iff.1 hx
  unfold hasB at *
  rw [List.take_succ_eq_append_getElem h, List.contains_append, h0]
  simp at hne ⊢; omega
theorem hasB_of {xs : List Int} {n x : Int} {k : Nat} (hx : xs[k]? = some x) (he : (x == n) = true) : hasB xs n = true := by
  obtain ⟨h, rfl⟩ := List.getElem?_eq_some_iff.1 hx
  simp at he
  simp only [hasB, List.contains_eq_mem, decide_eq_true_eq]; rw [← he]; exact List.getElem_mem _
theorem hasB_all {xs : List Int} {n : Int} {k : Nat} (h : ¬ k < xs.length) (h0 : hasB (xs.take k) n = false) : hasB xs n = false := by
  rwa [List.take_of_length_le (by omega)] at h0
theorem hasB_iff {xs : List Int} {n : Int} : hasB xs n = true ↔ n ∈ xs := by simp [hasB]
/-- Does something hold of all of a row? -/
def allB {α : Type} (f : α → Bool) (l : List α) : Bool := l.all f
theorem allB_succ {α : Type} {l : List α} {f : α → Bool} {k : Nat} {x : α} (h0 : allB f (l.take k) = true) (hx : l[k]? = some x) (h1 : f x = true) : allB f (l.take (k+1)) = true := by
  obtain ⟨h, rfl⟩ := List.getElem?_eq_some_iff.1 hx
  unfold allB at *
  rw [List.take_succ_eq_append_getElem h, List.all_append, h0]; simp [h1]
theorem allB_false {α : Type} {l : List α} {f : α → Bool} {k : Nat} {x : α} (hx : l[k]? = some x) (h1 : f x = false) : allB f l = false := by
  obtain ⟨h, rfl⟩ := List.getElem?_eq_some_iff.1 hx
  unfold allB
  rw [List.all_eq_false]; exact ⟨l[k], List.getElem_mem _, by simp [h1]⟩
theorem allB_all {α : Type} {l : List α} {f : α → Bool} {k : Nat} (h : ¬ k < l.length) (h0 : allB f (l.take k) = true) : allB f l = true := by
  rwa [List.take_of_length_le (by omega)] at h0
/-- Are all of some among others? -/
def withinB (l m : List Int) : Bool := allB (hasB m) l
/-- Does something hold of one of a row? -/
def anyB {α : Type} (f : α → Bool) (l : List α) : Bool := l.any f
theorem anyB_succ {α : Type} {l : List α} {f : α → Bool} {k : Nat} {x : α} (hx : l[k]? = some x) : anyB f (l.take (k+1)) = (anyB f (l.take k) || f x) := by
  obtain ⟨h, rfl⟩ := List.getElem?_eq_some_iff.1 hx
  unfold anyB
  rw [List.take_succ_eq_append_getElem h, List.any_append]; simp
/-- Row e of rows. -/
def edgeAt (es : List (List Int)) (e : Int) : List Int := es.getD e.toNat []
theorem edgeAt_of {es : List (List Int)} {e : Int} {k : Nat} {r : List Int} (hk : e = (k : Int)) (h : es[k]? = some r) : edgeAt es e = r := by
  subst hk; simp [edgeAt, List.getD_eq_getElem?_getD, h]
/-- Is each vertex in one of some edges? -/
def coversB (es : List (List Int)) (row vs : List Int) : Bool := allB (fun v => anyB (fun e => hasB (edgeAt es e) v) row) vs
/-- All numbers are places of a row so long. -/
def inB (row : List Int) (n : Nat) : Prop := ∀ e ∈ row, 0 ≤ e ∧ e < (n : Int)
theorem inB.at {row : List Int} {n k : Nat} {e : Int} (h : inB row n) (he : row[k]? = some e) : ∃ m : Nat, e = (m : Int) ∧ m < n := by
  have := h e (List.mem_of_getElem? he)
  exact ⟨e.toNat, by omega, by omega⟩
/-- A bag. -/
structure Bag where
  vs : List Int
  es : List Int
  parent : Int
deriving DecidableEq
/-- May a hypergraph be? -/
def hyperB (many : Int) (es : List (List Int)) : Bool := decide (0 ≤ many) && decide (many ≤ 32) && decide (es.length ≤ 40) && allB (fun e => risesB e many) es
/-- The greatest of some numbers, from one on. -/
def widthTo (m : Int) (l : List Bag) : Int := l.foldl (fun m b => max m b.es.length) m
theorem widthTo_succ {l : List Bag} {k : Nat} {b : Bag} {m : Int} (h : l[k]? = some b) : widthTo m (l.take (k+1)) = max (widthTo m (l.take k)) b.es.length := by
  obtain ⟨hk, rfl⟩ := List.getElem?_eq_some_iff.1 h
  unfold widthTo
  rw [List.take_succ_eq_append_getElem hk, List.foldl_append]; rfl
theorem widthTo_ge (m : Int) (l : List Bag) : m ≤ widthTo m l := by
  induction l generalizing m with
  | nil => simp [widthTo]
  | cons b l ih => have := ih (max m b.es.length); simp only [widthTo, List.foldl_cons] at *; omega
/-- The numbers from 0 to below many. -/
def vertsL (many : Int) : List Int := (List.range many.toNat).map Int.ofNat
theorem vertsL_len (many : Int) : (vertsL many).length = many.toNat := by simp [vertsL]
theorem vertsL_at {many : Int} {k : Nat} (h : (k : Int) < many) : (vertsL many)[k]? = some (k : Int) := by
  have h' : k < many.toNat := by omega
  simp [vertsL, List.getElem?_map, List.getElem?_range h']
theorem mem_vertsL {many x : Int} : x ∈ vertsL many ↔ 0 ≤ x ∧ x < many := by
  simp only [vertsL, List.mem_map, List.mem_range]
  constructor
  · rintro ⟨a, h, rfl⟩; simp; omega
  · rintro ⟨h1, h2⟩; exact ⟨x.toNat, by omega, by simp; omega⟩
/-- Is there a vertex that stands in no edge? -/
def bareB (many : Int) (es : List (List Int)) : Bool := !allB (fun v => anyB (fun e => hasB e v) es) (vertsL many)
/-- Has a bag a vertex, its parent not? -/
def topB (bs : List Bag) (v : Int) (b : Bag) : Bool := hasB b.vs v && (decide (b.parent < 0) || !hasB ((bs[b.parent.toNat]?).getD ⟨[], [], 0⟩).vs v)
/-- How many of some bags do. -/
def topsN (bs : List Bag) (v : Int) (l : List Bag) : Int := (l.filter (topB bs v)).length
theorem topsN_yes {bs l : List Bag} {v : Int} {b : Bag} {k : Nat} (h : l[k]? = some b) (ht : topB bs v b = true) : topsN bs v (l.take (k+1)) = topsN bs v (l.take k) + 1 := by
  obtain ⟨hk, rfl⟩ := List.getElem?_eq_some_iff.1 h
  unfold topsN
  rw [List.take_succ_eq_append_getElem hk, List.filter_append]; simp [ht]
theorem topsN_no {bs l : List Bag} {v : Int} {b : Bag} {k : Nat} (h : l[k]? = some b) (ht : topB bs v b = false) : topsN bs v (l.take (k+1)) = topsN bs v (l.take k) := by
  obtain ⟨hk, rfl⟩ := List.getElem?_eq_some_iff.1 h
  unfold topsN
  rw [List.take_succ_eq_append_getElem hk, List.filter_append]; simp [ht]
theorem topsN_bd (bs l : List Bag) (v : Int) : 0 ≤ topsN bs v l ∧ topsN bs v l ≤ l.length := by
  have := List.length_filter_le (topB bs v) l
  unfold topsN; omega
/-- Does something hold of each, and its place (from one on)? -/
def allI {α : Type} (f : Nat → α → Bool) : Nat → List α → Bool
  | _, [] => true
  | n, x :: l => f n x && allI f (n + 1) l
theorem allI_iff {α : Type} {f : Nat → α → Bool} {l : List α} : ∀ {n}, allI f n l = true ↔ ∀ i x, l[i]? = some x → f (n + i) x = true := by
  induction l with
  | nil => intro n; simp [allI]
  | cons y l ih =>
    intro n
    simp only [allI, Bool.and_eq_true, ih]
    constructor
    · rintro ⟨h1, h2⟩ i x hx
      rcases i with _ | i
      · simp at hx; subst hx; exact h1
      · have := h2 i x (by simpa using hx); rwa [show n + 1 + i = n + (i + 1) from by omega] at this
    · intro h
      refine ⟨h 0 y rfl, fun i x hx => ?_⟩
      have := h (i + 1) x (by simpa using hx); rwa [show n + (i + 1) = n + 1 + i from by omega] at this
theorem allI_false {α : Type} {f : Nat → α → Bool} {l : List α} {i : Nat} {x : α} (hx : l[i]? = some x) (h : f i x = false) : allI f 0 l = false := by
  rw [Bool.eq_false_iff]; intro hh
  have := allI_iff.1 hh i x hx
  simp [h] at this
theorem allI_of {α : Type} {f : Nat → α → Bool} {l : List α} {k : Nat} (hk : ¬ k < l.length) (h : ∀ i x, i < k → l[i]? = some x → f i x = true) : allI f 0 l = true :=
  allI_iff.2 fun i x hx => by
    have := (List.getElem?_eq_some_iff.1 hx).1
    rw [Nat.zero_add]; exact h i x (by omega) hx
/-- Bag i is of the form of such. -/
def bagFormB (many : Int) (n : Nat) (i : Nat) (b : Bag) : Bool := risesB b.vs many && risesB b.es n && decide (-1 ≤ b.parent) && decide (b.parent < i)
/-- Have bags the shape of such? -/
def shapedB (many : Int) (n : Nat) (bs : List Bag) : Bool := decide (bs.length ≤ 64) && allI (bagFormB many n) 0 bs
/-- May bags be, of a hypergraph that may be? -/
def rightB (many : Int) (es : List (List Int)) (bs : List Bag) : Bool :=
  decide (bs.length ≤ 64) && allI (fun i b => bagFormB many es.length i b && coversB es b.es b.vs) 0 bs && allB (fun e => anyB (fun b => withinB e b.vs) bs) es && allB (fun v => decide (topsN bs v bs = 1)) (vertsL many)
theorem inB_of_rises {l : List Int} {n : Nat} (h : risesB l n = true) : inB l n := by
  intro e he
  obtain ⟨i, hi⟩ := List.mem_iff_getElem?.1 he
  have := risesB_iff.1 h i e hi
  exact ⟨this.1, this.2.1⟩
/-- Do two share an edge, or are they one? -/
def nearB (es : List (List Int)) (v w : Int) : Bool := (w == v) || anyB (fun e => hasB e v && hasB e w) es
/-- Those that are near to a vertex. -/
def aroundL (es : List (List Int)) (v many : Int) : List Int := (vertsL many).filter (nearB es v)
theorem filter_yes {α : Type} {l : List α} {f : α → Bool} {k : Nat} {x : α} (hx : l[k]? = some x) (h : f x = true) : (l.take (k+1)).filter f = (l.take k).filter f ++ [x] := by
  obtain ⟨hk, rfl⟩ := List.getElem?_eq_some_iff.1 hx
  rw [List.take_succ_eq_append_getElem hk, List.filter_append]; simp [h]
theorem filter_no {α : Type} {l : List α} {f : α → Bool} {k : Nat} {x : α} (hx : l[k]? = some x) (h : f x = false) : (l.take (k+1)).filter f = (l.take k).filter f := by
  obtain ⟨hk, rfl⟩ := List.getElem?_eq_some_iff.1 hx
  rw [List.take_succ_eq_append_getElem hk, List.filter_append]; simp [h]
/-- The numbers from one on, below another. -/
def rangeL (lo hi : Int) : List Int := (List.range (hi - lo).toNat).map fun (i : Nat) => lo + (i : Int)
theorem rangeL_len (lo hi : Int) : (rangeL lo hi).length = (hi - lo).toNat := by simp [rangeL]
theorem rangeL_at {lo hi : Int} {k : Nat} (h : lo + k < hi) : (rangeL lo hi)[k]? = some (lo + k) := by
  have h' : k < (hi - lo).toNat := by omega
  simp [rangeL, List.getElem?_map, List.getElem?_range h']
theorem rangeL_nil {lo hi : Int} (h : hi ≤ lo) : rangeL lo hi = [] := by
  apply List.eq_nil_of_length_eq_zero; rw [rangeL_len]; omega
theorem rangeL_cons {lo hi : Int} (h : lo < hi) : rangeL lo hi = lo :: rangeL (lo + 1) hi := by
  unfold rangeL
  obtain ⟨n, hn⟩ : ∃ n, (hi - lo).toNat = n + 1 := ⟨(hi - lo).toNat - 1, by omega⟩
  rw [hn, show (hi - (lo + 1)).toNat = n by omega, List.range_succ_eq_map, List.map_cons, List.map_map]
  refine congr (congrArg _ (by simp)) (List.map_congr_left fun i _ => ?_)
  simp only [Function.comp_apply, Nat.succ_eq_add_one]
  omega
/-- All rows of so many of the numbers from one on, below another, in order. -/
def rowsL (hi : Int) : Nat → Int → List (List Int)
  | 0, _ => [[]]
  | m + 1, lo => (rangeL lo hi).flatMap fun n => (rowsL hi m (n + 1)).map (n :: ·)
theorem take_flatMap_succ {α β : Type} {l : List α} {f : α → List β} {k : Nat} {x : α} (hx : l[k]? = some x) : (l.take (k+1)).flatMap f = (l.take k).flatMap f ++ f x := by
  obtain ⟨hk, rfl⟩ := List.getElem?_eq_some_iff.1 hx
  rw [List.take_succ_eq_append_getElem hk, List.flatMap_append]; simp
theorem rowsL_len (hi : Int) : ∀ (m : Nat) (lo : Int), (rowsL hi m lo).length ≤ 2 ^ (hi - lo).toNat := by
  intro m
  induction m with
  | zero => intro lo; simp only [rowsL, List.length_singleton]; exact Nat.one_le_two_pow
  | succ m ih =>
    have key : ∀ (d : Nat) (lo : Int), (hi - lo).toNat = d → ((rangeL lo hi).flatMap fun n => (rowsL hi m (n + 1)).map (n :: ·)).length + 1 ≤ 2 ^ d := by
      intro d
      induction d with
      | zero => intro lo hd; rw [rangeL_nil (by omega)]; simp
      | succ d ihd =>
        intro lo hd
        rw [rangeL_cons (by omega), List.flatMap_cons, List.length_append, List.length_map]
        have h1 := ih (lo + 1)
        rw [show (hi - (lo + 1)).toNat = d by omega] at h1
        have h2 := ihd (lo + 1) (by omega)
        rw [Nat.pow_succ]; omega
    intro lo
    have := key _ lo rfl
    simp only [rowsL]; omega
theorem rowsL_row_len (hi : Int) : ∀ (m : Nat) (lo : Int), ∀ r ∈ rowsL hi m lo, r.length = m := by
  intro m
  induction m with
  | zero => intro lo r hr; simp [rowsL] at hr; subst hr; rfl
  | succ m ih =>
    intro lo r hr
    simp only [rowsL, List.mem_flatMap, List.mem_map] at hr
    obtain ⟨n, _, r', hr', rfl⟩ := hr
    simp [ih _ r' hr']
theorem flatMap_take_len {α β : Type} (f : α → List β) (l : List α) (k : Nat) : ((l.take k).flatMap f).length ≤ (l.flatMap f).length := by
  conv => rhs; rw [← List.take_append_drop k l, List.flatMap_append, List.length_append]
  omega
theorem take_map_succ {α β : Type} {l : List α} {f : α → β} {k : Nat} {x : α} (hx : l[k]? = some x) : (l.take (k+1)).map f = (l.take k).map f ++ [f x] := by
  obtain ⟨hk, rfl⟩ := List.getElem?_eq_some_iff.1 hx
  rw [List.take_succ_eq_append_getElem hk, List.map_append]; rfl
theorem rangeL_mem {lo hi x : Int} : x ∈ rangeL lo hi ↔ lo ≤ x ∧ x < hi := by
  simp only [rangeL, List.mem_map, List.mem_range]
  constructor
  · rintro ⟨a, h, rfl⟩; omega
  · rintro ⟨h1, h2⟩; exact ⟨(x - lo).toNat, by omega, by omega⟩
theorem rowsL_in (hi : Int) : ∀ (m : Nat) (lo : Int), 0 ≤ lo → ∀ r ∈ rowsL hi m lo, ∀ e ∈ r, lo ≤ e ∧ e < hi := by
  intro m
  induction m with
  | zero => intro lo h r hr e he; simp [rowsL] at hr; subst hr; simp at he
  | succ m ih =>
    intro lo h r hr e he
    simp only [rowsL, List.mem_flatMap, List.mem_map] at hr
    obtain ⟨n, hn, r', hr', rfl⟩ := hr
    have hn' := rangeL_mem.1 hn
    rcases List.mem_cons.1 he with rfl | he
    · exact hn'
    · have := ih (n + 1) (by omega) r' hr' e he; omega
/-- All rows of places of so many edges, from none to so many, in order. -/
def allRows (n : Nat) (m : Nat) : List (List Int) := (List.range m).flatMap fun k => rowsL n k 0
/-- The fewest edges that have all vertices, the first ones of several. -/
def refCover (es : List (List Int)) (vs : List Int) : Option (List Int) := (allRows es.length (vs.length + 1)).find? fun row => coversB es row vs
theorem find_flat {α : Type} {n : Nat} {f : Nat → List α} {p : α → Bool} {k j : Nat} {x : α} (hk : k < n) (hj : (f k)[j]? = some x) (h1 : ((List.range k).flatMap f).find? p = none) (h2 : ((f k).take j).find? p = none) (hp : p x = true) :
    ((List.range n).flatMap f).find? p = some x := by
  obtain ⟨d, rfl⟩ : ∃ d, n = k + (1 + d) := ⟨n - k - 1, by omega⟩
  obtain ⟨hjl, hx⟩ := List.getElem?_eq_some_iff.1 hj
  have hf : f k = (f k).take j ++ x :: (f k).drop (j + 1) := by
    rw [← hx, List.getElem_cons_drop, List.take_append_drop]
  rw [List.range_add, List.flatMap_append, List.find?_append, h1, Option.none_or, List.range_add]
  simp only [List.range_one, List.map_append, List.map_cons, List.map_nil, List.flatMap_append, List.flatMap_cons, List.flatMap_nil, Nat.add_zero, List.append_nil]
  rw [List.find?_append, hf, List.find?_append, h2, Option.none_or, List.find?_cons_of_pos hp]
  rfl
theorem find_take_succ {α : Type} {l : List α} {p : α → Bool} {j : Nat} {x : α} (hj : l[j]? = some x) (h : (l.take j).find? p = none) (hp : p x = false) : (l.take (j+1)).find? p = none := by
  obtain ⟨hk, rfl⟩ := List.getElem?_eq_some_iff.1 hj
  rw [List.take_succ_eq_append_getElem hk, List.find?_append, h]; simp [hp]
theorem find_range_succ {α : Type} {f : Nat → List α} {p : α → Bool} {k : Nat} (h1 : ((List.range k).flatMap f).find? p = none) (h2 : (f k).find? p = none) : ((List.range (k+1)).flatMap f).find? p = none := by
  rw [List.range_succ, List.flatMap_append, List.find?_append, h1]; simpa using h2
def vertB (many : Int) (x : Int) : Bool := decide (0 ≤ x) && decide (x < many)
/-- Number i is greater than the one ahead. -/
def precB (xs : List Int) (i : Nat) (x : Int) : Bool := (i == 0) || decide ((xs[i - 1]?).getD 0 < x)
theorem risesB_eq (xs : List Int) (many : Int) : risesB xs many = (allI (fun _ x => vertB many x) 0 xs && allI (precB xs) 0 xs) := by
  rw [Bool.eq_iff_iff, risesB_iff, Bool.and_eq_true, allI_iff, allI_iff]
  constructor
  · intro h
    refine ⟨fun i x hx => ?_, fun i x hx => ?_⟩
    · have := h i x hx; simp [vertB]; omega
    · rw [Nat.zero_add]
      rcases Nat.eq_zero_or_pos i with rfl | hi
      · simp [precB]
      · have hl := (List.getElem?_eq_some_iff.1 hx).1
        have := (h i x hx).2.2 xs[i - 1] hi (by rw [List.getElem?_eq_getElem])
        simp [precB, List.getElem?_eq_getElem (show i - 1 < xs.length by omega)]; omega
  · rintro ⟨h1, h2⟩ i x hx
    have g1 := h1 i x hx
    have g2 := h2 i x hx
    simp only [vertB, Bool.and_eq_true, decide_eq_true_eq] at g1
    refine ⟨g1.1, g1.2, fun y hi hy => ?_⟩
    rw [Nat.zero_add] at g2
    simp only [precB, Bool.or_eq_true, beq_iff_eq, decide_eq_true_eq, hy, Option.getD_some] at g2
    omega
theorem allI_const {α : Type} {f : α → Bool} {l : List α} : ∀ {n}, allI (fun _ x => f x) n l = allB f l := by
  induction l with
  | nil => intro n; rfl
  | cons x l ih => intro n; simp only [allI, ih, allB, List.all_cons]
end Go.Proofs.YtceiaekkfabeaaaDoor.Pl

/- Words for the walks: rows of the call's own, what they become when they are read, and append at them. -/
namespace Go.Proofs.YtceiaekkfabeaaaDoor
open Go.RowKit

theorem info3 : (Tryd.prog.info? 3).map (fun i => (i.zero, i.size, i.bytes)) = some (some (.int .i64 0), 1, 8) := by kernel_rfl
theorem info28 : (Tryd.prog.info? 28).map (fun i => (i.zero, i.size, i.bytes)) = some (some (.slice none 0 0), 1, 24) := by kernel_rfl
theorem info65 : (Tryd.prog.info? 65).map (fun i => (i.zero, i.size, i.bytes)) = some (some (.int .u64 0), 1, 8) := by kernel_rfl
theorem info96 : (Tryd.prog.info? 96).map (fun i => (i.zero, i.size, i.bytes)) = some (some (.int .u64 0), 1, 8) := by kernel_rfl
theorem info51 : (Tryd.prog.info? 51).map (fun i => (i.zero, i.size, i.bytes)) = some (some (.agg #[.slice none 0 0, .slice none 0 0, .int .i64 0]), 3, 56) := by kernel_rfl

/-- A row of the call's own (blocks from base on). -/
def Own (base : Nat) (e size : Nat) (w : World) (v : Value) (n : Nat) (vs : List Value) : Prop := w.ownsRow base e size v n vs
theorem Own.nil (base e size : Nat) (w : World) : Own base e size w (.slice none 0 0) 0 [] := World.ownsRow_nil w base e size
theorem Own.ge {base e size n : Nat} {w : World} {v : Value} {vs : List Value} (h : Own base e size w v n vs) : ∀ k, v.ownBlock = some k → base ≤ k ∧ k < w.heap.size := World.ownsRow.lt h
theorem Own.ext {base e size n : Nat} {w w' : World} {v : Value} {vs : List Value} {X : Nat → Prop} (h : Own base e size w v n vs) (hx : Ext X w w') (hn : ∀ k, v.ownBlock = some k → ¬ X k) : Own base e size w' v n vs := by
  obtain ⟨h1, h2⟩ := h
  refine ⟨h1, ?_⟩
  rcases h2 with h2 | ⟨g, cap, cur, rfl, hg, hh, r⟩
  · exact .inl h2
  · exact .inr ⟨g, cap, cur, rfl, hg, (hx.block g (Array.getElem?_eq_some_iff.1 hh).1 (hn g (by simp [Value.ownBlock]))).trans hh, r⟩
/-- A step that may turn the row's own block is one of what is newer than base. -/
theorem Own.step {X : Nat → Prop} {e size n : Nat} {w a b : World} {v : Value} {vs : List Value} (h : Own w.heap.size e size a v n vs) (hx : Ext X w a) (hk : Ext (fun k => some k = v.ownBlock) a b) : Ext X w b :=
  hx.step hk (fun i hi hh => absurd (h.ge i hh.symm).1 (by omega))
theorem Own.alloc {base e size n : Nat} {w : World} {v : Value} {vs : List Value} (h : Own base e size w v n vs) (o : Obj) : Own base e size (w.alloc o) v n vs := World.ownsRow.alloc h o
theorem Own.drew {base e size n : Nat} {w : World} {v : Value} {vs : List Value} (h : Own base e size w v n vs) : Own base e size w.drew v n vs := h
theorem Own.len {base e n : Nat} {w : World} {v : Value} {vs : List Value} (h : Own base e 1 w v n vs) : vs.length = n := by have := h.1; omega
theorem Own.slice {base e size n : Nat} {w : World} {v : Value} {vs : List Value} (h : Own base e size w v n vs) : ∃ A c, v = .slice A n c := by
  rcases h.2 with ⟨rfl, rfl⟩ | ⟨g, cap, cur, rfl, _⟩
  · exact ⟨none, 0, rfl⟩
  · exact ⟨_, cap, rfl⟩
/-- It is a row that can be read. -/
theorem Own.reads {α : Type} {base e size : Nat} {w : World} {v : Value} {vs : List Value} {xs : List α} {P : Nat → Prop} {E : World → α → List Value → Prop} (h : Own base e size w v xs.length vs) (hb : xs.length ≤ 140737488355328)
    (hP : ∀ k, v.ownBlock = some k → P k)
    (hE : ∀ (j : Nat) (hj : j < xs.length), ∃ cs, E w xs[j] cs ∧ cs.length = size ∧ ∀ i, i < size → vs[j * size + i]? = cs[i]?) : RowR P size E w v xs := by
  rcases h.2 with ⟨rfl, h0⟩ | ⟨g, cap, cur, rfl, hg, hh, hn, hc, r⟩
  · exact ⟨none, 0, by rw [h0], ⟨by omega, fun _ => rfl⟩, hb, by omega⟩
  · refine ⟨_, cap, rfl, ⟨hn, by simp⟩, hb, fun _ => ⟨⟨g, 0, none⟩, rfl, hP g (by simp [Value.ownBlock]), rfl, fun j hj => ?_⟩⟩
    obtain ⟨cs, he, hl, hv⟩ := hE j hj
    refine ⟨cs, he, hl, fun i u hu => ?_⟩
    have hi : i < size := by rw [← hl]; exact (List.getElem?_eq_some_iff.1 hu).1
    have hv' := (hv i hi).trans hu
    have := World.ownsRow.cells h (g := g) (by simp [Value.ownBlock]) (j * size + i) u hv'
    have ha : (⟨g, 0, none⟩ : Addr).add (j * size + i) = ⟨g, 0 + (j * size + i), none⟩ := by unfold Addr.add; split <;> simp_all
    rwa [ha] at this
theorem Own.ints {base e : Nat} {k : IntKind} {w : World} {v : Value} {xs : List Int} {P : Nat → Prop} (h : Own base e 1 w v xs.length (xs.map (.int k))) (hb : xs.length ≤ 140737488355328) (hP : ∀ k, v.ownBlock = some k → P k) : IntsR k P w v xs :=
  Own.reads h hb hP (fun j hj => ⟨[.int k xs[j]], rfl, rfl, fun i hi => by
    have h0 : i = 0 := by omega
    subst h0
    simp [hj]⟩)

/-- Rows of rows of whole numbers. -/
def RowsR (P : Nat → Prop) (w : World) (v : Value) (xss : List (List Int)) : Prop := RowR P 1 (fun w xs cs => ∃ u, cs = [u] ∧ u.oneCell' = true ∧ IntsR .i64 P w u xs) w v xss
theorem RowsR.ext {P X : Nat → Prop} {w w' : World} {v : Value} {xss : List (List Int)} (h : RowsR P w v xss) (hx : Ext X w w') (hP : ∀ k, P k → ¬ X k) : RowsR P w' v xss :=
  RowR.ext h hx hP (fun _ _ _ ⟨u, h1, h2, h3⟩ => ⟨u, h1, h2, h3.ext hx hP⟩)
theorem RowsR.imp {P P' : Nat → Prop} {w : World} {v : Value} {xss : List (List Int)} (h : RowsR P w v xss) (hP : ∀ k, k < w.heap.size → P k → P' k) : RowsR P' w v xss :=
  RowR.imp h hP (by omega) (fun _ _ _ ⟨u, h1, h2, h3⟩ => ⟨u, h1, h2, h3.imp hP⟩)
theorem RowsR.at {P : Nat → Prop} {w : World} {v : Value} {xss : List (List Int)} (h : RowsR P w v xss) : ∃ A c, v = .slice A xss.length c ∧ xss.length ≤ c ∧ xss.length ≤ 140737488355328 ∧
    ∀ j, j < xss.length → ∃ b off A' c' xs, A = some ⟨b, off, none⟩ ∧ P b ∧ w.cell? ⟨b, off + j, none⟩ = some (.slice A' xs.length c') ∧ Sid (xss[j]? = some xs) ∧ Sid (IntsR .i64 P w (.slice A' xs.length c') xs) := by
  obtain ⟨A, c, hv, hc, hm, hn⟩ := h
  refine ⟨A, c, hv, hc.1, hm, fun j hj => ?_⟩
  obtain ⟨⟨b, off, sp⟩, ha, hpa, hs, hh⟩ := hn (by omega)
  obtain ⟨cs, ⟨u, rfl, _, hu⟩, _, hcell⟩ := hh j hj
  simp only at hs
  subst hs
  obtain ⟨A', c', rfl, _⟩ := hu.at
  refine ⟨b, off, A', c', xss[j], ha, hpa, ?_, ⟨by simp [hj]⟩, ⟨hu⟩⟩
  have := hcell 0 _ rfl
  simpa using this
theorem Own.rows {base e : Nat} {w : World} {v : Value} {vs : List Value} {xss : List (List Int)} {P : Nat → Prop} (h : Own base e 1 w v xss.length vs) (hb : xss.length ≤ 140737488355328) (hP : ∀ k, v.ownBlock = some k → P k)
    (hE : ∀ (j : Nat) (u : Value) (xs : List Int), vs[j]? = some u → xss[j]? = some xs → IntsR .i64 P w u xs) : RowsR P w v xss :=
  Own.reads h hb hP (fun j hj => by
    have hl := h.len
    have hu : vs[j]? = some vs[j] := List.getElem?_eq_getElem (by omega)
    have hi := hE j _ _ hu (List.getElem?_eq_getElem hj)
    obtain ⟨A', c', he, _⟩ := hi.at
    refine ⟨[vs[j]], ⟨vs[j], rfl, by rw [he]; rfl, hi⟩, rfl, fun i hi => ?_⟩
    have h0 : i = 0 := by omega
    subst h0
    simp [hl ▸ hj])

/-- Rows of bags. -/
def BagsR (P : Nat → Prop) (w : World) (v : Value) (bs : List Pl.Bag) : Prop := RowR P 3 (fun w b cs => ∃ u1 u2, cs = [u1, u2, .int .i64 b.parent] ∧ IntsR .i64 P w u1 b.vs ∧ IntsR .i64 P w u2 b.es) w v bs
theorem BagsR.ext {P X : Nat → Prop} {w w' : World} {v : Value} {bs : List Pl.Bag} (h : BagsR P w v bs) (hx : Ext X w w') (hP : ∀ k, P k → ¬ X k) : BagsR P w' v bs :=
  RowR.ext h hx hP (fun _ _ _ ⟨u1, u2, h1, h2, h3⟩ => ⟨u1, u2, h1, h2.ext hx hP, h3.ext hx hP⟩)
theorem BagsR.imp {P P' : Nat → Prop} {w : World} {v : Value} {bs : List Pl.Bag} (h : BagsR P w v bs) (hP : ∀ k, k < w.heap.size → P k → P' k) : BagsR P' w v bs :=
  RowR.imp h hP (by omega) (fun _ _ _ ⟨u1, u2, h1, h2, h3⟩ => ⟨u1, u2, h1, h2.imp hP, h3.imp hP⟩)
theorem BagsR.at {P : Nat → Prop} {w : World} {v : Value} {bs : List Pl.Bag} (h : BagsR P w v bs) : ∃ A c, v = .slice A bs.length c ∧ bs.length ≤ c ∧ bs.length ≤ 140737488355328 ∧
    ∀ j, j < bs.length → ∃ b off A1 c1 A2 c2 vs es p, A = some ⟨b, off, none⟩ ∧ P b ∧ w.cell? ⟨b, off + j * 3, none⟩ = some (.slice A1 vs.length c1) ∧ w.cell? ⟨b, off + j * 3 + 1, none⟩ = some (.slice A2 es.length c2) ∧
      w.cell? ⟨b, off + j * 3 + 2, none⟩ = some (.int .i64 p) ∧ Sid (bs[j]? = some ⟨vs, es, p⟩) ∧ Sid (IntsR .i64 P w (.slice A1 vs.length c1) vs) ∧ Sid (IntsR .i64 P w (.slice A2 es.length c2) es) := by
  obtain ⟨A, c, hv, hc, hm, hn⟩ := h
  refine ⟨A, c, hv, hc.1, hm, fun j hj => ?_⟩
  obtain ⟨⟨b, off, sp⟩, ha, hpa, hs, hh⟩ := hn (by omega)
  obtain ⟨cs, ⟨u1, u2, rfl, h1, h2⟩, _, hcell⟩ := hh j hj
  simp only at hs
  subst hs
  obtain ⟨A1, c1, rfl, _⟩ := h1.at
  obtain ⟨A2, c2, rfl, _⟩ := h2.at
  have e0 := hcell 0 _ rfl
  have e1 := hcell 1 _ rfl
  have e2 := hcell 2 _ rfl
  simp only [Nat.add_zero, ← Nat.add_assoc] at e0 e1 e2
  exact ⟨b, off, A1, c1, A2, c2, bs[j].vs, bs[j].es, bs[j].parent, ha, hpa, e0, e1, e2, ⟨by simp [hj]⟩, ⟨h1⟩, ⟨h2⟩⟩

section
variable {P : Program} {ops : Array Oper} {rest : List Oper} {o : Oper} {a : Act} {Q : Exit → Act → World → Prop}
/-- append(v, y), y one cell, behind the variadic's box. -/
theorem app1 {W : World} (base : Nat) (hgd : o.guard = none) (s x : Operand) (t e : TypeId) (z : Value) (bytes : Nat)
    (ho : o.op = .call { callee := .builtin .append, args := #[s, x], argTypes := #[t, t] })
    (ht : P.underlying t = some (.slice e)) (hinfo : (P.info? e).map (fun i => (i.zero, i.size, i.bytes)) = some (some z, 1, bytes)) (hz : z.cells.size = 1) (hb0 : 0 < bytes)
    (v : Value) (n : Nat) (vs : List Value) (y : Value) (hs : a.eval s = v) {bs : Nat} (hx : a.eval x = .slice (some ⟨bs, 0, none⟩) 1 1) (hbs : bs = W.heap.size) (h1 : y.oneCell' = true)
    (HO : Own base e 1 W v n vs) (hbase : base ≤ W.heap.size) (hl : (n + 1) * bytes ≤ 140737488355328)
    (h : ∀ v1 w1, Own base e 1 w1 v1 (n + 1) (vs ++ [y]) → Ext (fun k => some k = v.ownBlock) W w1 → (v1.ownBlock = v.ownBlock ∨ ∃ b, v1.ownBlock = some b ∧ W.heap.size ≤ b) → (∃ A c, v1 = .slice A (n + 1) c) → wpList P ops Q rest (a.put o.dst v1) w1) :
    wpList P ops Q (o :: rest) a (W.alloc (.cells #[y] e)) := by
  subst hbs
  obtain ⟨i0, hi, hzz⟩ := Option.map_eq_some_iff.1 hinfo
  simp only [Prod.mk.injEq] at hzz
  obtain ⟨hz0, hz1, hz2⟩ := hzz
  have hlen : n + 1 ≤ 140737488355328 := Nat.le_trans (Nat.le_mul_of_pos_right _ hb0) hl
  refine wpList_append_own_at (w := W.alloc (.cells #[y] e)) hgd s x t ho base e i0 z 1 bytes ht hi hz0 hz1 hz2 hz (by omega) v n vs hs (World.ownsRow.alloc HO _) ⟨W.heap.size, 0, none⟩ 1 1 [y] hx rfl
    (cell_one_new W y e) (by simpa using h1) (by simp only [maxLen]; omega) hl (by simp; omega) ?_
  intro v1 w1 hown hg _ hat
  refine h v1 w1 hown ⟨hg.os, hg.tape, hg.output, Nat.le_trans (by simp) hg.size, fun k hk hx => (hg.block k (by simp; omega) hx).trans (Below.heap_alloc _ _ _ hk)⟩ ?_ (Own.slice hown)
  rcases hat with hat | hat
  · exact .inl hat
  · exact .inr ⟨_, hat, by simp⟩
end
section
variable {P : Program} {ops : Array Oper} {rest : List Oper} {o : Oper} {a : Act} {Q : Exit → Act → World → Prop}
/-- append(v, xs...), the elements of one cell, the source not nil. -/
theorem appN {W : World} (base : Nat) (hgd : o.guard = none) (s x : Operand) (t e : TypeId) (z : Value) (bytes : Nat)
    (ho : o.op = .call { callee := .builtin .append, args := #[s, x], argTypes := #[t, t] })
    (ht : P.underlying t = some (.slice e)) (hinfo : (P.info? e).map (fun i => (i.zero, i.size, i.bytes)) = some (some z, 1, bytes)) (hz : z.cells.size = 1) (hb0 : 0 < bytes)
    (v : Value) (n : Nat) (vs : List Value) (ad : Addr) (m c : Nat) (news : List Value) (hs : a.eval s = v) (hx : a.eval x = .slice (some ad) m c) (hnl : news.length = m) (hnews : ∀ j u, news[j]? = some u → W.cell? (ad.add j) = some u) (h1 : ∀ u ∈ news, u.oneCell' = true)
    (HO : Own base e 1 W v n vs) (hbase : base ≤ W.heap.size) (hl : (n + m) * bytes ≤ 140737488355328)
    (h : ∀ v1 w1, Own base e 1 w1 v1 (n + m) (vs ++ news) → Ext (fun k => some k = v.ownBlock) W w1 → (v1.ownBlock = v.ownBlock ∨ ∃ b, v1.ownBlock = some b ∧ W.heap.size ≤ b) → (∃ A c, v1 = .slice A (n + m) c) → wpList P ops Q rest (a.put o.dst v1) w1) :
    wpList P ops Q (o :: rest) a W := by
  obtain ⟨i0, hi, hzz⟩ := Option.map_eq_some_iff.1 hinfo
  simp only [Prod.mk.injEq] at hzz
  obtain ⟨hz0, hz1, hz2⟩ := hzz
  have hlen : n + m ≤ 140737488355328 := Nat.le_trans (Nat.le_mul_of_pos_right _ hb0) hl
  refine wpList_append_own_at (w := W) hgd s x t ho base e i0 z 1 bytes ht hi hz0 hz1 hz2 hz (by omega) v n vs hs HO ad m c news hx (by omega) hnews h1 (by simp only [maxLen]; omega) hl hbase ?_
  intro v1 w1 hown hg _ hat
  refine h v1 w1 hown ⟨hg.os, hg.tape, hg.output, hg.size, fun k hk hx => hg.block k hk hx⟩ ?_ (Own.slice hown)
  rcases hat with hat | hat
  · exact .inl hat
  · exact .inr ⟨_, hat, Nat.le_refl _⟩
end
theorem Own.lit (w : World) (base e size : Nat) (hb : base ≤ w.heap.size) : Own base e size (w.alloc (.cells #[] e)) (.slice (some ⟨w.heap.size, 0, none⟩) 0 0) 0 [] :=
  ⟨by simp, .inr ⟨w.heap.size, 0, #[], rfl, hb, by show (w.heap.push _)[w.heap.size]? = _; simp, Nat.le_refl _, by simp [maxLen], by simp, by simp⟩⟩
theorem addr_add (b o j : Nat) : (⟨b, o, none⟩ : Addr).add j = ⟨b, o + j, none⟩ := by unfold Addr.add; split <;> simp_all
/-- The cells of a row that is read, as append wants them. -/
theorem IntsR.news {k : IntKind} {P : Nat → Prop} {w : World} {ad : Addr} {n c : Nat} {xs : List Int} (h : IntsR k P w (.slice (some ad) n c) xs) : ∀ j u, (xs.map (Value.int k))[j]? = some u → w.cell? (ad.add j) = some u := by
  obtain ⟨A, c', hv, hc, hm, hn⟩ := h
  cases hv
  intro j u hu
  simp only [List.getElem?_map, Option.map_eq_some_iff] at hu
  obtain ⟨x, hx, rfl⟩ := hu
  obtain ⟨hj, rfl⟩ := List.getElem?_eq_some_iff.1 hx
  obtain ⟨⟨b, off, sp⟩, ha, hpa, hs, hh⟩ := hn (by omega)
  cases ha
  simp only at hs
  subst hs
  obtain ⟨cs, rfl, _, hcell⟩ := hh j hj
  rw [addr_add]
  have := hcell 0 _ rfl
  simpa using this
theorem IntsR.no {k : IntKind} {P : Nat → Prop} {w w' : World} {v : Value} {xs : List Int} (h : IntsR k P w v xs) (hx : Ext No w w') : IntsR k P w' v xs := h.ext hx (fun _ _ h => h)
theorem RowsR.no {P : Nat → Prop} {w w' : World} {v : Value} {xs : List (List Int)} (h : RowsR P w v xs) (hx : Ext No w w') : RowsR P w' v xs := h.ext hx (fun _ _ h => h)
theorem BagsR.no {P : Nat → Prop} {w w' : World} {v : Value} {xs : List Pl.Bag} (h : BagsR P w v xs) (hx : Ext No w w') : BagsR P w' v xs := h.ext hx (fun _ _ h => h)
theorem Ext.no {w w' : World} (h : Ext No w w') {p : Addr} {v : Value} (hc : w.cell? p = some v) : w'.cell? p = some v := h.cell (fun h => h) hc
theorem Own.lit1 (w : World) (base e : Nat) (y : Value) (hb : base ≤ w.heap.size) : Own base e 1 (w.alloc (.cells #[y] e)) (.slice (some ⟨w.heap.size, 0, none⟩) 1 1) 1 [y] :=
  ⟨by simp, .inr ⟨w.heap.size, 1, #[y], rfl, hb, by show (w.heap.push _)[w.heap.size]? = _; simp, Nat.le_refl _, by simp [maxLen], by simp, by simp⟩⟩

/-- A row of the call's own, its elements rows that are read, in blocks of P. -/
def OwnRows (P : Nat → Prop) (base : Nat) (w : World) (v : Value) (xss : List (List Int)) : Prop :=
  ∃ vs, Own base 28 1 w v xss.length vs ∧ ∀ (j : Nat) (u : Value) (xs : List Int), vs[j]? = some u → xss[j]? = some xs → IntsR .i64 (fun k => P k ∧ some k ≠ v.ownBlock) w u xs
theorem OwnRows.nil (P : Nat → Prop) (base : Nat) (w : World) : OwnRows P base w (.slice none 0 0) [] := ⟨[], Own.nil _ _ _ _, by simp⟩
theorem OwnRows.own {P : Nat → Prop} {base : Nat} {w : World} {v : Value} {xss : List (List Int)} (h : OwnRows P base w v xss) : ∃ vs, Own base 28 1 w v xss.length vs := by obtain ⟨vs, h, _⟩ := h; exact ⟨vs, h⟩
theorem OwnRows.ge {P : Nat → Prop} {base : Nat} {w : World} {v : Value} {xss : List (List Int)} (h : OwnRows P base w v xss) : ∀ k, v.ownBlock = some k → base ≤ k ∧ k < w.heap.size := by obtain ⟨vs, h, _⟩ := h; exact h.ge
theorem OwnRows.no {P : Nat → Prop} {base : Nat} {w w' : World} {v : Value} {xss : List (List Int)} (h : OwnRows P base w v xss) (hx : Ext No w w') : OwnRows P base w' v xss := by
  obtain ⟨vs, h1, h2⟩ := h
  exact ⟨vs, h1.ext hx (fun _ _ h => h), fun j u xs hu hxs => (h2 j u xs hu hxs).no hx⟩
theorem OwnRows.ext {P X : Nat → Prop} {base : Nat} {w w' : World} {v : Value} {xss : List (List Int)} (h : OwnRows P base w v xss) (hx : Ext X w w') (h1 : ∀ k, v.ownBlock = some k → ¬ X k) (h2 : ∀ k, P k → ¬ X k) : OwnRows P base w' v xss := by
  obtain ⟨vs, g1, g2⟩ := h
  exact ⟨vs, g1.ext hx h1, fun j u xs hu hxs => (g2 j u xs hu hxs).ext hx (fun k hk => h2 k hk.1)⟩
theorem OwnRows.rows {P P' : Nat → Prop} {base : Nat} {w : World} {v : Value} {xss : List (List Int)} (h : OwnRows P base w v xss) (hb : xss.length ≤ 140737488355328) (h1 : ∀ k, v.ownBlock = some k → P' k) (h2 : ∀ k, P k → P' k) : RowsR P' w v xss := by
  obtain ⟨vs, g1, g2⟩ := h
  exact g1.rows hb h1 (fun j u xs hu hxs => (g2 j u xs hu hxs).imp (fun k _ hk => h2 k hk.1))
theorem OwnRows.slice {P : Nat → Prop} {base : Nat} {w : World} {v : Value} {xss : List (List Int)} (h : OwnRows P base w v xss) : ∃ A c, v = .slice A xss.length c := by obtain ⟨vs, h, _⟩ := h; exact Own.slice h
theorem OwnRows.step {P X : Nat → Prop} {w a b : World} {v : Value} {xss : List (List Int)} (h : OwnRows P w.heap.size a v xss) (hx : Ext X w a) (hk : Ext (fun k => some k = v.ownBlock) a b) : Ext X w b := by
  obtain ⟨vs, h, _⟩ := h
  exact Own.step h hx hk
section
variable {Pg : Program} {ops : Array Oper} {rest : List Oper} {o : Oper} {a : Act} {Q : Exit → Act → World → Prop}
theorem appRow {P : Nat → Prop} {W : World} (base : Nat) (hgd : o.guard = none) (s x : Operand) (t : TypeId)
    (ho : o.op = .call { callee := .builtin .append, args := #[s, x], argTypes := #[t, t] })
    (ht : Pg.underlying t = some (.slice 28)) (hinfo : (Pg.info? 28).map (fun i => (i.zero, i.size, i.bytes)) = some (some (.slice none 0 0), 1, 24))
    (v : Value) (xss : List (List Int)) (y : Value) (ys : List Int) (hs : a.eval s = v) {bs : Nat} (hx : a.eval x = .slice (some ⟨bs, 0, none⟩) 1 1) (hbs : bs = W.heap.size)
    (HO : OwnRows P base W v xss) (hy : IntsR .i64 (fun k => P k ∧ some k ≠ v.ownBlock) W y ys) (hbase : base ≤ W.heap.size) (hl : xss.length ≤ 1000000000)
    (h : ∀ v1 w1, OwnRows P base w1 v1 (xss ++ [ys]) → Ext (fun k => some k = v.ownBlock) W w1 → (v1.ownBlock = v.ownBlock ∨ ∃ b, v1.ownBlock = some b ∧ W.heap.size ≤ b) → (∃ A c, v1 = .slice A (xss.length + 1) c) → wpList Pg ops Q rest (a.put o.dst v1) w1) :
    wpList Pg ops Q (o :: rest) a (W.alloc (.cells #[y] 28)) := by
  obtain ⟨vs, g1, g2⟩ := HO
  obtain ⟨A, c, rfl, _⟩ := hy.at
  refine app1 base hgd s x t 28 _ 24 ho ht hinfo rfl (by decide) v xss.length vs _ hs hx hbs rfl g1 hbase (by omega) ?_
  intro v1 w1 h1 h2 h3 h4
  have hfix : ∀ (u : Value) (xs : List Int), IntsR .i64 (fun k => P k ∧ some k ≠ v.ownBlock) W u xs → IntsR .i64 (fun k => P k ∧ some k ≠ v1.ownBlock) w1 u xs := by
    intro u xs hu
    refine IntsR.ext (X := fun k => some k = v.ownBlock) (IntsR.imp (P' := fun k => (P k ∧ some k ≠ v1.ownBlock) ∧ some k ≠ v.ownBlock) hu ?_) h2 (fun k hk => hk.2) |>.imp (fun k _ hk => hk.1)
    rintro k hk ⟨hp, hne⟩
    refine ⟨⟨hp, ?_⟩, hne⟩
    rcases h3 with h3 | ⟨b, h3, hb⟩
    · rw [h3]; exact hne
    · rw [h3]; intro he; cases he; omega
  refine h v1 w1 ⟨vs ++ [.slice A ys.length c], by simpa using h1, fun j u xs hu hxs => ?_⟩ h2 h3 h4
  have hl := g1.len
  by_cases hj : j < xss.length
  · rw [List.getElem?_append_left (by omega)] at hu
    rw [List.getElem?_append_left hj] at hxs
    exact hfix u xs (g2 j u xs hu hxs)
  · rw [List.getElem?_append_right (by omega)] at hu
    rw [List.getElem?_append_right (by omega)] at hxs
    have hj0 : j - xss.length = 0 := by have := (List.getElem?_eq_some_iff.1 hxs).1; simp at this; omega
    rw [show j - vs.length = 0 by omega] at hu
    rw [hj0] at hxs
    simp at hu hxs
    subst hu; subst hxs
    exact hfix _ _ hy
end
theorem i3 : ∃ i, Tryd.prog.info? 3 = some i := by obtain ⟨i, h, _⟩ := Option.map_eq_some_iff.1 info3; exact ⟨i, h⟩
theorem i28 : ∃ i, Tryd.prog.info? 28 = some i := by obtain ⟨i, h, _⟩ := Option.map_eq_some_iff.1 info28; exact ⟨i, h⟩
theorem ints_own {base e n : Nat} {k : IntKind} {w : World} {v : Value} {xs : List Int} {P : Nat → Prop} (h : Own base e 1 w v n (xs.map (.int k))) (hb : xs.length ≤ 140737488355328) (hP : ∀ k, v.ownBlock = some k → P k) : IntsR k P w v xs := by
  have := h.len
  rw [List.length_map] at this
  subst this
  exact h.ints hb hP
end Go.Proofs.YtceiaekkfabeaaaDoor

/- Maps whose keys are integers, told as functions. -/
namespace Go.Proofs.YtceiaekkfabeaaaDoor
open Go.RowKit Go.MapKept Go.ChangeMaps

/-- A map that lies in block M reads as f. -/
def MapF (q : IntKind) (f : Int → Option Value) (w : World) (M : Nat) : Prop :=
  ∃ es clock, w.heap[M]? = some (.map es clock) ∧ (∀ e ∈ es.toList, ∃ x, e.key = .int q x ∧ f x = some e.val) ∧ (∀ x v, f x = some v → ∃ e ∈ es.toList, e.key = .int q x) ∧ es.toList.Pairwise (fun a b => a.key ≠ b.key)
theorem MapF.lt {q : IntKind} {f : Int → Option Value} {w : World} {M : Nat} (h : MapF q f w M) : M < w.heap.size := by
  obtain ⟨es, clock, hb, _⟩ := h
  exact (Array.getElem?_eq_some_iff.1 hb).1
theorem MapF.ext {q : IntKind} {f : Int → Option Value} {w w' : World} {M : Nat} {X : Nat → Prop} (h : MapF q f w M) (hx : Ext X w w') (hn : ¬ X M) : MapF q f w' M := by
  have hl := h.lt
  obtain ⟨es, clock, hb, r⟩ := h
  exact ⟨es, clock, (hx.block M hl hn).trans hb, r⟩
theorem MapF.made (q : IntKind) (w : World) : MapF q (fun _ => none) (w.alloc (.map #[] 0)) w.heap.size :=
  ⟨#[], 0, (MapKept.heap_alloc w _).1, by simp, by simp, by simp⟩

def upd (f : Int → Option Value) (x : Int) (v : Value) : Int → Option Value := fun y => if y = x then some v else f y

theorem MapF.look {P : Program} {q : IntKind} {f : Int → Option Value} {w : World} {M : Nat} (h : MapF q f w M) {t kt et : TypeId} (ht : P.underlying t = some (.map kt et)) (hk : P.underlying kt = some (.int q)) {z : Value} (hz : (zeroValue et).run P w = .ok z w) (x : Int) (c : Bool) :
    (Instr.lookup t (.map (some M)) (.int q x) c).run P w = .ok (if c then .tuple #[(f x).getD z, .bool (f x).isSome] else (f x).getD z) w := by
  obtain ⟨es, clock, hb, h1, h2, h3⟩ := h
  have hkey : IsKey (.int q) (.int q x) := by trivial
  have hks : ∀ y ∈ es.toList, IsKey (.int q) y.key := fun y hy => by
    obtain ⟨x, hx, _⟩ := h1 y hy
    rw [hx]; trivial
  rcases findNow_spec hkey es.toList 0 hks with ⟨e1, e2⟩ | ⟨j, e0, e1, e2, e3⟩
  · have hf : f x = none := by
      cases hf : f x with
      | none => rfl
      | some v =>
        obtain ⟨e, he, hke⟩ := h2 x v hf
        exact absurd hke (e2 e he)
    simp [Instr.lookup, run_underlying ht, MapKept.run_getObj_map hb, run_checkKey hk hkey, run_findKey hk e1, hz, hf, Result.andThen]
  · obtain ⟨x', hx', hf⟩ := h1 e0 (List.mem_of_getElem? e2)
    rw [e3] at hx'
    simp only [Value.int.injEq, true_and] at hx'
    subst hx'
    simp [Instr.lookup, run_underlying ht, MapKept.run_getObj_map hb, run_checkKey hk hkey, run_findKey hk e1, hf, Result.andThen]

theorem MapF.update {P : Program} {q : IntKind} {f : Int → Option Value} {w : World} {M : Nat} (h : MapF q f w M) {t kt et : TypeId} (ht : P.underlying t = some (.map kt et)) (hk : P.underlying kt = some (.int q)) (x : Int) (v : Value) :
    ∃ w', (Instr.mapUpdate t (.map (some M)) (.int q x) v).run P w = .ok () w' ∧ MapF q (upd f x v) w' M ∧ Ext (· = M) w w' ∧ w'.heap.size = w.heap.size := by
  have hl := h.lt
  obtain ⟨es, clock, hb, h1, h2, h3⟩ := h
  have hkey : IsKey (.int q) (.int q x) := by trivial
  have hks : ∀ y ∈ es.toList, IsKey (.int q) y.key := fun y hy => by
    obtain ⟨x, hx, _⟩ := h1 y hy
    rw [hx]; trivial
  have hext : ∀ o, Ext (· = M) w (setBlock w M o) := fun o => ⟨rfl, rfl, rfl, by simp [setBlock], fun k hk hne => by
    have : k ≠ M := hne
    simp [setBlock, Array.getElem?_setIfInBounds, Ne.symm this]⟩
  have hgot : ∀ o, (setBlock w M o).heap[M]? = some o := fun o => by simp [setBlock, hl]
  rcases findNow_spec hkey es.toList 0 hks with ⟨e1, e2⟩ | ⟨j, e0, e1, e2, e3⟩
  · refine ⟨setBlock w M (.map (es.push ⟨.int q x, v, clock⟩) (clock + 1)), ?_, ⟨_, _, hgot _, ?_, ?_, ?_⟩, hext _, by simp [setBlock]⟩
    · simp [Instr.mapUpdate, run_underlying ht, MapKept.run_getObj_map hb, run_checkKey hk hkey, run_findKey hk e1, MapKept.run_setObj_map _ hb, Result.andThen, setBlock]
    · intro e he
      simp only [Array.toList_push, List.mem_append, List.mem_singleton] at he
      rcases he with he | rfl
      · obtain ⟨y, hy, hf⟩ := h1 e he
        refine ⟨y, hy, ?_⟩
        have : y ≠ x := fun hh => e2 e he (by rw [hy, hh])
        simp [upd, this, hf]
      · exact ⟨x, rfl, by simp [upd]⟩
    · intro y u hy
      simp only [Array.toList_push, List.mem_append, List.mem_singleton]
      by_cases hyx : y = x
      · subst hyx
        exact ⟨_, Or.inr rfl, rfl⟩
      · simp only [upd, hyx, if_false] at hy
        obtain ⟨e, he, hke⟩ := h2 y u hy
        exact ⟨e, Or.inl he, hke⟩
    · rw [Array.toList_push, List.pairwise_append]
      exact ⟨h3, by simp, fun a ha b hb => by simp only [List.mem_singleton] at hb; subst hb; exact e2 a ha⟩
  · have hj : es[j]? = some e0 := by simpa using e2
    have hjl : j < es.toList.length := (List.getElem?_eq_some_iff.1 e2).1
    have hlist : (es.modify j (fun e' => { e' with key := .int q x, val := v })).toList = es.toList.set j { e0 with key := .int q x, val := v } := by rw [Array.toList_modify, modify_eq_set _ _ _ _ e2]
    have hkeys : (es.toList.set j { e0 with key := .int q x, val := v }).map (·.key) = es.toList.map (·.key) := by
      rw [List.map_set]
      apply List.ext_getElem? 
      intro i
      rw [List.getElem?_set]
      split
      · rename_i hij
        subst hij
        simp [e2, e3]; simpa using hjl
      · rfl
    have hpw : ∀ l : List MapEntry, l.Pairwise (fun a b => a.key ≠ b.key) ↔ (l.map (·.key)).Pairwise (· ≠ ·) := fun l => by rw [List.pairwise_map]
    have hother : ∀ e ∈ es.toList.set j { e0 with key := .int q x, val := v }, e = { e0 with key := .int q x, val := v } ∨ (e ∈ es.toList ∧ e.key ≠ .int q x) := by
      intro e he
      obtain ⟨i, hi, ex⟩ := List.getElem_of_mem he
      rw [List.getElem_set] at ex
      split at ex
      · exact Or.inl ex.symm
      · rename_i hne
        have hi' : i < es.toList.length := by simpa using hi
        refine Or.inr ⟨ex ▸ List.getElem_mem hi', ?_⟩
        rw [List.pairwise_iff_getElem] at h3
        obtain ⟨_, e2'⟩ := List.getElem?_eq_some_iff.1 e2
        have hk3 : es.toList[j].key = .int q x := by rw [e2', e3]
        rw [← hk3, ← ex]
        rcases Nat.lt_or_gt_of_ne hne with hlt | hgt
        · exact (h3 j i hjl hi' hlt).symm
        · exact h3 i j hi' hjl hgt
    refine ⟨setBlock w M (.map (es.modify j (fun e' => { e' with key := .int q x, val := v })) clock), ?_, ⟨_, _, hgot _, ?_, ?_, ?_⟩, hext _, by simp [setBlock]⟩
    · simp [Instr.mapUpdate, run_underlying ht, MapKept.run_getObj_map hb, run_checkKey hk hkey, run_findKey hk e1, hj, e3, run_keyThatStays hkey, MapKept.run_setObj_map _ hb, Result.andThen, setBlock]
    · rw [hlist]
      intro e he
      rcases hother e he with rfl | ⟨he, hne⟩
      · exact ⟨x, rfl, by simp [upd]⟩
      · obtain ⟨y, hy, hf⟩ := h1 e he
        have : y ≠ x := fun hh => hne (by rw [hy, hh])
        exact ⟨y, hy, by simp [upd, this, hf]⟩
    · rw [hlist]
      intro y u hy
      have hmem : ∀ y u, f y = some u → ∃ e ∈ es.toList.set j { e0 with key := .int q x, val := v }, e.key = .int q y := fun y u hy => by
        obtain ⟨e, he, hke⟩ := h2 y u hy
        have : Value.int q y ∈ (es.toList.set j { e0 with key := .int q x, val := v }).map (·.key) := by
          rw [hkeys, List.mem_map]; exact ⟨e, he, hke⟩
        obtain ⟨e', he', hk'⟩ := List.mem_map.1 this
        exact ⟨e', he', hk'⟩
      by_cases hyx : y = x
      · subst hyx
        obtain ⟨x', hx', hf⟩ := h1 e0 (List.mem_of_getElem? e2)
        rw [e3] at hx'
        simp only [Value.int.injEq, true_and] at hx'
        subst hx'
        exact hmem _ _ hf
      · simp only [upd, hyx, if_false] at hy
        exact hmem _ _ hy
    · rw [hlist, hpw, hkeys, ← hpw]; exact h3

section
variable {P : Program} (w : World) {ops : Array Oper} {rest : List Oper} {o : Oper} {a : Act} {Q : Exit → Act → World → Prop}
theorem wpList_look (hg : o.guard = none) (m x : Operand) (t : TypeId) (c : Bool) (hop : o.op = Op.lookup t m x c)
    {v : Value} {M : Nat} {xv : Value} (hm : a.eval m = .map (some M)) (hx : a.eval x = xv) (hrun : (Instr.lookup t (.map (some M)) xv c).run P w = .ok v w) (hK : wpList P ops Q rest (a.put o.dst v) w) : wpList P ops Q (o :: rest) a w := by
  refine wpList_plain hg fun K' hK' => ?_
  unfold Oper.wp
  simp [execOp, hop, hm, hx, hrun, Result.andThen]
  exact hK' _ _ hK
theorem wpList_update (hg : o.guard = none) (m x v : Operand) (t : TypeId) (hop : o.op = Op.mapUpdate t m x v)
    {M : Nat} {xv vv : Value} {w' : World} (hm : a.eval m = .map (some M)) (hx : a.eval x = xv) (hv : a.eval v = vv) (hrun : (Instr.mapUpdate t (.map (some M)) xv vv).run P w = .ok () w') (hK : wpList P ops Q rest (a.put o.dst undef) w') : wpList P ops Q (o :: rest) a w := by
  refine wpList_plain hg fun K' hK' => ?_
  unfold Oper.wp
  simp [execOp, hop, hm, hx, hv, hrun, Result.andThen]
  exact hK' _ _ hK
end
end Go.Proofs.YtceiaekkfabeaaaDoor

/- Words: sets of vertices as whole numbers of 64 bits. -/
namespace Go.Proofs.YtceiaekkfabeaaaDoor
open Go.RowKit Pl

/-- What one number has of bits, and the other has not. -/
def sdn (a b : Nat) : Nat := a ^^^ (a &&& b)
theorem sdn_testBit (a b i : Nat) : (sdn a b).testBit i = (a.testBit i && !b.testBit i) := by
  simp only [sdn, Nat.testBit_xor, Nat.testBit_and]
  cases a.testBit i <;> cases b.testBit i <;> rfl
theorem sdn_lt {a b n : Nat} (h : a < 2 ^ n) : sdn a b < 2 ^ n := Nat.xor_lt_two_pow h (Nat.lt_of_le_of_lt Nat.and_le_left h)
theorem ofInt64 {a : Nat} (ha : a < 18446744073709551616) : (BitVec.ofInt 64 (a : Int)).toNat = a := by
  rw [BitVec.ofInt_natCast, BitVec.toNat_ofNat]; exact Nat.mod_eq_of_lt (by omega)
theorem wrap_nat {a : Nat} (ha : a < 18446744073709551616) : IntKind.u64.wrap (a : Int) = (a : Int) := by rw [IntKind.wrap_u64]; omega
theorem or_u64 {a b : Nat} (ha : a < 4294967296) (hb : b < 4294967296) : bits .or .u64 (a : Int) (b : Int) = ((a ||| b : Nat) : Int) := by
  have hx : a ||| b < 2 ^ 32 := Nat.or_lt_two_pow (by omega) (by omega)
  show IntKind.u64.wrap ((BitVec.ofInt 64 (a : Int) ||| BitVec.ofInt 64 (b : Int)).toNat : Int) = _
  rw [BitVec.toNat_or, ofInt64 (by omega), ofInt64 (by omega), wrap_nat (by omega)]
theorem and_u64 {a b : Nat} (ha : a < 4294967296) (hb : b < 4294967296) : bits .and .u64 (a : Int) (b : Int) = ((a &&& b : Nat) : Int) := by
  have hx : a &&& b < 2 ^ 32 := Nat.and_lt_two_pow _ (by omega)
  show IntKind.u64.wrap ((BitVec.ofInt 64 (a : Int) &&& BitVec.ofInt 64 (b : Int)).toNat : Int) = _
  rw [BitVec.toNat_and, ofInt64 (by omega), ofInt64 (by omega), wrap_nat (by omega)]
theorem andNot_u64 {a b : Nat} (ha : a < 4294967296) (hb : b < 4294967296) : bits .andNot .u64 (a : Int) (b : Int) = ((sdn a b : Nat) : Int) := by
  have hx : sdn a b < 2 ^ 32 := sdn_lt (by omega)
  have h1 : (BitVec.ofInt 64 (a : Int) &&& ~~~ BitVec.ofInt 64 (b : Int)).toNat = sdn a b := by
    apply Nat.eq_of_testBit_eq
    intro i
    rw [sdn_testBit]
    have e1 : ∀ (x : Nat), x < 18446744073709551616 → (BitVec.ofInt 64 (x : Int)).getLsbD i = x.testBit i := fun x hx => by
      rw [← BitVec.testBit_toNat, ofInt64 hx]
    rw [BitVec.testBit_toNat, BitVec.getLsbD_and, BitVec.getLsbD_not, e1 a (by omega), e1 b (by omega)]
    by_cases hi : i < 64
    · simp [hi]
    · have : a.testBit i = false := Nat.testBit_lt_two_pow (Nat.lt_of_lt_of_le (show a < 2 ^ 32 by omega) (Nat.pow_le_pow_right (by omega) (by omega)))
      simp [this]
  show IntKind.u64.wrap ((BitVec.ofInt 64 (a : Int) &&& ~~~ BitVec.ofInt 64 (b : Int)).toNat : Int) = _
  rw [h1, wrap_nat (by omega)]
theorem pow_lt_32 {n : Nat} (h : n < 32) : 2 ^ n < 4294967296 := by
  have := Nat.pow_lt_pow_right (a := 2) (by omega) h
  simpa using this
theorem wrap_pow {n : Nat} (h : n < 32) : IntKind.u64.wrap ((2 : Int) ^ n) = ((2 ^ n : Nat) : Int) := by
  have h1 := pow_lt_32 h
  have : ((2 : Int) ^ n) = ((2 ^ n : Nat) : Int) := by simp
  rw [this, wrap_nat (by omega)]
theorem or_lt {a b : Nat} (ha : a < 4294967296) (hb : b < 4294967296) : a ||| b < 4294967296 := by
  have : a ||| b < 2 ^ 32 := Nat.or_lt_two_pow (by omega) (by omega)
  omega
theorem and_lt {a b : Nat} (ha : a < 4294967296) : a &&& b < 4294967296 := Nat.lt_of_le_of_lt Nat.and_le_left ha
theorem sdn_lt' {a b : Nat} (ha : a < 4294967296) : sdn a b < 4294967296 := by
  have : sdn a b < 2 ^ 32 := sdn_lt (by omega)
  omega
/-- The set of some vertices. -/
def ofTo (l : List Int) : Nat := l.foldl (fun s v => s ||| 2 ^ v.toNat) 0
theorem ofTo_succ {l : List Int} {k : Nat} {x : Int} (hx : l[k]? = some x) : ofTo (l.take (k+1)) = ofTo (l.take k) ||| 2 ^ x.toNat := by
  obtain ⟨hk, rfl⟩ := List.getElem?_eq_some_iff.1 hx
  unfold ofTo
  rw [List.take_succ_eq_append_getElem hk, List.foldl_append]; rfl
/-- All numbers of a row are bits' places. -/
def smallL (l : List Int) : Prop := ∀ x ∈ l, 0 ≤ x ∧ x < 32
theorem ofTo_lt {l : List Int} (h : smallL l) : ofTo l < 4294967296 := by
  unfold ofTo
  have : ∀ (l : List Int) (s : Nat), smallL l → s < 4294967296 → l.foldl (fun s v => s ||| 2 ^ v.toNat) s < 4294967296 := by
    intro l
    induction l with
    | nil => intro s _ hs; exact hs
    | cons x l ih =>
      intro s hl hs
      have hx := hl x (by simp)
      exact ih _ (fun y hy => hl y (by simp [hy])) (or_lt hs (pow_lt_32 (by omega)))
  exact this l 0 h (by omega)
end Go.Proofs.YtceiaekkfabeaaaDoor
