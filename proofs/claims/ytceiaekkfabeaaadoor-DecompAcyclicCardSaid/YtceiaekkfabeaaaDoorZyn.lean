/- Words and contracts for: DecompAcyclic: for every hypergraph the law answers true, and its arguments read as before. No condition; the library's table math/bits.deBruijn64tab is laid by its text. -/
import Derived.LoopN
import Derived.Shelf.SlSortCmp.Small
import Derived.Shelf.Small.Bits
import Derived.Ground.SlsfProg
import Derived.Ground.NamesProg
import Derived.Test.YtceiaekkfabeaaaDoorZym
/- Words for the walk of the reduction: what is left as a map, how many are left, which vertices stand twice. -/
namespace Go.Proofs.YtceiaekkfabeaaaDoor
open Go.RowKit Pl

/-- What is left, as a map's function. -/
def gF (g : Nat → Option Nat) : Int → Option Value := fun x => if 0 ≤ x then (g x.toNat).map (fun s : Nat => Value.int .u64 (s : Int)) else none
theorem gF_at (g : Nat → Option Nat) (i : Nat) : gF g (i : Int) = (g i).map (fun s : Nat => Value.int .u64 (s : Int)) := by
  rw [gF, if_pos (by omega), Int.toNat_natCast]
theorem gF_some {g : Nat → Option Nat} {i s : Nat} (h : g i = some s) : gF g (i : Int) = some (.int .u64 (s : Int)) := by rw [gF_at, h]; rfl
theorem gF_none {g : Nat → Option Nat} {i : Nat} (h : g i = none) : gF g (i : Int) = none := by rw [gF_at, h]; rfl
theorem gF_key {g : Nat → Option Nat} {x : Int} {v : Value} (h : gF g x = some v) : ∃ i s : Nat, x = (i : Int) ∧ g i = some s ∧ v = .int .u64 (s : Int) := by
  unfold gF at h
  split at h
  · rename_i h0
    obtain ⟨i, rfl⟩ := Int.eq_ofNat_of_zero_le h0
    rw [Int.toNat_natCast, Option.map_eq_some_iff] at h
    obtain ⟨s, hs, rfl⟩ := h
    exact ⟨i, s, rfl, hs, rfl⟩
  · cases h
theorem gF_upd (g : Nat → Option Nat) (i s : Nat) : upd (gF g) (i : Int) (.int .u64 (s : Int)) = gF (setG g i (some s)) := by
  funext x
  unfold upd
  by_cases hx : x = (i : Int)
  · subst hx; rw [if_pos rfl, gF_at, setG_eq]; rfl
  · rw [if_neg hx]
    unfold gF
    split
    · rename_i h0
      rw [setG_ne]; omega
    · rfl
theorem gF_del (g : Nat → Option Nat) (i : Nat) : delF (gF g) (i : Int) = gF (setG g i none) := by
  funext x
  unfold delF
  by_cases hx : x = (i : Int)
  · subst hx; rw [if_pos rfl, gF_at, setG_eq]; rfl
  · rw [if_neg hx]
    unfold gF
    split
    · rename_i h0
      rw [setG_ne]; omega
    · rfl
theorem gF_inj {g g' : Nat → Option Nat} (h : gF g = gF g') : g = g' := by
  funext i
  have := congrFun h (i : Int)
  rw [gF_at, gF_at] at this
  cases h1 : g i with
  | none => cases h2 : g' i with
    | none => rfl
    | some s => rw [h1, h2] at this; cases this
  | some s => cases h2 : g' i with
    | none => rw [h1, h2] at this; cases this
    | some s' =>
      rw [h1, h2] at this
      simp only [Option.map_some, Option.some.injEq, Value.int.injEq, true_and] at this
      have : s = s' := by omega
      rw [this]
theorem MapF.uniq {q : IntKind} {f f' : Int → Option Value} {w : World} {M : Nat} (h : MapF q f w M) (h' : MapF q f' w M) : f = f' := by
  have key : ∀ {f f' : Int → Option Value}, MapF q f w M → MapF q f' w M → ∀ x v, f x = some v → f' x = some v := by
    intro f f' h h' x v hv
    obtain ⟨es, clock, hb, h1, h2, h3⟩ := h
    obtain ⟨k1, k2, _⟩ := h'.keys hb
    obtain ⟨e, he, hke⟩ := h2 x v hv
    obtain ⟨y, hy, hfy⟩ := h1 e he
    obtain ⟨z, hz, hfz⟩ := k1 e he
    rw [hke] at hy hz
    cases hy; cases hz
    rw [hv] at hfy
    rw [hfz, ← hfy]
  funext x
  cases h1 : f x with
  | some v => exact (key h h' x v h1).symm
  | none =>
    cases h2 : f' x with
    | none => rfl
    | some v => rw [key h' h x v h2] at h1; cases h1
/-- How many are left. -/
def live : Nat → (Nat → Option Nat) → Nat
  | 0, _ => 0
  | n + 1, g => live n g + (if (g n).isSome then 1 else 0)
theorem live_ge {g : Nat → Option Nat} {i : Nat} {o : Option Nat} : ∀ {n : Nat}, n ≤ i → live n (setG g i o) = live n g
  | 0, _ => rfl
  | n + 1, h => by rw [live, live, live_ge (by omega), setG_ne (by omega)]
theorem live_some {g : Nat → Option Nat} {i s t : Nat} (h : g i = some s) : ∀ n, live n (setG g i (some t)) = live n g
  | 0 => rfl
  | n + 1 => by
    rw [live, live, live_some h n]
    by_cases hni : n = i
    · subst hni; rw [setG_eq, h]; rfl
    · rw [setG_ne hni]
theorem live_none {g : Nat → Option Nat} {i s : Nat} (h : g i = some s) : ∀ {n : Nat}, i < n → live n (setG g i none) + 1 = live n g
  | 0, hi => by omega
  | n + 1, hi => by
    by_cases hni : n = i
    · subst hni
      rw [live, live, live_ge (Nat.le_refl _), setG_eq, h]; rfl
    · rw [live, live, setG_ne hni]
      have := live_none h (n := n) (by omega)
      omega
open Classical in
/-- How many are left of a map in a world. -/
noncomputable def liveW (E M : Nat) (w : World) : Nat := if h : ∃ g, MapF .i64 (gF g) w M then live E (Classical.choose h) else 0
theorem liveW_eq {E M : Nat} {w : World} {g : Nat → Option Nat} (h : MapF .i64 (gF g) w M) : liveW E M w = live E g := by
  have hex : ∃ g, MapF .i64 (gF g) w M := ⟨g, h⟩
  rw [liveW, dif_pos hex]
  rw [gF_inj ((Classical.choose_spec hex).uniq h)]
/-- Key x has vertex u. -/
def bitK (g : Nat → Option Nat) (x : Int) (u : Nat) : Prop := ∃ i s : Nat, x = (i : Int) ∧ g i = some s ∧ s.testBit u = true
/-- What stands once, and twice, in the keys that have come. -/
def FoldI (g : Nat → Option Nat) (ks : List Int) (o t : Nat) : Prop := o < 4294967296 ∧ t < 4294967296 ∧ (∀ u, o.testBit u = true ↔ ∃ x ∈ ks, bitK g x u) ∧ ∀ u, t.testBit u = true ↔ ∃ x ∈ ks, ∃ y ∈ ks, x ≠ y ∧ bitK g x u ∧ bitK g y u
theorem FoldI.start (g : Nat → Option Nat) : FoldI g [] 0 0 := ⟨by omega, by omega, by simp, by simp⟩
theorem FoldI.step {g : Nat → Option Nat} {ks : List Int} {o t i s : Nat} (h : FoldI g ks o t) (hg : g i = some s) (hs : s < 4294967296) (hk : (i : Int) ∉ ks) : FoldI g ((i : Int) :: ks) (o ||| s) (t ||| (o &&& s)) := by
  obtain ⟨h1, h2, h3, h4⟩ := h
  have hb : ∀ u, bitK g (i : Int) u ↔ s.testBit u = true := fun u => by
    constructor
    · rintro ⟨j, r, hj, hr, hu⟩
      obtain rfl : i = j := by omega
      rw [hg] at hr; cases hr; exact hu
    · exact fun hu => ⟨i, s, rfl, hg, hu⟩
  refine ⟨or_lt h1 hs, or_lt h2 (Nat.lt_of_le_of_lt Nat.and_le_left h1), fun u => ?_, fun u => ?_⟩
  · rw [Nat.testBit_or, Bool.or_eq_true, h3]
    constructor
    · rintro (⟨x, hx, hxu⟩ | hu)
      · exact ⟨x, List.mem_cons_of_mem _ hx, hxu⟩
      · exact ⟨_, by simp, (hb u).2 hu⟩
    · rintro ⟨x, hx, hxu⟩
      rcases List.mem_cons.1 hx with rfl | hx
      · exact Or.inr ((hb u).1 hxu)
      · exact Or.inl ⟨x, hx, hxu⟩
  · rw [Nat.testBit_or, Nat.testBit_and, Bool.or_eq_true, Bool.and_eq_true, h4, h3]
    constructor
    · rintro (⟨x, hx, y, hy, hne, h5, h6⟩ | ⟨⟨x, hx, hxu⟩, hu⟩)
      · exact ⟨x, List.mem_cons_of_mem _ hx, y, List.mem_cons_of_mem _ hy, hne, h5, h6⟩
      · exact ⟨x, List.mem_cons_of_mem _ hx, (i : Int), by simp, fun hh => hk (by rw [← hh]; exact hx), hxu, (hb u).2 hu⟩
    · rintro ⟨x, hx, y, hy, hne, h5, h6⟩
      rcases List.mem_cons.1 hx with rfl | hx
      · rcases List.mem_cons.1 hy with rfl | hy
        · exact absurd rfl hne
        · exact Or.inr ⟨⟨y, hy, h6⟩, (hb u).1 h5⟩
      · rcases List.mem_cons.1 hy with rfl | hy
        · exact Or.inr ⟨⟨x, hx, h5⟩, (hb u).1 h6⟩
        · exact Or.inl ⟨x, hx, y, hy, hne, h5, h6⟩
/-- Which vertices stand in two that are left. -/
def TwiceOf (g : Nat → Option Nat) (t : Nat) : Prop := t < 4294967296 ∧ ∀ u, t.testBit u = true ↔ ∃ i j s r, i ≠ j ∧ g i = some s ∧ g j = some r ∧ s.testBit u = true ∧ r.testBit u = true
theorem FoldI.all {g : Nat → Option Nat} {ks : List Int} {o t : Nat} (h : FoldI g ks o t) (hall : ∀ x, (gF g x).isSome = true → x ∈ ks) : TwiceOf g t := by
  obtain ⟨h1, h2, h3, h4⟩ := h
  have hin : ∀ i s, g i = some s → (i : Int) ∈ ks := fun i s hi => hall _ (by rw [gF_some hi]; rfl)
  refine ⟨h2, fun u => ?_⟩
  rw [h4]
  constructor
  · rintro ⟨x, _, y, _, hne, ⟨i, s, rfl, hi, hu⟩, ⟨j, r, rfl, hj, hv⟩⟩
    exact ⟨i, j, s, r, fun hh => hne (by rw [hh]), hi, hj, hu, hv⟩
  · rintro ⟨i, j, s, r, hne, hi, hj, hu, hv⟩
    exact ⟨_, hin i s hi, _, hin j r hj, fun hh => hne (by omega), ⟨i, s, rfl, hi, hu⟩, ⟨j, r, rfl, hj, hv⟩⟩
/-- What is left lies within so many places, each less than the word's half. -/
def BndG (E : Nat) (g : Nat → Option Nat) : Prop := ∀ i s, g i = some s → i < E ∧ s < 4294967296
theorem BndG.trim {E : Nat} {g : Nat → Option Nat} {i s t : Nat} (h : BndG E g) (hi : g i = some s) : BndG E (setG g i (some (s &&& t))) := fun j r hj => by
  by_cases hji : j = i
  · subst hji
    rw [setG_eq] at hj; cases hj
    exact ⟨(h _ _ hi).1, Nat.lt_of_le_of_lt Nat.and_le_left (h _ _ hi).2⟩
  · rw [setG_ne hji] at hj; exact h j r hj
theorem BndG.none {E : Nat} {g : Nat → Option Nat} {i : Nat} (h : BndG E g) : BndG E (setG g i Option.none) := fun j r hj => by
  by_cases hji : j = i
  · subst hji
    rw [setG_eq] at hj; cases hj
  · rw [setG_ne hji] at hj; exact h j r hj
theorem TwiceOf.trim {g : Nat → Option Nat} {t i s : Nat} (h : TwiceOf g t) (hi : g i = some s) : TwiceOf (setG g i (some (s &&& t))) t := by
  obtain ⟨h0, h1⟩ := h
  have up : ∀ j r u, g j = some r → t.testBit u = true → r.testBit u = true → ∃ r', setG g i (some (s &&& t)) j = some r' ∧ r'.testBit u = true := fun j r u hj ht hr => by
    by_cases hji : j = i
    · subst hji
      rw [hi] at hj; cases hj
      exact ⟨s &&& t, setG_eq _ _ _, by rw [Nat.testBit_and, hr, ht]; rfl⟩
    · exact ⟨r, by rw [setG_ne hji]; exact hj, hr⟩
  have down : ∀ j r u, setG g i (some (s &&& t)) j = some r → r.testBit u = true → ∃ r', g j = some r' ∧ r'.testBit u = true := fun j r u hj hr => by
    by_cases hji : j = i
    · subst hji
      rw [setG_eq] at hj; cases hj
      rw [Nat.testBit_and, Bool.and_eq_true] at hr
      exact ⟨s, hi, hr.1⟩
    · rw [setG_ne hji] at hj; exact ⟨r, hj, hr⟩
  refine ⟨h0, fun u => ?_⟩
  constructor
  · intro hu
    obtain ⟨a, b, x, y, hne, ha, hb, hx, hy⟩ := (h1 u).1 hu
    obtain ⟨x', ha', hx'⟩ := up a x u ha hu hx
    obtain ⟨y', hb', hy'⟩ := up b y u hb hu hy
    exact ⟨a, b, x', y', hne, ha', hb', hx', hy'⟩
  · rintro ⟨a, b, x, y, hne, ha, hb, hx, hy⟩
    obtain ⟨x', ha', hx'⟩ := down a x u ha hx
    obtain ⟨y', hb', hy'⟩ := down b y u hb hy
    exact (h1 u).2 ⟨a, b, x', y', hne, ha', hb', hx', hy'⟩
theorem TwiceOf.step {g : Nat → Option Nat} {t i s : Nat} (h : TwiceOf g t) (hi : g i = some s) : GStep g (setG g i (some (s &&& t))) :=
  .trim hi fun u hu ht j s' hji hj => by
    cases hb : s'.testBit u with
    | false => rfl
    | true =>
      have := (h.2 u).2 ⟨i, j, s, s', Ne.symm hji, hi, hj, hu, hb⟩
      rw [ht] at this; cases this
/-- Those up to a place are done: none can go. -/
def DoneTo (g : Nat → Option Nat) (t k : Nat) : Prop := ∀ i s, i < k → g i = some s → s ≠ 0 ∧ SubN s t ∧ ∀ j r, j ≠ i → g j = some r → ¬ SubN s r
theorem DoneTo.none {g : Nat → Option Nat} {t k : Nat} (h : DoneTo g t k) (hk : g k = Option.none) : DoneTo g t (k + 1) := fun i s hi hs => by
  by_cases hik : i = k
  · subst hik; rw [hk] at hs; cases hs
  · exact h i s (by omega) hs
theorem DoneTo.trim {g : Nat → Option Nat} {t k s : Nat} (h : DoneTo g t k) (hk : g k = some s) (h0 : s &&& t ≠ 0) (hno : ∀ j r, j ≠ k → g j = some r → ¬ SubN (s &&& t) r) : DoneTo (setG g k (some (s &&& t))) t (k + 1) := fun i x hi hx => by
  by_cases hik : i = k
  · subst hik
    rw [setG_eq] at hx; cases hx
    refine ⟨h0, fun u hu => by rw [Nat.testBit_and, Bool.and_eq_true] at hu; exact hu.2, fun j r hji hj => ?_⟩
    rw [setG_ne hji] at hj; exact hno j r hji hj
  · rw [setG_ne hik] at hx
    obtain ⟨a1, a2, a3⟩ := h i x (by omega) hx
    refine ⟨a1, a2, fun j r hji hj => ?_⟩
    by_cases hjk : j = k
    · subst hjk
      rw [setG_eq] at hj; cases hj
      exact fun hsub => a3 j s hji hk fun u hu => by
        have := hsub u hu
        rw [Nat.testBit_and, Bool.and_eq_true] at this; exact this.1
    · rw [setG_ne hjk] at hj; exact a3 j r hji hj
theorem DoneTo.stuck {g : Nat → Option Nat} {t E : Nat} (h : DoneTo g t E) (ht : TwiceOf g t) (hb : BndG E g) : Stuck g := fun i s hi => by
  obtain ⟨a1, a2, a3⟩ := h i s (hb i s hi).1 hi
  refine ⟨a1, fun u hu => ?_, fun k r hki hk => a3 k r hki hk⟩
  obtain ⟨a, b, x, y, hne, ha, hb', hx, hy⟩ := (ht.2 u).1 (a2 u hu)
  by_cases hai : a = i
  · exact ⟨b, y, fun hbi => hne (by rw [hai, hbi]), hb', hy⟩
  · exact ⟨a, x, hai, ha, hx⟩
theorem subN_iff {a b : Nat} : SubN a b ↔ sdn a b = 0 := by rw [sdn_zero]; exact Iff.rfl
theorem start_bnd {many : Int} {es : List (List Int)} (h : smallE es) : BndG es.length (startG es) := fun i s hi => by
  rw [startG, Option.map_eq_some_iff] at hi
  obtain ⟨e, he, rfl⟩ := hi
  exact ⟨(List.getElem?_eq_some_iff.1 he).1, ofTo_lt (h e (List.mem_of_getElem? he))⟩
/-- The edges up to a place, as they begin. -/
def startTo (es : List (List Int)) (k : Nat) : Nat → Option Nat := fun i => if i < k then startG es i else none
theorem startTo_zero (es : List (List Int)) : gF (startTo es 0) = fun _ => none := by
  funext x
  unfold gF startTo
  split <;> simp
theorem startTo_succ {es : List (List Int)} {k : Nat} {s : Nat} (h : (es.map ofTo)[k]? = some s) : startTo es (k + 1) = setG (startTo es k) k (some s) := by
  funext i
  unfold startTo setG
  by_cases hik : i = k
  · subst hik
    rw [if_pos (by omega), if_pos rfl, startG, ← List.getElem?_map]; exact h
  · rw [if_neg hik]
    show (if i < k + 1 then startG es i else none) = if i < k then startG es i else none
    by_cases h1 : i < k
    · rw [if_pos h1, if_pos (by omega)]
    · rw [if_neg h1, if_neg (by omega)]
theorem startTo_all (es : List (List Int)) : startTo es es.length = startG es := by
  funext i
  unfold startTo
  by_cases h : i < es.length
  · rw [if_pos h]
  · rw [if_neg h, startG, List.getElem?_eq_none (by omega)]; rfl
end Go.Proofs.YtceiaekkfabeaaaDoor

/- The walk over hyper.reduced. -/
namespace Go.Proofs.YtceiaekkfabeaaaDoor
open Go.RowKit Go.Shelf Pl

theorem setG_setG (g : Nat → Option Nat) (i : Nat) (o o' : Option Nat) : setG (setG g i o) i o' = setG g i o' := by
  funext j
  unfold setG
  by_cases h : j = i <;> simp [h]
theorem zero96 (w : World) : (zeroValue 96).run Tryd.prog w = .ok (.int .u64 0) w := by kernel_rfl
theorem and_lt32 {a b : Nat} (h : a < 4294967296) : a &&& b < 4294967296 := Nat.lt_of_le_of_lt Nat.and_le_left h
theorem zero_u64 {n : Nat} : ((n : Int) == 0) = decide (n = 0) := by
  cases n with
  | zero => rfl
  | succ n => simp; omega
theorem sub_u64 {a b : Nat} (ha : a < 4294967296) (hb : b < 4294967296) : (bits .andNot .u64 (a : Int) (b : Int) == 0) = decide (sdn a b = 0) := by
  rw [andNot_u64 ha hb, zero_u64]

set_option maxHeartbeats 4000000 in
set_option maxRecDepth 100000 in
theorem reduced_any {P : Nat → Prop} (many : Int) (ev : Value) (es : List (List Int)) (w : World) (he : RowsR P w ev es) (hs : smallE es) (h8 : es.length ≤ 8) :
    Calls Tryd.prog 83 #[.agg #[.int .i64 many, ev]] w fun e w' => ∃ v g, e = .returned (.tuple #[.map (some (w.heap.size + 1)), v]) ∧ MapS .i64 (gF g) w' (w.heap.size + 1) ∧ Reach (startG es) g ∧ Stuck g ∧ BndG es.length g ∧ Ext No w w' := by
  obtain ⟨A, c, rfl, _⟩ := he.at
  have hmm := fun w => run_makeMap (P := Tryd.prog) 117 w
  have HE := Sid.mk he
  have HSM := Sid.mk hs
  clear he hs
  have HB0 : Sid (∀ w', Ext No (w.alloc (.cells #[.int .i64 many, .slice A es.length c] 24)) w' → w'.cell? ⟨w.heap.size, 0, none⟩ = some (.int .i64 many) ∧ w'.cell? ⟨w.heap.size, 1, none⟩ = some (.slice A es.length c)) := ⟨fun w' hx => ⟨hx.no (by simp), hx.no (by simp)⟩⟩
  obtain ⟨wb, hwb⟩ : ∃ wb : World, wb = w.alloc (.cells #[.int .i64 many, .slice A es.length c] 24) := ⟨_, rfl⟩
  have hwbs : wb.heap.size = w.heap.size + 1 := by rw [hwb]; simp
  have HWB := Sid.mk hwb
  have HWS := Sid.mk hwbs
  clear hwb hwbs
  obtain ⟨J, hJ⟩ : ∃ J : Act → World → Prop, J = fun a' w' => ∃ (G : Nat) (g : Nat → Option Nat) (u0 u2 u3 u5 u6 u8 u9 u10 u11 u12 u13 u14 u15 u16 u17 u18 u19 u20 u21 u22 u23 u24 u25 u26 u27 u28 u29 u30 u31 u32 u33 u34 u35 u36 u37 u38 u39 u40 u41 u42 u43 u44 u45 u46 u47 u48 u49 u50 u51 u52 u53 u54 u55 u56 u57 u58 u59 u60 u61 u62 u63 u64 u65 u66 u67 u68 u69 u70 u71 u72 u73 u74 u75 u76 u77 u78 u79 u80 u81 u82 u83 u84 u85 u86 u87 u88 u89 u90 u91 u92 u93 u94 u95 u96 u97 u98 u99 u100 u101 u102 u103 u104 u105 u106 u107 : Value), a' = { tmps := #[u0, Value.pointer (some ⟨w.heap.size, 0, none⟩), u2, u3, Value.map (some (w.heap.size + 1)), u5, u6, Value.slice (some ⟨G, 0, none⟩) es.length es.length, u8, u9, u10, u11, u12, u13, u14, u15, u16, u17, u18, u19, u20, u21, u22, u23, u24, u25, u26, u27, u28, u29, u30, u31, u32, u33, u34, u35, u36, u37, u38, u39, u40, u41, u42, u43, u44, u45, u46, u47, u48, u49, u50, u51, u52, u53, u54, u55, u56, u57, u58, u59, u60, u61, u62, u63, u64, u65, u66, u67, u68, u69, u70, u71, u72, u73, u74, u75, u76, u77, u78, u79, u80, u81, u82, u83, u84, u85, u86, u87, u88, u89, u90, u91, u92, u93, u94, u95, u96, u97, u98, u99, u100, u101, u102, u103, u104, u105, u106, u107], defers := [] } ∧ Sid (w.heap.size + 1 < G) ∧ Sid (MapS .i64 (gF g) w' (w.heap.size + 1)) ∧ Sid (IntRow w' G es.length) ∧ Sid (Reach (startG es) g) ∧ Sid (BndG es.length g) ∧ Sid (Ext No wb w') := ⟨_, rfl⟩
  have HJ := Sid.mk hJ
  clear hJ
  go_enter Tryd.func83, Tryd.ntmps83
  go_wp2
  refine wp_scope_label 0 J (fun _ w' => liveW es.length (w.heap.size + 1) w') rfl ?_ ?_
  · intro hlab
    go_wp2_with (first
      | (go_at_call 74; refine (sets_any many _ es _ (HE.out.no ((ext_box _).trans (ext_box _))) HSM.out (by omega)).mono ?_; rintro e w6 ⟨v6, rfl, hr6, hx6⟩; obtain ⟨A6, c6, rfl, _⟩ := hr6.at; rw [natsI_len, List.length_map] at hr6 ⊢; have HR6 := Sid.mk hr6; have HX6 := Sid.mk hx6; clear hr6 hx6)
      | fail)
    obtain ⟨_, hs6⟩ := SetsR_at HR6.out
    have HS6 := Sid.mk hs6
    clear hs6
    have HM0 : Sid (MapS .i64 (gF (startTo es 0)) w6 (w.heap.size + 1)) := ⟨by
      rw [startTo_zero]
      have h := (MapS.made .i64 wb).ext (w' := w6) (X := No) (by rw [HWB.out]; exact HX6.out) (fun h => h)
      rwa [HWS.out] at h⟩
    have HX60 : Sid (Ext No wb w6) := ⟨by rw [HWB.out]; exact (ext_box _).trans HX6.out⟩
    go_loopw [22] (fun i wr => ∃ k : Nat, k ≤ es.length ∧ i = .int .i64 (k : Int) ∧ Sid (MapS .i64 (gF (startTo es k)) wr (w.heap.size + 1)) ∧ Sid (Ext (fun j => j = w.heap.size + 1) w6 wr)) (fun i _ => es.length - (intOf i).toNat)
    case atStart => exact ⟨0, Nat.zero_le _, rfl, HM0, ⟨Ext.refl _ _⟩⟩
    case round =>
      obtain ⟨k, hk, rfl, HM, HX⟩ := hrel
      obtain ⟨wo, rfl⟩ : ∃ wo : World, wo = wr := ⟨_, rfl⟩
      by_cases hlt : k < es.length
      · obtain ⟨b6, off6, s6, rfl, hb6, hc6, HC6⟩ := HS6.out k (by simpa using hlt)
        have hr6 := HX.out.cell (p := ⟨b6, off6 + k, none⟩) (by simp at hb6 ⊢; omega) hc6
        clear hc6
        go_wp2_with (first
          | (at_mapUpdate; refine wpList_updS (vv := .int .u64 (s6 : Int)) _ rfl _ _ _ 117 3 96 .i64 rfl Tryd.underlying117 Tryd.underlying3 rfl rfl rfl HM.out ?_; intro w2 hm2 hx2 _; have HM2 := Sid.mk hm2; have HX2 := Sid.mk hx2; clear hm2 hx2)
          | fail)
        go_roundw
        case rel => exact ⟨k + 1, by omega, by go_num, ⟨by rw [startTo_succ HC6.out, ← gF_upd]; exact HM2.out⟩, ⟨HX.out.trans HX2.out⟩⟩
        case measure => simp [intOf]; omega
      · obtain rfl : k = es.length := by omega
        have HXb : Sid (Ext No wb wo) := ⟨HX60.out.step HX.out (fun i hi hh => by have := HWS.out; omega)⟩
        have hq1 := (HB0.out (wo.alloc (.cells #[.int .i64 (-1)] 3)) (by rw [← HWB.out]; exact HXb.out.alloc _)).2
        have HLIT : Sid (∀ (W : World) (b : Nat), b = W.heap.size → IntsR .i64 (fun _ => True) (W.alloc (.cells #[.int .i64 (-1)] 3)) (.slice (some ⟨b, 0, none⟩) 1 1) [-1]) := ⟨fun W b hb => by subst hb; exact ints_own (P := fun _ => True) (xs := [(-1 : Int)]) (Own.lit1 W 0 3 _ (Nat.zero_le _)) (by simp) (fun _ _ => trivial)⟩
        have HSZ : Sid (w.heap.size + 1 < wo.heap.size) := ⟨HM.out.lt⟩
        go_wp2_with (first
          | (go_at_call 91; refine (Repeat_any _ (-1) es.length (by omega) _ (HLIT.out _ _ (by simp))).mono ?_; rintro e w7 ⟨G, rfl, hG, hr7, hx7⟩; have HG := Sid.mk hG; have HR7 := Sid.mk hr7; have HX7 := Sid.mk hx7; clear hG hr7 hx7)
          | fail)
        refine wp_label ?_
        simp only [Exit.then]
        apply_assumption
        refine hlab _ _ ?_
        rw [HJ.out]
        exact ⟨G, startG es, _, _, _, _, _, _, _, _, _, _, _, _, _, _, _, _, _, _, _, _, _, _, _, _, _, _, _, _, _, _, _, _, _, _, _, _, _, _, _, _, _, _, _, _, _, _, _, _, _, _, _, _, _, _, _, _, _, _, _, _, _, _, _, _, _, _, _, _, _, _, _, _, _, _, _, _, _, _, _, _, _, _, _, _, _, _, _, _, _, _, _, _, _, _, _, _, _, _, _, _, _, _, _, _, _, rfl, ⟨by have := HG.out; have := HSZ.out; simp at *; omega⟩, ⟨by have h := HM.out; rw [startTo_all] at h; exact h.ext ((ext_box _).trans HX7.out) (fun h => h)⟩, HR7, ⟨.refl⟩, ⟨start_bnd (many := many) HSM.out⟩, ⟨HXb.out.trans ((ext_box _).trans HX7.out)⟩⟩
  · intro a' w' hj
    rw [HJ.out] at hj
    obtain ⟨G, g, u0, u2, u3, u5, u6, u8, u9, u10, u11, u12, u13, u14, u15, u16, u17, u18, u19, u20, u21, u22, u23, u24, u25, u26, u27, u28, u29, u30, u31, u32, u33, u34, u35, u36, u37, u38, u39, u40, u41, u42, u43, u44, u45, u46, u47, u48, u49, u50, u51, u52, u53, u54, u55, u56, u57, u58, u59, u60, u61, u62, u63, u64, u65, u66, u67, u68, u69, u70, u71, u72, u73, u74, u75, u76, u77, u78, u79, u80, u81, u82, u83, u84, u85, u86, u87, u88, u89, u90, u91, u92, u93, u94, u95, u96, u97, u98, u99, u100, u101, u102, u103, u104, u105, u106, u107, rfl, HG, HM, HR, HRE, HBD, HX⟩ := hj
    obtain ⟨wp, rfl⟩ : ∃ wp : World, wp = w' := ⟨_, rfl⟩
    obtain ⟨L0, hL0⟩ : ∃ L0, L0 = liveW es.length (w.heap.size + 1) wp := ⟨_, rfl⟩
    have HL0 : Sid (L0 = live es.length g) := ⟨hL0.trans (liveW_eq HM.out.fn)⟩
    rw [← hL0]
    clear hL0
    have hq1 := (HB0.out _ (by rw [← HWB.out]; exact HX.out)).2
    have HML : Sid (w.heap.size + 1 < wp.heap.size) := ⟨HM.out.lt⟩
    have HGL : Sid (G < wp.heap.size) := ⟨HR.out.lt⟩
    go_wp2_with (first
      | (at_range; refine wpList_rangeF _ rfl _ 117 3 96 .i64 rfl Tryd.underlying117 rfl HM.out ?_; intro wi hit hxi hsi; have HIT := Sid.mk hit; have HXI := Sid.mk hxi; clear hit hxi hsi)
      | fail)
    go_frame
    obtain ⟨r, hr⟩ : ∃ r, r = wp.heap.size := ⟨_, rfl⟩
    rw [← hr] at HIT ⊢
    have HRS := Sid.mk hr
    clear hr hq1
    go_loopw [8, 9] (fun o t wr => ∃ (ks : List Int) (on tn : Nat), o = .int .u64 (on : Int) ∧ t = .int .u64 (tn : Int) ∧ Sid (IterF .i64 (gF g) wr (w.heap.size + 1) r ks) ∧ Sid (FoldI g ks on tn) ∧ Sid (Ext (fun k => k = r) wi wr)) (fun _ _ wr => wr.rangeLeft (w.heap.size + 1) r)
    case atStart => exact ⟨[], 0, 0, rfl, rfl, HIT, ⟨FoldI.start g⟩, ⟨Ext.refl _ _⟩⟩
    case round =>
      obtain ⟨ks, on, tn, rfl, rfl, HI, HF, HXR⟩ := hrel
      obtain ⟨wo, rfl⟩ : ∃ wo : World, wo = wr := ⟨_, rfl⟩
      go_wp2_with (first
        | (at_next; refine wpList_nextF _ rfl _ rfl .i64 rfl HI.out ?_ ?_)
        | fail)
      · intro hall
        have HT2 : Sid (TwiceOf g tn) := ⟨HF.out.all hall⟩
        have htl : tn < 4294967296 := HT2.out.1
        have HMo : Sid (MapS .i64 (gF g) wo (w.heap.size + 1)) := ⟨HI.out.map⟩
        have HXo : Sid (Ext No wp wo) := ⟨HXI.out.step HXR.out (fun i hi hh => by have := HRS.out; omega)⟩
        have HRo : Sid (IntRow wo G es.length) := ⟨HR.out.ext HXo.out (fun h => h)⟩
        have HXb : Sid (Ext No wb wo) := ⟨HX.out.trans HXo.out⟩
        have hq1 := (HB0.out _ (by rw [← HWB.out]; exact HXb.out)).2
        clear hall
        go_wp2
        clear hq1
        go_loopw [53] (fun i wr => ∃ (k : Nat) (g1 : Nat → Option Nat), k ≤ es.length ∧ i = .int .i64 (k : Int) ∧ Sid (MapS .i64 (gF g1) wr (w.heap.size + 1)) ∧ Sid (IntRow wr G es.length) ∧ Sid (Reach (startG es) g1) ∧ Sid (BndG es.length g1) ∧ Sid (TwiceOf g1 tn) ∧ Sid (DoneTo g1 tn k) ∧ Sid (live es.length g1 = L0) ∧ Sid (Ext No wb wr)) (fun i _ => es.length - (intOf i).toNat)
        case atStart => exact ⟨0, g, Nat.zero_le _, rfl, HMo, HRo, HRE, HBD, HT2, ⟨fun i s hi => by omega⟩, ⟨HL0.out.symm⟩, HXb⟩
        case round =>
          obtain ⟨k, g1, hk, rfl, HM1, HR1, HRE1, HBD1, HT1, HD1, HL1, HX1⟩ := hrel
          obtain ⟨w1, rfl⟩ : ∃ w1 : World, w1 = wr := ⟨_, rfl⟩
          have hq1 := (HB0.out _ (by rw [← HWB.out]; exact HX1.out)).2
          by_cases hlt : k < es.length
          · cases hg : g1 k with
            | none =>
              have HFK : Sid (gF g1 (k : Int) = none) := ⟨gF_none hg⟩
              have HGK := Sid.mk hg
              clear hg
              go_wp2_with (first
                | (at_lookup; refine wpList_look2F _ rfl _ _ 117 3 96 .i64 rfl Tryd.underlying117 Tryd.underlying3 (zero96 _) rfl rfl HM1.out.fn ?_; rw [HFK.out]; simp only [Option.getD_none, Option.isSome_none])
                | fail)
              go_roundw
              case rel => exact ⟨k + 1, g1, by omega, by go_num, HM1, HR1, HRE1, HBD1, HT1, ⟨HD1.out.none HGK.out⟩, HL1, HX1⟩
              case measure => simp [intOf]; omega
            | some s =>
              have HFK : Sid (gF g1 (k : Int) = some (.int .u64 (s : Int))) := ⟨gF_some hg⟩
              have HGK := Sid.mk hg
              have hsl := (HBD1.out k s hg).2
              have hand := and_u64 hsl htl
              obtain ⟨s1, hs1⟩ : ∃ s1, s1 = s &&& tn := ⟨_, rfl⟩
              rw [← hs1] at hand
              have hs1l : s1 < 4294967296 := by rw [hs1]; exact and_lt32 hsl
              have HS1 := Sid.mk hs1
              clear hg hs1
              by_cases hz : s1 = 0
              · have hz' : ((s1 : Int) == 0) = true := by rw [zero_u64]; simp [hz]
                have HZ := Sid.mk hz
                clear hz
                go_wp2_with (first
                  | (at_lookup; refine wpList_look2F _ rfl _ _ 117 3 96 .i64 rfl Tryd.underlying117 Tryd.underlying3 (zero96 _) rfl rfl HM1.out.fn ?_; rw [HFK.out]; simp only [Option.getD_some, Option.isSome_some])
                  | (at_delete; refine wpList_delF _ rfl _ _ 117 3 96 .i64 rfl Tryd.underlying117 Tryd.underlying3 rfl rfl HM1.out ?_; intro w2 hm2 hx2 _; have HM2 := Sid.mk hm2; have HX2 := Sid.mk hx2; clear hm2 hx2)
                  | fail)
                go_step3
                have HM3 : Sid (MapS .i64 (gF (setG g1 k none)) w2 (w.heap.size + 1)) := ⟨by rw [← gF_del]; exact HM2.out⟩
                refine ⟨rfl, HJ.out ▸ ⟨G, setG g1 k none, _, _, _, _, _, _, _, _, _, _, _, _, _, _, _, _, _, _, _, _, _, _, _, _, _, _, _, _, _, _, _, _, _, _, _, _, _, _, _, _, _, _, _, _, _, _, _, _, _, _, _, _, _, _, _, _, _, _, _, _, _, _, _, _, _, _, _, _, _, _, _, _, _, _, _, _, _, _, _, _, _, _, _, _, _, _, _, _, _, _, _, _, _, _, _, _, _, _, _, _, _, _, _, _, _, rfl, HG, HM3, ⟨HR1.out.ext HX2.out (by have := HG.out; omega)⟩, ?_, ⟨HBD1.out.none⟩, ⟨HX1.out.step HX2.out (fun i hi hh => by have := HWS.out; omega)⟩⟩, ?_⟩
                · exact ⟨by
                    have h1 := HRE1.out.tail (HT1.out.step HGK.out)
                    rw [← HS1.out, HZ.out] at h1
                    have h2 := h1.tail (.empty (setG_eq _ _ _))
                    rwa [setG_setG] at h2⟩
                · rw [liveW_eq HM3.out.fn, ← HL1.out]
                  have := live_none HGK.out hlt
                  omega
              · have hz' : ((s1 : Int) == 0) = false := by rw [zero_u64]; simp [hz]
                have HZ := Sid.mk hz
                clear hz
                go_wp2_with (first
                  | (at_lookup; refine wpList_look2F _ rfl _ _ 117 3 96 .i64 rfl Tryd.underlying117 Tryd.underlying3 (zero96 _) rfl rfl HM1.out.fn ?_; rw [HFK.out]; simp only [Option.getD_some, Option.isSome_some])
                  | (at_mapUpdate; refine wpList_updS (vv := .int .u64 (s1 : Int)) _ rfl _ _ _ 117 3 96 .i64 rfl Tryd.underlying117 Tryd.underlying3 rfl rfl rfl HM1.out ?_; intro w2 hm2 hx2 _; have HM2 : Sid (MapS .i64 (gF (setG g1 k (some s1))) w2 (w.heap.size + 1)) := ⟨by rw [← gF_upd]; exact hm2⟩; have HX2 : Sid (Ext No wb w2) := ⟨HX1.out.step hx2 (fun i hi hh => by have := HWS.out; omega)⟩; have HR2 : Sid (IntRow w2 G es.length) := ⟨HR1.out.ext hx2 (by have := HG.out; omega)⟩; have hq2 := (HB0.out _ (by rw [← HWB.out]; exact HX2.out)).2; clear hm2 hx2)
                  | fail)
                obtain ⟨g2, hg2⟩ : ∃ g2, g2 = setG g1 k (some s1) := ⟨_, rfl⟩
                rw [← hg2] at HM2
                have HG2 := Sid.mk hg2
                have HG2K : Sid (g2 k = some s1) := ⟨by rw [hg2]; exact setG_eq _ _ _⟩
                have HRE2 : Sid (Reach (startG es) g2) := ⟨by rw [hg2, HS1.out]; exact HRE1.out.tail (HT1.out.step HGK.out)⟩
                have HBD2 : Sid (BndG es.length g2) := ⟨by rw [hg2, HS1.out]; exact HBD1.out.trim HGK.out⟩
                have HT2' : Sid (TwiceOf g2 tn) := ⟨by rw [hg2, HS1.out]; exact HT1.out.trim HGK.out⟩
                have HL2 : Sid (live es.length g2 = L0) := ⟨by rw [hg2, live_some HGK.out]; exact HL1.out⟩
                clear hg2 hq1 hq2
                go_loopw [77] (fun i wr => ∃ m : Nat, m ≤ es.length ∧ i = .int .i64 (m : Int) ∧ Sid (∀ j x, j < m → j ≠ k → g1 j = some x → ¬ SubN s1 x) ∧ wr = w2) (fun i _ => es.length - (intOf i).toNat)
                case atStart => exact ⟨0, Nat.zero_le _, rfl, ⟨fun j x hj => by omega⟩, rfl⟩
                case round =>
                  obtain ⟨m, hm, rfl, HNS, rfl⟩ := hrel
                  by_cases hml : m < es.length
                  · by_cases hmk : m = k
                    · have hmk' : ((m : Int) != (k : Int)) = false := by simp [hmk]
                      have HFM : Sid (gF g2 (m : Int) = some (.int .u64 (s1 : Int))) := ⟨by rw [hmk]; exact gF_some HG2K.out⟩
                      have HMK := Sid.mk hmk
                      clear hmk
                      go_wp2_with (first
                        | (at_lookup; refine wpList_look2F _ rfl _ _ 117 3 96 .i64 rfl Tryd.underlying117 Tryd.underlying3 (zero96 _) rfl rfl HM2.out.fn ?_; rw [HFM.out]; simp only [Option.getD_some, Option.isSome_some])
                        | fail)
                      go_roundw
                      case rel => exact ⟨m + 1, by omega, by go_num, ⟨fun j x hj hjk hx => HNS.out j x (by have := HMK.out; omega) hjk hx⟩, trivial⟩
                      case measure => simp [intOf]; omega
                    · have hmk' : ((m : Int) != (k : Int)) = true := by rw [bne_iff_ne]; omega
                      have HMK := Sid.mk hmk
                      cases hgm : g1 m with
                      | none =>
                        have HFM : Sid (gF g2 (m : Int) = none) := ⟨gF_none (by rw [HG2.out, setG_ne hmk]; exact hgm)⟩
                        have HGM := Sid.mk hgm
                        clear hmk hgm
                        go_wp2_with (first
                          | (at_lookup; refine wpList_look2F _ rfl _ _ 117 3 96 .i64 rfl Tryd.underlying117 Tryd.underlying3 (zero96 _) rfl rfl HM2.out.fn ?_; rw [HFM.out]; simp only [Option.getD_none, Option.isSome_none])
                          | fail)
                        go_roundw
                        case rel => exact ⟨m + 1, by omega, by go_num, ⟨fun j x hj hjk hx => by
                          by_cases hjm : j = m
                          · subst hjm; rw [HGM.out] at hx; cases hx
                          · exact HNS.out j x (by omega) hjk hx⟩, trivial⟩
                        case measure => simp [intOf]; omega
                      | some x =>
                        have HGM2 : Sid (g2 m = some x) := ⟨by rw [HG2.out, setG_ne hmk]; exact hgm⟩
                        have HFM : Sid (gF g2 (m : Int) = some (.int .u64 (x : Int))) := ⟨gF_some HGM2.out⟩
                        have HGM := Sid.mk hgm
                        have hxl := (HBD1.out m x hgm).2
                        have hsub := sub_u64 hs1l hxl
                        clear hmk hgm
                        by_cases hsd : sdn s1 x = 0
                        · rw [decide_eq_true hsd] at hsub
                          have HSD : Sid (SubN s1 x) := ⟨subN_iff.2 hsd⟩
                          have hst := HR2.out
                          obtain ⟨fr, hrow⟩ := hst
                          have hold := hrow.cell hlt
                          have hcf := hrow.frozen k
                          have HR3 : Sid (IntRow (wr.setCell ⟨G, k, none⟩ (.int .i64 (m : Int))) G es.length) := ⟨HR2.out.set k (m : Int)⟩
                          have HX3 : Sid (Ext (fun i => i = G) wr (wr.setCell ⟨G, k, none⟩ (.int .i64 (m : Int)))) := ⟨(Ext.refl (fun i => i = G) wr).setCell (p := ⟨G, k, none⟩) (Or.inl rfl) _⟩
                          have HM3 : Sid (MapS .i64 (gF g2) (wr.setCell ⟨G, k, none⟩ (.int .i64 (m : Int))) (w.heap.size + 1)) := ⟨HM2.out.ext HX3.out (by have := HG.out; omega)⟩
                          clear hsd hrow
                          go_wp2_with (first
                            | (at_lookup; refine wpList_look2F _ rfl _ _ 117 3 96 .i64 rfl Tryd.underlying117 Tryd.underlying3 (zero96 _) rfl rfl HM2.out.fn ?_; rw [HFM.out]; simp only [Option.getD_some, Option.isSome_some])
                            | (at_delete; refine wpList_delF _ rfl _ _ 117 3 96 .i64 rfl Tryd.underlying117 Tryd.underlying3 rfl rfl HM3.out ?_; intro w4 hm4 hx4 _; have HM4 := Sid.mk hm4; have HX4 := Sid.mk hx4; clear hm4 hx4)
                            | fail)
                          go_step3
                          have HM5 : Sid (MapS .i64 (gF (setG g2 k none)) w4 (w.heap.size + 1)) := ⟨by rw [← gF_del]; exact HM4.out⟩
                          refine ⟨rfl, HJ.out ▸ ⟨G, setG g2 k none, _, _, _, _, _, _, _, _, _, _, _, _, _, _, _, _, _, _, _, _, _, _, _, _, _, _, _, _, _, _, _, _, _, _, _, _, _, _, _, _, _, _, _, _, _, _, _, _, _, _, _, _, _, _, _, _, _, _, _, _, _, _, _, _, _, _, _, _, _, _, _, _, _, _, _, _, _, _, _, _, _, _, _, _, _, _, _, _, _, _, _, _, _, _, _, _, _, _, _, _, _, _, _, _, _, rfl, HG, HM5, ⟨HR3.out.ext HX4.out (by have := HG.out; omega)⟩, ?_, ⟨HBD2.out.none⟩, ⟨(HX2.out.step HX3.out (fun i hi hh => by have := HWS.out; have := HG.out; omega)).step HX4.out (fun i hi hh => by have := HWS.out; omega)⟩⟩, ?_⟩
                          · exact ⟨HRE2.out.tail (.sub HG2K.out HGM2.out HMK.out HSD.out)⟩
                          · rw [liveW_eq HM5.out.fn, ← HL2.out]
                            have := live_none HG2K.out hlt
                            omega
                        · rw [decide_eq_false hsd] at hsub
                          have HSD : Sid (¬ SubN s1 x) := ⟨fun h => hsd (subN_iff.1 h)⟩
                          clear hsd
                          go_wp2_with (first
                            | (at_lookup; refine wpList_look2F _ rfl _ _ 117 3 96 .i64 rfl Tryd.underlying117 Tryd.underlying3 (zero96 _) rfl rfl HM2.out.fn ?_; rw [HFM.out]; simp only [Option.getD_some, Option.isSome_some])
                            | fail)
                          go_roundw
                          case rel => exact ⟨m + 1, by omega, by go_num, ⟨fun j y hj hjk hx => by
                            by_cases hjm : j = m
                            · subst hjm; rw [HGM.out] at hx; cases hx; exact HSD.out
                            · exact HNS.out j y (by omega) hjk hx⟩, trivial⟩
                          case measure => simp [intOf]; omega
                  · have HD2 : Sid (DoneTo g2 tn (k + 1)) := ⟨by
                      rw [HG2.out, HS1.out]
                      exact HD1.out.trim HGK.out (by rw [← HS1.out]; exact HZ.out) (fun j r hjk hj => by rw [← HS1.out]; exact HNS.out j r (by have := (HBD1.out j r hj).1; omega) hjk hj)⟩
                    go_wp2
                    go_roundw
                    case rel => exact ⟨k + 1, g2, by omega, by go_num, HM2, HR2, HRE2, HBD2, HT2', HD2, HL2, HX2⟩
                    case measure => simp [intOf]; omega
          · obtain rfl : k = es.length := by omega
            go_wp2
            simp only [Exit.jump]
            go_ret2
            exact ⟨_, g1, rfl, HM1.out, HRE1.out, HD1.out.stuck HT1.out HBD1.out, HBD1.out, by
              have h := HX1.out
              rw [HWB.out] at h
              exact (ext_box _).trans h⟩
      · intro x v w1 hfx hxk hit' hlt' hx' hs' hen
        obtain ⟨i, s, rfl, hgi, rfl⟩ := gF_key hfx
        have hsl := (HBD.out i s hgi).2
        have hon := HF.out.1
        have htn := HF.out.2.1
        have hand := and_u64 hon hsl
        have hor1 := or_u64 htn (and_lt32 (b := s) hon)
        have hor2 := or_u64 hon hsl
        have HF' : Sid (FoldI g ((i : Int) :: ks) (on ||| s) (tn ||| (on &&& s))) := ⟨HF.out.step hgi hsl hxk⟩
        have HI' := Sid.mk hit'
        have HXR' : Sid (Ext (fun k => k = r) wi w1) := ⟨HXR.out.trans hx'⟩
        have HLT := Sid.mk hlt'
        clear hfx hxk hit' hlt' hx' hs' hgi
        go_wp2
        go_roundw
        case rel => exact ⟨_, _, _, rfl, rfl, HI', HF', HXR'⟩
        case measure => exact HLT.out
end Go.Proofs.YtceiaekkfabeaaaDoor

/- Rows are sorted: slices.Compare, and slices.SortFunc by the shelf's contract. -/
namespace Go.Proofs.YtceiaekkfabeaaaDoor
open Go.RowKit Go.Shelf Pl

/-- The shelf's contracts, laid at this program. -/
def sortRowsL_ren : Go.Shelf.Ren := ⟨fun | 6 => 84 | 15 => 93 | 14 => 92 | 28 => 104 | 29 => 105 | 20 => 96 | 21 => 97 | 22 => 98 | 23 => 99 | 24 => 100 | 25 => 101 | 26 => 102 | 27 => 103 | 46 => 109 | 47 => 110 | 48 => 111 | 49 => 112 | 50 => 113 | 57 => 114 | n => n, fun | 22 => 22 | 24 => 28 | 25 => 121 | 3 => 3 | 39 => 54 | 0 => 0 | 53 => 140 | 55 => 64 | 4 => 4 | 46 => 133 | 45 => 132 | 50 => 137 | 5 => 5 | 9 => 9 | 66 => 145 | 70 => 149 | 76 => 151 | 77 => 152 | n => n, fun | n => n⟩
theorem sortRowsL : Go.Proofs.SlLaysF.n6 Tryd.prog sortRowsL_ren := {
  mixed := by kernel_rfl
  f6 := ⟨Tryd.f84.name, by decide, Tryd.func84.trans (congrArg some (by kernel_rfl))⟩
  f14 := ⟨Tryd.f92.name, by decide, Tryd.func92.trans (congrArg some (by kernel_rfl))⟩
  f15 := Tryd.func93.trans (congrArg some (by kernel_rfl))
  f20 := ⟨Tryd.f96.name, by decide, Tryd.func96.trans (congrArg some (by kernel_rfl))⟩
  f21 := ⟨Tryd.f97.name, by decide, Tryd.func97.trans (congrArg some (by kernel_rfl))⟩
  f22 := ⟨Tryd.f98.name, by decide, Tryd.func98.trans (congrArg some (by kernel_rfl))⟩
  f23 := ⟨Tryd.f99.name, by decide, Tryd.func99.trans (congrArg some (by kernel_rfl))⟩
  f24 := ⟨Tryd.f100.name, by decide, Tryd.func100.trans (congrArg some (by kernel_rfl))⟩
  f25 := ⟨Tryd.f101.name, by decide, Tryd.func101.trans (congrArg some (by kernel_rfl))⟩
  f26 := ⟨Tryd.f102.name, by decide, Tryd.func102.trans (congrArg some (by kernel_rfl))⟩
  f27 := ⟨Tryd.f103.name, by decide, Tryd.func103.trans (congrArg some (by kernel_rfl))⟩
  f28 := Tryd.func104.trans (congrArg some (by kernel_rfl))
  f29 := Tryd.func105.trans (congrArg some (by kernel_rfl))
  f46 := ⟨Tryd.f109.name, by decide, Tryd.func109.trans (congrArg some (by kernel_rfl))⟩
  f47 := Tryd.func110.trans (congrArg some (by kernel_rfl))
  f48 := Tryd.func111.trans (congrArg some (by kernel_rfl))
  f49 := ⟨Tryd.f112.name, by decide, Tryd.func112.trans (congrArg some (by kernel_rfl))⟩
  f50 := ⟨Tryd.f113.name, by decide, Tryd.func113.trans (congrArg some (by kernel_rfl))⟩
  f57 := ⟨Tryd.f114.name, by decide, Tryd.func114.trans (congrArg some (by kernel_rfl))⟩
  t0 := Tryd.underlying0
  a0 := Tryd.isAgg0
  z0 := Tryd.sizeOf0
  v0 := Tryd.zeroValue0
  t3 := Tryd.underlying3
  a3 := Tryd.isAgg3
  z3 := Tryd.sizeOf3
  v3 := Tryd.zeroValue3
  t4 := Tryd.underlying4
  a4 := Tryd.isAgg4
  z4 := Tryd.sizeOf4
  v4 := Tryd.zeroValue4
  t5 := Tryd.underlying5
  a5 := Tryd.isAgg5
  z5 := Tryd.sizeOf5
  v5 := Tryd.zeroValue5
  t9 := Tryd.underlying9
  a9 := Tryd.isAgg9
  z9 := Tryd.sizeOf9
  v9 := Tryd.zeroValue9
  t22 := Tryd.underlying22
  a22 := Tryd.isAgg22
  z22 := Tryd.sizeOf22
  v22 := Tryd.zeroValue22
  a24 := Tryd.isAgg28
  z24 := Tryd.sizeOf28
  t25 := Tryd.underlying121
  a25 := Tryd.isAgg121
  z25 := Tryd.sizeOf121
  v25 := Tryd.zeroValue121
  t39 := Tryd.underlying54
  a39 := Tryd.isAgg54
  z39 := Tryd.sizeOf54
  v39 := Tryd.zeroValue54
  t45 := Tryd.underlying132
  a45 := Tryd.isAgg132
  z45 := Tryd.sizeOf132
  v45 := Tryd.zeroValue132
  t46 := Tryd.underlying133
  a46 := Tryd.isAgg133
  z46 := Tryd.sizeOf133
  v46 := Tryd.zeroValue133
  t50 := Tryd.underlying137
  a50 := Tryd.isAgg137
  z50 := Tryd.sizeOf137
  v50 := Tryd.zeroValue137
  t53 := Tryd.underlying140
  a53 := Tryd.isAgg140
  z53 := Tryd.sizeOf140
  v53 := Tryd.zeroValue140
  t55 := Tryd.underlying64
  a55 := Tryd.isAgg64
  z55 := Tryd.sizeOf64
  v55 := Tryd.zeroValue64
  t66 := Tryd.underlying145
  a66 := Tryd.isAgg145
  z66 := Tryd.sizeOf145
  v66 := Tryd.zeroValue145
  t70 := Tryd.underlying149
  a70 := Tryd.isAgg149
  z70 := Tryd.sizeOf149
  v70 := Tryd.zeroValue149
  t76 := Tryd.underlying151
  a76 := Tryd.isAgg151
  z76 := Tryd.sizeOf151
  v76 := Tryd.zeroValue151
  t77 := Tryd.underlying152
  a77 := Tryd.isAgg152
  z77 := Tryd.sizeOf152
  v77 := Tryd.zeroValue152 }
def bitsLenL_ren : Go.Shelf.Ren := ⟨fun | 125 => 93 | 128 => 104 | 129 => 105 | n => n, fun | 46 => 54 | 3 => 3 | 51 => 140 | 53 => 64 | 4 => 4 | 5 => 5 | 9 => 9 | n => n, fun | n => n⟩
theorem bitsLenL : Go.Proofs.Lays.n125 Tryd.prog bitsLenL_ren := {
  mixed := by kernel_rfl
  f125 := Tryd.func93.trans (congrArg some (by kernel_rfl))
  f128 := Tryd.func104.trans (congrArg some (by kernel_rfl))
  f129 := Tryd.func105.trans (congrArg some (by kernel_rfl))
  t3 := Tryd.underlying3
  a3 := Tryd.isAgg3
  z3 := Tryd.sizeOf3
  v3 := Tryd.zeroValue3
  t4 := Tryd.underlying4
  a4 := Tryd.isAgg4
  z4 := Tryd.sizeOf4
  v4 := Tryd.zeroValue4
  t5 := Tryd.underlying5
  a5 := Tryd.isAgg5
  z5 := Tryd.sizeOf5
  v5 := Tryd.zeroValue5
  t9 := Tryd.underlying9
  a9 := Tryd.isAgg9
  z9 := Tryd.sizeOf9
  v9 := Tryd.zeroValue9
  t46 := Tryd.underlying54
  a46 := Tryd.isAgg54
  z46 := Tryd.sizeOf54
  v46 := Tryd.zeroValue54
  t51 := Tryd.underlying140
  a51 := Tryd.isAgg140
  z51 := Tryd.sizeOf140
  v51 := Tryd.zeroValue140
  t53 := Tryd.underlying64
  a53 := Tryd.isAgg64
  z53 := Tryd.sizeOf64
  v53 := Tryd.zeroValue64 }

/-- Which of two numbers is less. -/
def cmpI (x y : Int) : Int := if x < y then -1 else if y < x then 1 else 0
/-- Which of two rows is less. -/
def cmpL : List Int → List Int → Int
  | [], [] => 0
  | [], _ :: _ => -1
  | _ :: _, [] => 1
  | x :: l, y :: m => if cmpI x y ≠ 0 then cmpI x y else cmpL l m
set_option maxHeartbeats 1000000 in
theorem cmp_any (x y : Int) (w : World) : Calls Tryd.prog 94 #[.int .i64 x, .int .i64 y] w fun e w' => e = .returned (.int .i64 (cmpI x y)) ∧ w = w' := by
  by_cases h1 : x < y
  · have hd : decide (x < y) = true := by simp [h1]
    have HC : Sid (cmpI x y = -1) := ⟨by rw [cmpI, if_pos h1]⟩
    clear h1
    go_enter Tryd.func94, Tryd.ntmps94
    go_wp2
    go_ret
    exact ⟨ret_int HC.out.symm, rfl⟩
  · have hd : decide (x < y) = false := by simp [h1]
    by_cases h2 : y < x
    · have hd2 : decide (y < x) = true := by simp [h2]
      have HC : Sid (cmpI x y = 1) := ⟨by rw [cmpI, if_neg h1, if_pos h2]⟩
      clear h1 h2
      go_enter Tryd.func94, Tryd.ntmps94
      go_wp2
      go_ret
      exact ⟨ret_int HC.out.symm, rfl⟩
    · have hd2 : decide (y < x) = false := by simp [h2]
      have HC : Sid (cmpI x y = 0) := ⟨by rw [cmpI, if_neg h1, if_neg h2]⟩
      clear h1 h2
      go_enter Tryd.func94, Tryd.ntmps94
      go_wp2
      go_ret
      exact ⟨ret_int HC.out.symm, rfl⟩
theorem drop_at {l : List Int} {k : Nat} {x : Int} (h : l[k]? = some x) : l.drop k = x :: l.drop (k + 1) := by
  obtain ⟨hk, rfl⟩ := List.getElem?_eq_some_iff.1 h
  exact List.drop_eq_getElem_cons hk
set_option maxHeartbeats 1000000 in
theorem compare_any {P P1 : Nat → Prop} (v u : Value) (l m : List Int) (w : World) (hv : IntsR .i64 P w v l) (hu : IntsR .i64 P1 w u m) :
    Calls Tryd.prog 85 #[v, u] w fun e w' => e = .returned (.int .i64 (cmpL l m)) ∧ w = w' := by
  obtain ⟨A, c, rfl, _, hm1, hat⟩ := hv.at
  obtain ⟨A1, c1, rfl, _, hm2, hat1⟩ := hu.at
  have HAT := Sid.mk hat
  have HAT1 := Sid.mk hat1
  clear hat hat1 hv hu
  go_enter Tryd.func85, Tryd.ntmps85
  go_wp2
  go_loop [11] (fun i => ∃ k : Nat, k ≤ l.length ∧ k ≤ m.length ∧ i = .int .i64 k ∧ Sid (cmpL l m = cmpL (l.drop k) (m.drop k))) (fun i => l.length - (intOf i).toNat)
  case atStart => exact ⟨0, Nat.zero_le _, Nat.zero_le _, rfl, ⟨by simp⟩⟩
  case round =>
    obtain ⟨k, hk, hk2, rfl, HS⟩ := hrel
    by_cases hlt : k < l.length
    · obtain ⟨b, off, x, rfl, _, hcell, HB⟩ := HAT.out k hlt
      by_cases hlt2 : k < m.length
      · have hge : decide ((m.length : Int) ≤ (k : Int)) = false := by simp; omega
        obtain ⟨b1, off1, y, rfl, _, hcell1, HB1⟩ := HAT1.out k hlt2
        by_cases hne : cmpI x y = 0
        · have hc : (cmpI x y != 0) = false := by simp [hne]
          have HN := Sid.mk hne
          clear hne
          go_wp2_with (first | (go_at_call 94; refine (cmp_any x y _).mono ?_; rintro e w1 ⟨rfl, rfl⟩) | fail)
          go_round
          case rel => exact ⟨k + 1, by omega, by omega, by go_num, ⟨by rw [HS.out, drop_at HB.out, drop_at HB1.out, cmpL, if_neg (by simp [HN.out])]⟩⟩
          case measure => simp [intOf]; omega
        · have hc : (cmpI x y != 0) = true := by simpa using hne
          have HC : Sid (cmpL l m = cmpI x y) := ⟨by rw [HS.out, drop_at HB.out, drop_at HB1.out, cmpL, if_pos hne]⟩
          clear hne
          go_wp2_with (first | (go_at_call 94; refine (cmp_any x y _).mono ?_; rintro e w1 ⟨rfl, rfl⟩) | fail)
          go_ret
          exact ⟨ret_int HC.out.symm, rfl⟩
      · have hge : decide ((m.length : Int) ≤ (k : Int)) = true := by simp; omega
        have HC : Sid (cmpL l m = 1) := ⟨by
          have e2 : m.drop k = [] := List.drop_of_length_le (by omega)
          rw [HS.out, drop_at HB.out, e2]; rfl⟩
        go_wp2
        go_ret
        exact ⟨ret_int HC.out.symm, rfl⟩
    · obtain rfl : k = l.length := by omega
      by_cases hlt2 : l.length < m.length
      · have hd : decide ((l.length : Int) < (m.length : Int)) = true := by simp; omega
        have HC : Sid (cmpL l m = -1) := ⟨by
          rw [HS.out, List.drop_of_length_le (Nat.le_refl _)]
          cases h : m.drop l.length with
          | nil => rw [List.drop_eq_nil_iff] at h; omega
          | cons y t => rfl⟩
        go_wp2
        go_ret
        exact ⟨ret_int HC.out.symm, rfl⟩
      · have hd : decide ((l.length : Int) < (m.length : Int)) = false := by simp; omega
        have HC : Sid (cmpL l m = 0) := ⟨by rw [HS.out, List.drop_of_length_le (Nat.le_refl _), List.drop_of_length_le (by omega)]; rfl⟩
        go_wp2
        go_ret
        exact ⟨ret_int HC.out.symm, rfl⟩
/-- A row that is read, in other blocks than one. -/
structure RowV (W : World) (blk : Nat) where
  v : Value
  l : List Int
  h : IntsR .i64 (fun k => k ≠ blk) W v l
instance (W : World) (blk : Nat) : Inhabited (RowV W blk) := ⟨⟨.slice none 0 0, [], ⟨none, 0, rfl, ⟨Nat.le_refl _, fun _ => rfl⟩, by simp, fun h => by simp at h⟩⟩⟩
theorem rowV_one (W : World) (blk : Nat) : OneCell (fun t : RowV W blk => t.v) := fun t => by
  obtain ⟨A, c, hv, _⟩ := t.h.at
  show t.v.oneCell' = true
  rw [hv]; rfl
theorem ext_sortWorld {α : Type} [Inhabited α] (enc : α → Value) (W : World) (blk off m : Nat) (dk : Array α) (os : Array Obj) : Ext (fun k => k = blk) W (sortWorld enc W blk off m dk os) := by
  refine ⟨rfl, rfl, rfl, ?_, fun k hk hne => ?_⟩
  · simp only [sortWorld, Sort.grow, Array.size_append, Sort.size_putRow, Sort.heap_ahead]; omega
  · have hb : (Sort.putRow enc (Sort.ahead W m) blk off dk).heap[k]? = W.heap[k]? := by
      simp only [Sort.putRow, Sort.mapBlock, Sort.heap_ahead]
      rw [Array.getElem?_modify, if_neg (by intro h; exact hne h.symm)]
    simp only [sortWorld, Sort.grow]
    rw [Array.getElem?_append_left (by rw [Sort.size_putRow, Sort.heap_ahead]; exact hk)]
    exact hb
theorem enters85 : ∀ args w, (callFunc 85 args).run Tryd.prog w = .ok (.enter 85 args) w := enters_of Tryd.func85 (by kernel_rfl) rfl
theorem rowV_cmp (W : World) (blk off size : Nat) : CmpReads Tryd.prog 85 #[] (fun t : RowV W blk => t.v) (fun s t => cmpL s.l t.l) blk off size W := fun m os dk _ x y => by
  have hx := ext_sortWorld (fun t : RowV W blk => t.v) W blk off m dk os
  exact (compare_any x.v y.v x.l y.l _ (x.h.ext hx (fun k hk hh => hk hh)) (y.h.ext hx (fun k hk hh => hk hh))).mono fun e w' ⟨h1, h2⟩ => ⟨h1, 0, h2.symm⟩
theorem sort_hlen (n : Nat) (W : World) (h : n ≤ 12) : Calls Tryd.prog 93 #[.int .u64 n] W fun e w' => (∃ l : Int, e = .returned (.int .i64 l)) ∧ w' = W :=
  (Any.bits_Len bitsLenL n W (by omega) (by omega)).mono fun _ _ ⟨he, hw⟩ => ⟨⟨_, he⟩, hw⟩
set_option maxHeartbeats 1000000 in
theorem insertNil_any (fv : Value) (w : World) : Calls Tryd.prog 96 #[.slice none 0 0, .int .i64 0, .int .i64 0, fv] w fun e w' => e = .returned (.tuple #[]) ∧ w' = w := by
  go_enter Tryd.func96, Tryd.ntmps96
  go_wp2
  refine wp_loop_rounds 1 ?_
  rw [rounds_succ]
  go_wp2
  go_end0
  exact ⟨rfl, rfl⟩
set_option maxHeartbeats 1000000 in
theorem pdqNil_any (l : Int) (fv : Value) (w : World) : Calls Tryd.prog 92 #[.slice none 0 0, .int .i64 0, .int .i64 0, .int .i64 l, fv] w fun e w' => e = .returned (.tuple #[]) ∧ w' = w := by
  go_enter Tryd.func92, Tryd.ntmps92
  go_wp2
  refine wp_loop_rounds 1 ?_
  rw [rounds_succ]
  go_wp2_with (first | (go_at_call 96; refine (insertNil_any fv _).mono ?_; rintro e w1 ⟨rfl, rfl⟩) | fail)
  (try simp only [Exit.inBlock, Exit.then]); refine bodyPost_ret (results_none rfl _ _ _) rfl ?_
  exact ⟨rfl, rfl⟩
set_option maxHeartbeats 1000000 in
theorem sortNil_any (fv : Value) (w : World) : Calls Tryd.prog 84 #[.slice none 0 0, fv] w fun e w' => e = .returned (.tuple #[]) ∧ w' = w := by
  have hl := sort_hlen 0 w (by omega)
  go_enter Tryd.func84, Tryd.ntmps84
  go_wp2_with (first
    | (go_at_call 93; refine hl.mono ?_; rintro e w1 ⟨⟨l, rfl⟩, rfl⟩)
    | (go_at_call 92; refine (pdqNil_any _ fv _).mono ?_; rintro e w1 ⟨rfl, rfl⟩)
    | fail)
  go_end0
  exact ⟨rfl, rfl⟩
/-- Rows of the call's own are sorted: nothing but their block turns. -/
theorem SortRows_any {P : Nat → Prop} {base : Nat} (v : Value) (xss : List (List Int)) (w : World) (h : OwnRows P base w v xss) (hn : xss.length ≤ 12) :
    Calls Tryd.prog 84 #[v, .func (.func 85) #[] #[]] w fun e w' => e = .returned (.tuple #[]) ∧ Ext (fun k => some k = v.ownBlock) w w' := by
  obtain ⟨vs, hown, hr⟩ := h
  have hlen := hown.len
  rcases hown.2 with ⟨rfl, h0⟩ | ⟨g, cap, cur, rfl, hg, hh, hncap, hcm, hcs, ht⟩
  · rw [h0] at *
    exact (sortNil_any _ w).mono fun e w' ⟨h1, h2⟩ => ⟨h1, by rw [h2]; exact Ext.refl _ _⟩
  · have hel : ∀ j (hj : j < xss.length), IntsR .i64 (fun k => k ≠ g) w (vs[j]'(by omega)) xss[j] := fun j hj =>
      (hr j _ _ (List.getElem?_eq_getElem (by omega)) (List.getElem?_eq_getElem hj)).imp fun k _ hk => fun hkg => hk.2 (by simp [Value.ownBlock, hkg])
    obtain ⟨d, hd⟩ : ∃ d : Array (RowV w g), d = Array.ofFn (n := xss.length) fun j => ⟨vs[j.val]'(by omega), xss[j.val], hel j.val j.isLt⟩ := ⟨_, rfl⟩
    have hds : d.size = xss.length := by rw [hd]; simp
    have hH : Sort.Holds (fun t : RowV w g => t.v) w g 0 d := fun j hj => by
      have hj' : j < xss.length := by omega
      refine ⟨?_, ?_⟩
      · rw [getElem!_pos d j hj]
        have e1 : (d[j]).v = vs[j]'(by omega) := by subst hd; simp
        show w.cell? ⟨g, 0 + j, none⟩ = some (d[j]).v
        rw [e1]
        have hc : cur.toList[j]? = some (vs[j]'(by omega)) := by
          have h9 : (cur.toList.take (xss.length * 1))[j]? = some (vs[j]'(by omega)) := by rw [List.getElem?_eq_some_iff]; exact ⟨by rw [ht]; omega, by simp only [ht]⟩
          rwa [List.getElem?_take_of_lt (by omega)] at h9
        simp only [World.cell?, hh]
        simpa using hc
      · simp only [World.frozen?, hh]
        simp
    have hcon := Any.slices_SortFunc_small sortRowsL (fun t : RowV w g => t.v) (rowV_one w g) (fun s t => cmpL s.l t.l) 85 #[] g 0 cap d w enters85 (rowV_cmp w g 0 d.size) hH (by omega) sort_hlen
    rw [hds] at hcon
    refine Calls.mono hcon fun e w' ⟨h1, n, h2⟩ => ⟨h1, ?_⟩
    rw [h2]
    have hx := ext_sortWorld (fun t : RowV w g => t.v) w g 0 n (Sort.insertionSort (ltOf fun s t : RowV w g => cmpL s.l t.l) d 0 d.size) #[]
    rw [sortWorld_none] at hx
    rw [← hds]
    exact hx.mono (fun k hk => by rw [hk]; rfl)
end Go.Proofs.YtceiaekkfabeaaaDoor

/- The walks over hyper.Left and hyper.Acyclic. -/
namespace Go.Proofs.YtceiaekkfabeaaaDoor
open Go.RowKit Go.Shelf Pl

/-- Keys, as whole numbers. -/
def keysI (l : List Nat) : List Int := l.map Int.ofNat
theorem mem_keysI {l : List Nat} {i : Nat} : (i : Int) ∈ keysI l ↔ i ∈ l := by
  simp only [keysI, List.mem_map]
  constructor
  · rintro ⟨j, hj, he⟩
    have : j = i := by have h : (j : Int) = (i : Int) := he; omega
    rwa [← this]
  · exact fun h => ⟨i, h, rfl⟩
set_option maxHeartbeats 4000000 in
set_option maxRecDepth 100000 in
theorem Left_any {P : Nat → Prop} (many : Int) (ev : Value) (es : List (List Int)) (w : World) (he : RowsR P w ev es) (hh : hyperB many es = true) (h8 : es.length ≤ 8) (hT : TabW w) :
    Calls Tryd.prog 65 #[.agg #[.int .i64 many, ev]] w fun e w' => ∃ A n c g, e = .returned (.slice A n c) ∧ Reach (startG es) g ∧ Stuck g ∧ (n = 0 ↔ ∀ i, g i = none) ∧ Ext No w w' := by
  obtain ⟨A, c, rfl, _⟩ := he.at
  have HSM : Sid (smallE es) := ⟨hyperB_small hh⟩
  have hce1 : hyperE many es = 0 := by simp [hyperE, hh]
  have HE := Sid.mk he
  have HT := Sid.mk hT
  clear he hT hh
  have HB0 : Sid (∀ w', Ext No (w.alloc (.cells #[.int .i64 many, .slice A es.length c] 24)) w' → w'.cell? ⟨w.heap.size, 0, none⟩ = some (.int .i64 many) ∧ w'.cell? ⟨w.heap.size, 1, none⟩ = some (.slice A es.length c)) := ⟨fun w' hx => ⟨hx.no (by simp), hx.no (by simp)⟩⟩
  go_enter Tryd.func65, Tryd.ntmps65
  go_wp2_with (first
    | (go_at_call 27; refine (hyperCheck_any many _ es _ (HE.out.no (ext_box _))).mono ?_; rintro e w1 ⟨rfl, hx1⟩; rw [hce1]; have h0 := (HB0.out _ hx1).1; have h1 := (HB0.out _ hx1).2; have HX1 := Sid.mk hx1; clear hx1)
    | (go_at_call 83; refine (reduced_any many _ es _ (HE.out.no ((ext_box _).trans HX1.out)) HSM.out h8).mono ?_; rintro e w2 ⟨v2, g, rfl, hm2, hre, hst, hbd, hx2⟩; have HM2 := Sid.mk hm2; have HRE := Sid.mk hre; have HST := Sid.mk hst; have HBD := Sid.mk hbd; have HX2 := Sid.mk hx2; clear hm2 hre hst hbd hx2)
    | (at_range; refine wpList_rangeF _ rfl _ 117 3 96 .i64 rfl Tryd.underlying117 rfl HM2.out ?_; intro wi hit hxi hsi; have HIT := Sid.mk hit; have HXI := Sid.mk hxi; have HSI := Sid.mk hsi; clear hit hxi hsi)
    | fail)
  go_frame
  obtain ⟨M, hM⟩ : ∃ M, M = w1.heap.size + 1 := ⟨_, rfl⟩
  obtain ⟨r, hr⟩ : ∃ r, r = w2.heap.size := ⟨_, rfl⟩
  have HML : Sid (M < w2.heap.size) := ⟨by rw [hM]; exact HM2.out.lt⟩
  rw [← hM, ← hr] at HIT ⊢
  have HRS := Sid.mk hr
  have HXW : Sid (Ext No w wi) := ⟨((ext_box _).trans HX1.out).trans (HX2.out.trans HXI.out)⟩
  clear hr hM h0 h1
  go_loopw [5] (fun o wr => ∃ (is : List Nat) (xss : List (List Int)), Sid (IterF .i64 (gF g) wr M r (keysI is)) ∧ Sid is.Nodup ∧ Sid (OwnRows (fun k => wi.heap.size ≤ k) wi.heap.size wr o xss) ∧ Sid (xss.length = is.length) ∧ Sid (Ext (fun k => k = r) wi wr)) (fun _ wr => wr.rangeLeft M r)
  case atStart => exact ⟨[], [], HIT, ⟨List.nodup_nil⟩, ⟨OwnRows.nil _ _ _⟩, ⟨rfl⟩, ⟨Ext.refl _ _⟩⟩
  case round =>
    obtain ⟨is, xss, HI, HN, HO, HXL, HXR⟩ := hrel
    obtain ⟨A5, c5, rfl⟩ := HO.out.slice
    obtain ⟨wo, rfl⟩ : ∃ wo : World, wo = wr := ⟨_, rfl⟩
    have HXo : Sid (Ext No w wo) := ⟨HXW.out.step HXR.out (fun i hi hh => by have h1 := HRS.out; have h2 := HXW.out.size; have h3 := HX2.out.size; have h4 := HX1.out.size; simp at h4; omega)⟩
    have hcnt : is.length ≤ es.length := nodup_len es.length is HN.out (fun i hi => by
      have h1 := HI.out.2.2.1 (i : Int) (mem_keysI.2 hi)
      rw [gF_at] at h1
      cases hg : g i with
      | none => rw [hg] at h1; simp at h1
      | some s => exact (HBD.out i s hg).1)
    go_wp2_with (first
      | (at_next; refine wpList_nextF _ rfl _ rfl .i64 rfl HI.out ?_ ?_)
      | fail)
    · intro hall
      have HZ : Sid (xss.length = 0 ↔ ∀ i, g i = none) := ⟨by
        rw [HXL.out]
        constructor
        · intro h0 i
          cases hg : g i with
          | none => rfl
          | some s =>
            have h1 := hall (i : Int) (by rw [gF_some hg]; rfl)
            rw [List.eq_nil_of_length_eq_zero h0] at h1
            simp [keysI] at h1
        · intro h0
          cases his : is with
          | nil => rfl
          | cons i l =>
            have h1 := HI.out.2.2.1 (i : Int) (mem_keysI.2 (by rw [his]; simp))
            rw [gF_none (h0 i)] at h1
            cases h1⟩
      clear hall
      go_wp2_with (first
        | (go_at_call 84; refine (SortRows_any _ xss _ HO.out (by have := HXL.out; omega)).mono ?_; rintro e w8 ⟨rfl, hx8⟩; have HX8 := Sid.mk hx8; clear hx8)
        | fail)
      go_ret
      exact ⟨A5, xss.length, c5, g, rfl, HRE.out, HST.out, HZ.out, HXo.out.step HX8.out (fun i hi hh => by have h1 := (HO.out.ge i hh.symm).1; have h2 := HXW.out.size; omega)⟩
    · intro x v w3 hfx hxk hit' hlt' hx' hs' hen
      obtain ⟨i, s, rfl, hgi, rfl⟩ := gF_key hfx
      have hsl := (HBD.out i s hgi).2
      have HX3 : Sid (Ext No w w3) := ⟨HXo.out.step hx' (fun j hj hh => by have h1 := HRS.out; have h2 := HXW.out.size; have h3 := HX2.out.size; have h4 := HX1.out.size; simp at h4; omega)⟩
      have HI' : Sid (IterF .i64 (gF g) w3 M r (keysI (i :: is))) := ⟨hit'⟩
      have HN' : Sid (i :: is).Nodup := ⟨List.nodup_cons.2 ⟨fun hi => hxk (mem_keysI.2 hi), HN.out⟩⟩
      have HO' : Sid (OwnRows (fun k => wi.heap.size ≤ k) wi.heap.size w3 (.slice A5 xss.length c5) xss) := ⟨HO.out.ext hx' (fun k hk hh => by have h3 := (HO.out.ge k hk).1; have h4 := HRS.out; have h5 := HSI.out; omega) (fun k hk hh => by have h4 := HRS.out; have h5 := HSI.out; omega)⟩
      have HLT := Sid.mk hlt'
      have HXR' : Sid (Ext (fun k => k = r) wi w3) := ⟨HXR.out.trans hx'⟩
      have HTW : Sid (TabW w3) := ⟨HT.out.no HX3.out⟩
      have HB0' : Sid (w3.heap.size ≠ 0) := ⟨by have h1 := World.block_lt_of_cell? w _ (HT.out 0 (by decide)); have h2 := HX3.out.size; omega⟩
      have HRL : Sid (r < w3.heap.size) := ⟨HI'.out.lt⟩
      have HWI : Sid (wi.heap.size ≤ w3.heap.size) := ⟨HXR'.out.size⟩
      have HWS : Sid (w.heap.size ≤ w3.heap.size) := ⟨HX3.out.size⟩
      clear hfx hxk hit' hlt' hx' hs' hgi
      go_wp2_with (first
        | (go_at_call 68; refine (each_any _ _).mono ?_; rintro e w8 ⟨rfl, rfl⟩)
        | (go_at_call 75; refine (collect_any s w3.heap.size hsl HB0'.out _ ⟨HTW.out.no ((Ext.refl No _).alloc _), by simp [go_sem], by simp [go_sem]⟩).mono ?_; rintro e w9 ⟨v9, rfl, hr9, hx9⟩; obtain ⟨A9, c9, rfl, _⟩ := hr9.at; have HR9 := Sid.mk hr9; have HX9 : Sid (Ext No w3 w9) := ⟨((Ext.refl No w3).alloc _).step hx9 (fun i hi hh => by omega)⟩; clear hr9 hx9)
        | (at_builtin; refine appRow wi.heap.size rfl (.tmp 22) (.tmp 26) 22 rfl Tryd.underlying22 info28 _ _ _ (membersL s) rfl rfl (by simp) (HO'.out.no HX9.out) ?c1 ?c2 ?c3 ?_; (case c1 => exact HR9.out.imp (fun j _ hp => by have h1 := HWI.out; simp at hp; exact ⟨by omega, fun he => by have := (HO'.out.ge j he.symm).2; omega⟩)); (case c2 => have h1 := HWI.out; have h3 := HX9.out.size; omega); (case c3 => have := HXL.out; omega); intro v4 w4 ho4 hx4 hb4 hs4; have HO4 := Sid.mk ho4; have HX4 := Sid.mk hx4; clear ho4 hx4 hb4 hs4)
        | fail)
      have hne : ∀ k, some k = (Value.slice A5 xss.length c5).ownBlock → wi.heap.size ≤ k := fun k hk => (HO'.out.ge k hk.symm).1
      have HI9 := HI'.out.ext HX9.out (fun h => h) (fun h => h)
      have HI4 := HI9.1.ext HX4.out (fun hh => by have := hne _ hh; have h1 := HML.out; have h2 := HSI.out; omega) (fun hh => by have := hne _ hh; have h1 := HRS.out; have h2 := HSI.out; omega)
      go_roundw
      case rel => exact ⟨i :: is, xss ++ [membersL s], ⟨HI4.1⟩, HN', HO4, ⟨by simp [HXL.out]⟩, ⟨(HXR'.out.step HX9.out (fun i hi hh => hh.elim)).step HX4.out (fun i hi hh => by have := hne _ hh; omega)⟩⟩
      case measure => rw [HI4.2, HI9.2]; exact HLT.out

set_option maxHeartbeats 1000000 in
theorem Acyclic_any {P : Nat → Prop} (many : Int) (ev : Value) (es : List (List Int)) (w : World) (he : RowsR P w ev es) (hh : hyperB many es = true) (h8 : es.length ≤ 8) (hT : TabW w) :
    Calls Tryd.prog 28 #[.agg #[.int .i64 many, ev]] w fun e w' => ∃ (b : Bool) (g : Nat → Option Nat), e = .returned (.bool b) ∧ Reach (startG es) g ∧ Stuck g ∧ (b = true ↔ ∀ i, g i = none) ∧ Ext No w w' := by
  obtain ⟨A, c, rfl, _⟩ := he.at
  have hce1 : hyperE many es = 0 := by simp [hyperE, hh]
  have HE := Sid.mk he
  have HT := Sid.mk hT
  have HH := Sid.mk hh
  clear he hT hh
  have HB0 : Sid (∀ w', Ext No (w.alloc (.cells #[.int .i64 many, .slice A es.length c] 24)) w' → w'.cell? ⟨w.heap.size, 0, none⟩ = some (.int .i64 many) ∧ w'.cell? ⟨w.heap.size, 1, none⟩ = some (.slice A es.length c)) := ⟨fun w' hx => ⟨hx.no (by simp), hx.no (by simp)⟩⟩
  go_enter Tryd.func28, Tryd.ntmps28
  go_wp2_with (first
    | (go_at_call 27; refine (hyperCheck_any many _ es _ (HE.out.no (ext_box _))).mono ?_; rintro e w1 ⟨rfl, hx1⟩; rw [hce1]; have h0 := (HB0.out _ hx1).1; have h1 := (HB0.out _ hx1).2; have HX1 := Sid.mk hx1; clear hx1)
    | (go_at_call 65; refine (Left_any many _ es _ (HE.out.no ((ext_box _).trans HX1.out)) HH.out h8 (HT.out.no ((ext_box _).trans HX1.out))).mono ?_; rintro e w2 ⟨A2, n2, c2, g, rfl, hre, hst, hn, hx2⟩; have HRE := Sid.mk hre; have HST := Sid.mk hst; have HNN := Sid.mk hn; have HX2 := Sid.mk hx2; clear hre hst hn hx2)
    | fail)
  go_ret
  exact ⟨_, g, rfl, HRE.out, HST.out, by rw [← HNN.out]; simp, (ext_box _).trans (HX1.out.trans HX2.out)⟩
end Go.Proofs.YtceiaekkfabeaaaDoor
