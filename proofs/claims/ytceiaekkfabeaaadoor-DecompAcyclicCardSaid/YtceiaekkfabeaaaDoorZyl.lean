/- Words and contracts for: DecompAcyclic: for every hypergraph the law answers true, and its arguments read as before. No condition; the library's table math/bits.deBruijn64tab is laid by its text. -/
import Derived.Maps.OwnIn
import Derived.Test.YtceiaekkfabeaaaDoorZyk
/- The bags of an order: what each has, on which it hangs, which is the top of a vertex. -/
namespace Go.Proofs.YtceiaekkfabeaaaDoor
open Go.RowKit Pl

theorem elim_mem {S : List Nat} {most : Int} {T : Nat} : ∀ (l : List Nat) (gone : Nat), Elim S most T gone l → ∀ u, T.testBit u = true → gone.testBit u = true ∨ u ∈ l
  | [], _, h, u, hu => Or.inl (h u hu)
  | v :: l, gone, ⟨_, _, _, _, h⟩, u, hu => by
    rcases elim_mem l _ h u hu with h1 | h1
    · rw [or_pow_bit, Bool.or_eq_true, decide_eq_true_eq] at h1
      rcases h1 with h1 | rfl
      · exact Or.inl h1
      · exact Or.inr (by simp)
    · exact Or.inr (by simp [h1])
theorem ofTo_cons (g : Nat) (v : Int) (l : List Int) : g ||| ofTo (v :: l) = (g ||| 2 ^ v.toNat) ||| ofTo l := by
  apply Nat.eq_of_testBit_eq
  intro i
  rw [Nat.testBit_or, Nat.testBit_or, or_pow_bit, ofTo_testBit, ofTo_testBit, List.any_cons, Bool.or_assoc]
  congr 2
theorem elim_wid {S : List Nat} {most : Int} {T : Nat} : ∀ (ord : List Int) (gone : Nat), Elim S most T gone (ord.map Int.toNat) → ∀ i, i < ord.length → (covLen S (arF S (ord.getD i 0).toNat (gone ||| ofTo (ord.take i))) : Int) ≤ most
  | [], _, _, i, hi => by simp at hi
  | v :: l, gone, ⟨_, _, _, h4, _⟩, 0, _ => by
    have : gone ||| ofTo [] = gone := by simp [ofTo]
    simp only [List.take_zero, this, List.getD_cons_zero]
    exact h4
  | v :: l, gone, ⟨_, _, _, _, h5⟩, i + 1, hi => by
    have := elim_wid l _ h5 i (by simpa using hi)
    rw [List.take_succ_cons, ofTo_cons, List.getD_cons_succ]
    exact this
/-- What an order of a part is. -/
structure OrdOf (S : List Nat) (most : Int) (p : Nat) (ord : List Int) : Prop where
  nodup : ord.Nodup
  mem : ∀ x ∈ ord, ∃ v : Nat, x = (v : Int) ∧ v < 32 ∧ p.testBit v = true
  all : ∀ u, p.testBit u = true → (u : Int) ∈ ord
  wid : ∀ i, i < ord.length → (covLen S (arI S ord i) : Int) ≤ most
theorem ordOf_goX {S : List Nat} {most : Int} {p : Nat} {ord : List Int} (h : goX S p most 0 = some ord) : OrdOf S most p ord := by
  obtain ⟨h1, h2⟩ := goX_ord h
  have he := goN_elim 32 0 ord (fun i hi => by simp at hi) h
  refine ⟨h1, fun x hx => by obtain ⟨v, a, b, c, _⟩ := h2 x hx; exact ⟨v, a, b, c⟩, fun u hu => ?_, fun i hi => ?_⟩
  · rcases elim_mem _ _ he u hu with h | h
    · simp at h
    · obtain ⟨x, hx, rfl⟩ := List.mem_map.1 h
      obtain ⟨v, rfl, _⟩ := h2 x hx
      simpa using hx
  · have := elim_wid ord 0 he i hi
    rw [Nat.zero_or] at this
    exact this
section
variable {S : List Nat} {most : Int} {p : Nat} {ord : List Int}
/-- The vertex at a place of an order. -/
def ordN (ord : List Int) (i : Nat) : Nat := (ord.getD i 0).toNat
theorem OrdOf.at (h : OrdOf S most p ord) {i : Nat} (hi : i < ord.length) : ord[i]? = some (ordN ord i : Int) ∧ ordN ord i < 32 ∧ p.testBit (ordN ord i) = true := by
  have hm : ord[i] ∈ ord := List.getElem_mem hi
  obtain ⟨v, hv, h1, h2⟩ := h.mem _ hm
  have : ordN ord i = v := by rw [ordN, List.getD_eq_getElem?_getD, List.getElem?_eq_getElem hi, hv]; rfl
  rw [this]
  exact ⟨by rw [List.getElem?_eq_getElem hi, hv], h1, h2⟩
theorem OrdOf.inj (h : OrdOf S most p ord) {i j : Nat} (hi : i < ord.length) (hj : j < ord.length) (he : ordN ord i = ordN ord j) : i = j := by
  have h1 := (h.at hi).1
  have h2 := (h.at hj).1
  rw [he, ← h2] at h1
  exact (List.getElem?_inj hi h.nodup).1 h1
theorem OrdOf.pos (h : OrdOf S most p ord) {u : Nat} (hu : p.testBit u = true) : ∃ i, i < ord.length ∧ ordN ord i = u := by
  obtain ⟨i, hi⟩ := List.mem_iff_getElem?.1 (h.all u hu)
  have hl := (List.getElem?_eq_some_iff.1 hi).1
  refine ⟨i, hl, ?_⟩
  have := (h.at hl).1
  rw [hi] at this
  simp only [Option.some.injEq] at this
  omega
theorem OrdOf.gone (h : OrdOf S most p ord) {i w : Nat} (hi : i ≤ ord.length) : (ofTo (ord.take i)).testBit w = true ↔ ∃ j, j < i ∧ ordN ord j = w := by
  rw [ofTo_testBit, List.any_eq_true]
  constructor
  · rintro ⟨x, hx, hxw⟩
    rw [beq_iff_eq] at hxw
    obtain ⟨j, hj⟩ := List.mem_iff_getElem?.1 hx
    have hjl := (List.getElem?_eq_some_iff.1 hj).1
    rw [List.length_take] at hjl
    rw [List.getElem?_take_of_lt (by omega)] at hj
    refine ⟨j, by omega, ?_⟩
    rw [ordN, List.getD_eq_getElem?_getD, hj]; exact hxw
  · rintro ⟨j, hj, rfl⟩
    refine ⟨(ordN ord j : Int), List.mem_of_getElem? (i := j) (by rw [List.getElem?_take_of_lt hj]; exact (h.at (by omega)).1), by simp⟩
theorem OrdOf.ar (h : OrdOf S most p ord) (hS : smallS S) {i w : Nat} (hi : i < ord.length) : (arI S ord i).testBit w = true ↔ w = ordN ord i ∨ ((∀ j, j < i → ordN ord j ≠ w) ∧ Con S (ofTo (ord.take i)) (ordN ord i) w) := by
  have h1 := arF_iff hS (gone := ofTo (ord.take i)) (w := w) (h.at hi).2.1
  rw [show arI S ord i = arF S (ordN ord i) (ofTo (ord.take i)) from rfl, h1]
  have h2 := h.gone (w := w) (Nat.le_of_lt hi)
  have h3 : (ofTo (ord.take i)).testBit w = false ↔ ∀ j, j < i → ordN ord j ≠ w := by
    rw [← Bool.not_eq_true, h2]
    constructor
    · exact fun h j hj he => h ⟨j, hj, he⟩
    · rintro h ⟨j, hj, he⟩; exact h j hj he
  rw [h3]
theorem OrdOf.sub (h : OrdOf S most p ord) (hS : smallS S) (hc : Closed S p) {i w : Nat} (hi : i < ord.length) (hw : (arI S ord i).testBit w = true) : p.testBit w = true := by
  rcases (h.ar hS hi).1 hw with rfl | ⟨_, h2⟩
  · exact (h.at hi).2.2
  · exact (Con.inside hc (h.at hi).2.2 h2).1
/-- The next one taken of those that are around. -/
theorem next_or (ord : List Int) (ar i : Nat) : (∀ j, i < j → j < ord.length → ar.testBit (ordN ord j) = false) ∨ ∃ j, i < j ∧ j < ord.length ∧ ar.testBit (ordN ord j) = true ∧ ∀ k, i < k → k < j → ar.testBit (ordN ord k) = false := by
  by_cases hex : ∃ j, i < j ∧ j < ord.length ∧ ar.testBit (ordN ord j) = true
  · right
    obtain ⟨j, hj⟩ := hex
    induction j using Nat.strongRecOn with
    | _ j ih =>
      by_cases hb : ∃ k, i < k ∧ k < j ∧ ar.testBit (ordN ord k) = true
      · obtain ⟨k, h1, h2, h3⟩ := hb
        exact ih k h2 ⟨h1, by omega, h3⟩
      · exact ⟨j, hj.1, hj.2.1, hj.2.2, fun k h1 h2 => by
          rw [← Bool.not_eq_true]; exact fun h3 => hb ⟨k, h1, h2, h3⟩⟩
  · left
    exact fun j h1 h2 => by rw [← Bool.not_eq_true]; exact fun h3 => hex ⟨j, h1, h2, h3⟩
/-- On which bag one hangs, and of which vertex it is the top. -/
theorem OrdOf.top (h : OrdOf S most p ord) (hS : smallS S) (hc : Closed S p) (behind : Int) (hb : 0 ≤ behind) {i : Nat} (hi : i < ord.length) :
    (parF ord behind (arI S ord i) i = -1 ∧ ∀ v, (arI S ord i).testBit v = true ↔ v = ordN ord i) ∨
    ∃ j, i < j ∧ j < ord.length ∧ parF ord behind (arI S ord i) i = behind + ord.length - 1 - j ∧ ∀ v, ((arI S ord i).testBit v = true ∧ (arI S ord j).testBit v = false) ↔ v = ordN ord i := by
  have hself : (arI S ord i).testBit (ordN ord i) = true := (h.ar hS hi).2 (Or.inl rfl)
  have hlater : ∀ v, (arI S ord i).testBit v = true → v ≠ ordN ord i → ∃ m, i < m ∧ m < ord.length ∧ ordN ord m = v ∧ Con S (ofTo (ord.take i)) (ordN ord i) v := fun v hv hne => by
    obtain ⟨m, hm, rfl⟩ := h.pos (h.sub hS hc hi hv)
    rcases (h.ar hS hi).1 hv with h1 | ⟨h1, h2⟩
    · exact absurd h1 hne
    · refine ⟨m, ?_, hm, rfl, h2⟩
      rcases Nat.lt_trichotomy i m with h3 | h3 | h3
      · exact h3
      · subst h3; exact absurd rfl hne
      · exact absurd rfl (h1 m h3)
  rcases next_or ord (arI S ord i) i with hn | ⟨j, h1, h2, h3, h4⟩
  · left
    refine ⟨parF_none fun q hq => hn _ (by omega) (by omega), fun v => ⟨fun hv => Classical.byContradiction fun hne => ?_, fun hv => hv ▸ hself⟩⟩
    obtain ⟨m, m1, m2, rfl, _⟩ := hlater v hv hne
    rw [hn m m1 m2] at hv; cases hv
  · right
    have hpar := parF_some (ord := ord) (behind := behind) (ar := arI S ord i) (i := i) (q := j - (i + 1)) (by omega) (fun k hk => h4 _ (by omega) (by omega)) (by rw [show i + 1 + (j - (i + 1)) = j by omega]; exact h3)
    rw [show i + 1 + (j - (i + 1)) = j by omega] at hpar
    refine ⟨j, h1, h2, hpar, fun v => ⟨fun ⟨hv, hvj⟩ => Classical.byContradiction fun hne => ?_, fun hv => ?_⟩⟩
    · obtain ⟨m, m1, m2, rfl, hcv⟩ := hlater v hv hne
      have hjm : j ≤ m := by
        rcases Nat.lt_or_ge m j with h5 | h5
        · rw [h4 m m1 h5] at hv; cases hv
        · exact h5
      obtain ⟨hx1, hx2⟩ : ordN ord j ≠ ordN ord i ∧ Con S (ofTo (ord.take i)) (ordN ord i) (ordN ord j) := by
        have hne' : ordN ord j ≠ ordN ord i := fun he => by have := h.inj h2 hi he; omega
        obtain ⟨_, _, _, _, hc2⟩ := hlater _ h3 hne'
        exact ⟨hne', hc2⟩
      have hmono : ∀ k, (ofTo (ord.take i)).testBit k = true → (ofTo (ord.take j)).testBit k = true := fun k hk => by
        rw [h.gone (by omega)] at hk ⊢
        obtain ⟨q, q1, q2⟩ := hk
        exact ⟨q, by omega, q2⟩
      have hgi : (ofTo (ord.take j)).testBit (ordN ord i) = true := (h.gone (by omega)).2 ⟨i, h1, rfl⟩
      have hcon : Con S (ofTo (ord.take j)) (ordN ord j) (ordN ord m) := Con.trans (Con.mono hmono hx2.symm) hgi (Con.mono hmono hcv)
      have : (arI S ord j).testBit (ordN ord m) = true := by
        rw [h.ar hS h2]
        by_cases hmj : m = j
        · left; rw [hmj]
        · right
          exact ⟨fun q hq he => by have := h.inj (by omega) m2 he; omega, hcon⟩
      rw [this] at hvj; cases hvj
    · subst hv
      refine ⟨hself, ?_⟩
      rw [← Bool.not_eq_true, h.ar hS h2]
      rintro (h5 | ⟨h5, _⟩)
      · have := h.inj hi h2 h5; omega
      · exact h5 i h1 rfl
/-- An edge that has a vertex of the part lies in a bag. -/
theorem OrdOf.home (h : OrdOf S most p ord) (hS : smallS S) (hc : Closed S p) {e : Nat} (he : e ∈ S) (hne : e &&& p ≠ 0) : ∃ i, i < ord.length ∧ ∀ w, e.testBit w = true → (arI S ord i).testBit w = true := by
  have hep : ∀ w, e.testBit w = true → p.testBit w = true := hc e he hne
  obtain ⟨w0, hw0, hw1⟩ := and_ne.1 hne
  obtain ⟨i0, hi0, rfl⟩ := h.pos hw1
  have key : ∃ i, i < ord.length ∧ e.testBit (ordN ord i) = true ∧ ∀ k, k < i → e.testBit (ordN ord k) = false := by
    clear hw1
    induction i0 using Nat.strongRecOn with
    | _ i ih =>
      by_cases hb : ∃ k, k < i ∧ e.testBit (ordN ord k) = true
      · obtain ⟨k, h1, h2⟩ := hb
        exact ih k h1 (by omega) h2
      · exact ⟨i, hi0, hw0, fun k hk => by rw [← Bool.not_eq_true]; exact fun h3 => hb ⟨k, hk, h3⟩⟩
  obtain ⟨i, h1, h2, h3⟩ := key
  refine ⟨i, h1, fun w hw => (h.ar hS h1).2 ?_⟩
  by_cases hwi : w = ordN ord i
  · exact Or.inl hwi
  · exact Or.inr ⟨fun j hj hjw => (by rw [← hjw, h3 j hj] at hw; cases hw), .one ⟨e, he, h2, hw⟩⟩
end
end Go.Proofs.YtceiaekkfabeaaaDoor

/- The bags of all parts' orders may be. -/
namespace Go.Proofs.YtceiaekkfabeaaaDoor
open Go.RowKit Pl

theorem nodup_len : ∀ (n : Nat) (l : List Nat), l.Nodup → (∀ x ∈ l, x < n) → l.length ≤ n
  | 0, [], _, _ => Nat.le_refl _
  | 0, x :: l, _, h => by have := h x (by simp); omega
  | n + 1, l, hd, h => by
    by_cases hn : n ∈ l
    · have h1 := nodup_len n (l.erase n) (hd.erase n) (fun x hx => by
        have h2 := (hd.mem_erase_iff).1 hx
        have := h x h2.2
        have := h2.1
        omega)
      have h2 := List.length_erase_of_mem hn
      omega
    · have h1 := nodup_len n l hd (fun x hx => by
        have := h x hx
        have : x ≠ n := fun he => hn (he ▸ hx)
        omega)
      omega
theorem rises_of {l : List Int} {many : Int} (hp : l.Pairwise (· < ·)) (hb : ∀ x ∈ l, 0 ≤ x ∧ x < many) : risesB l many = true := by
  rw [risesB_iff]
  intro i x hx
  have hm := hb x (List.mem_of_getElem? hx)
  refine ⟨hm.1, hm.2, fun y hi hy => ?_⟩
  obtain ⟨h1, rfl⟩ := List.getElem?_eq_some_iff.1 hx
  obtain ⟨h2, rfl⟩ := List.getElem?_eq_some_iff.1 hy
  exact List.pairwise_iff_getElem.1 hp (i - 1) i h2 h1 (by omega)
theorem lt_pow_of {x mm : Nat} (h : ∀ i, x.testBit i = true → i < mm) : x < 2 ^ mm := by
  refine Nat.lt_pow_two_of_testBit x fun i hi => ?_
  rw [← Bool.not_eq_true]
  exact fun hb => by have := h i hb; omega
theorem bit_lt {x mm i : Nat} (hx : x < 2 ^ mm) (h : x.testBit i = true) : i < mm := Classical.byContradiction fun hh => by
  rw [Nat.testBit_lt_two_pow (Nat.lt_of_lt_of_le hx (Nat.pow_le_pow_right (by omega) (by omega)))] at h
  cases h
theorem has_members {x mm v : Nat} (hx : x < 2 ^ mm) (hm : mm ≤ 32) : hasB (membersL x) (v : Int) = x.testBit v := by
  rw [Bool.eq_iff_iff, hasB_iff, membersL_mem]
  constructor
  · rintro ⟨u, hu, hm'⟩
    obtain rfl : v = u := by omega
    exact (membersN_mem.1 hm').2
  · exact fun h => ⟨v, rfl, membersN_mem.2 ⟨by have := bit_lt hx h; omega, h⟩⟩
theorem members_rises {x mm : Nat} (hx : x < 2 ^ mm) : risesB (membersL x) (mm : Int) = true := by
  refine rises_of ?_ fun y hy => ?_
  · rw [membersL, List.pairwise_map]
    exact (List.Pairwise.filter _ (List.pairwise_lt_range (n := 32))).imp (fun h => by omega)
  · obtain ⟨u, rfl, hu⟩ := membersL_mem.1 hy
    have := bit_lt hx (membersN_mem.1 hu).2
    omega
theorem rows_pairwise (hi : Int) : ∀ (m : Nat) (lo : Int), 0 ≤ lo → ∀ r ∈ rowsL hi m lo, r.Pairwise (· < ·)
  | 0, lo, _, r, hr => by
    rw [rowsL, List.mem_singleton] at hr
    subst hr; exact List.Pairwise.nil
  | m + 1, lo, h0, r, hr => by
    rw [rowsL] at hr
    obtain ⟨n, hn, hr⟩ := List.mem_flatMap.1 hr
    obtain ⟨q, hq, rfl⟩ := List.mem_map.1 hr
    have hn0 := (rangeL_mem.1 hn).1
    exact List.pairwise_cons.2 ⟨fun y hy => by have := (rowsL_in hi m (n + 1) (by omega) q hq y hy).1; omega, rows_pairwise hi m (n + 1) (by omega) q hq⟩
theorem cov_row {S : List Nat} {x : Nat} {r : List Int} (h : covO S x = some r) : risesB r (S.length : Int) = true ∧ covP S x r = true := by
  rw [covO_rows] at h
  obtain ⟨k, _, hk⟩ := List.exists_of_findSome?_eq_some h
  have hm := List.mem_of_find?_eq_some hk
  exact ⟨rises_of (rows_pairwise _ k 0 (Int.le_refl _) r hm) (fun y hy => rowsL_in _ k 0 (Int.le_refl _) r hm y hy), List.find?_some hk⟩
theorem filter_one {α : Type} {l : List α} {f : α → Bool} {i : Nat} {x : α} (hi : l[i]? = some x) (h1 : f x = true) (h2 : ∀ j y, l[j]? = some y → f y = true → j = i) : (l.filter f).length = 1 := by
  obtain ⟨hl, rfl⟩ := List.getElem?_eq_some_iff.1 hi
  have hs : l = l.take i ++ l[i] :: l.drop (i + 1) := by rw [List.getElem_cons_drop, List.take_append_drop]
  rw [hs, List.filter_append, List.filter_cons, if_pos h1]
  have e1 : (l.take i).filter f = [] := by
    rw [List.filter_eq_nil_iff]
    intro y hy hf
    obtain ⟨j, hj⟩ := List.mem_iff_getElem?.1 hy
    have hjl := (List.getElem?_eq_some_iff.1 hj).1
    rw [List.length_take] at hjl
    rw [List.getElem?_take_of_lt (by omega)] at hj
    have := h2 j y hj hf
    omega
  have e2 : (l.drop (i + 1)).filter f = [] := by
    rw [List.filter_eq_nil_iff]
    intro y hy hf
    obtain ⟨j, hj⟩ := List.mem_iff_getElem?.1 hy
    rw [List.getElem?_drop] at hj
    have := h2 _ y hj hf
    omega
  rw [e1, e2]; rfl
theorem widthTo_le {most : Int} : ∀ (l : List Bag) (m : Int), m ≤ most → (∀ b ∈ l, (b.es.length : Int) ≤ most) → widthTo m l ≤ most
  | [], m, h, _ => h
  | b :: l, m, h, hb => by
    rw [widthTo, List.foldl_cons]
    exact widthTo_le l _ (by have := hb b (by simp); omega) (fun b' hb' => hb b' (by simp [hb']))

/-- Bags, each with the vertex of which it is the top. -/
structure BagsOf (S : List Nat) (mm : Nat) (most : Int) (G : Nat) (out : List Bag) (V : List Nat) : Prop where
  len : V.length = out.length
  nodup : V.Nodup
  mem : ∀ u, u ∈ V ↔ G.testBit u = true
  lt : ∀ u ∈ V, u < mm
  form : ∀ (g : Nat) (b : Bag) (u : Nat), out[g]? = some b → V[g]? = some u → ∃ x, x < 2 ^ mm ∧ b.vs = membersL x ∧ covO S x = some b.es ∧ (b.es.length : Int) ≤ most ∧ -1 ≤ b.parent ∧ b.parent < g ∧ ∀ v : Nat, topB out (v : Int) b = true ↔ v = u
  home : ∀ e ∈ S, e &&& G ≠ 0 → ∃ b ∈ out, ∃ x, x < 2 ^ mm ∧ b.vs = membersL x ∧ ∀ w, e.testBit w = true → x.testBit w = true
theorem BagsOf.nil (S : List Nat) (mm : Nat) (most : Int) : BagsOf S mm most 0 [] [] :=
  ⟨rfl, List.nodup_nil, by simp, by simp, by simp, fun e _ h => by simp at h⟩
theorem topB_app {out new : List Bag} {v : Int} {b : Bag} (h : b.parent < out.length) : topB (out ++ new) v b = topB out v b := by
  rw [topB, topB]
  by_cases h0 : b.parent < 0
  · simp [h0]
  · rw [List.getElem?_append_left (by omega)]
theorem bagsL_at {S : List Nat} {ord : List Int} {behind : Int} {k : Nat} (hk : k < ord.length) : (bagsL S ord behind ord.length)[k]? = some (bagI S ord behind (ord.length - 1 - k)) := by
  simp [bagsL, List.getElem?_map, List.getElem?_range hk]
section
variable {S : List Nat} {mm : Nat} {most : Int} {G p : Nat} {out : List Bag} {V : List Nat} {ord : List Int}
theorem BagsOf.add (hS : smallS S) (hmm : mm ≤ 32) (h : BagsOf S mm most G out V) (hc : Closed S p) (hp : p < 2 ^ mm) (hd : ∀ i, p.testBit i = true → G.testBit i = false) (ho : OrdOf S most p ord) (hcov : ∀ v, v < mm → (orTo S).testBit v = true) :
    BagsOf S mm most (G ||| p) (out ++ bagsL S ord out.length ord.length) (V ++ (List.range ord.length).map fun k => ordN ord (ord.length - 1 - k)) := by
  have hV : ∀ k, k < ord.length → ((List.range ord.length).map fun k => ordN ord (ord.length - 1 - k))[k]? = some (ordN ord (ord.length - 1 - k)) := fun k hk => by simp [List.getElem?_map, List.getElem?_range hk]
  have hmem : ∀ u, u ∈ (List.range ord.length).map (fun k => ordN ord (ord.length - 1 - k)) ↔ p.testBit u = true := fun u => by
    rw [List.mem_map]
    constructor
    · rintro ⟨k, hk, rfl⟩
      have := List.mem_range.1 hk
      exact (ho.at (by omega)).2.2
    · intro hu
      obtain ⟨i, hi, rfl⟩ := ho.pos hu
      exact ⟨ord.length - 1 - i, List.mem_range.2 (by omega), by rw [show ord.length - 1 - (ord.length - 1 - i) = i by omega]⟩
  have hx : ∀ i, i < ord.length → arI S ord i < 2 ^ mm := fun i hi => lt_pow_of fun w hw => bit_lt hp (ho.sub hS hc hi hw)
  refine ⟨by simp [h.len, bagsL_len], ?_, fun u => ?_, fun u hu => ?_, fun g b u hg hu => ?_, fun e he hne => ?_⟩
  · rw [List.nodup_append]
    refine ⟨h.nodup, ?_, fun a ha b hb hab => ?_⟩
    · rw [List.nodup_iff_pairwise_ne, List.pairwise_map]
      refine List.Pairwise.imp_of_mem ?_ (List.pairwise_lt_range (n := ord.length))
      intro a b ha hb hab he
      have h1 := List.mem_range.1 ha
      have h2 := List.mem_range.1 hb
      have := ho.inj (by omega) (by omega) he
      omega
    · subst hab
      have h1 := (h.mem a).1 ha
      rw [hd a ((hmem a).1 hb)] at h1; cases h1
  · rw [List.mem_append, h.mem, hmem, Nat.testBit_or, Bool.or_eq_true]
  · rcases List.mem_append.1 hu with hu | hu
    · exact h.lt u hu
    · exact bit_lt hp ((hmem u).1 hu)
  · by_cases hgl : g < out.length
    · rw [List.getElem?_append_left hgl] at hg
      rw [List.getElem?_append_left (by rw [h.len]; exact hgl)] at hu
      obtain ⟨x, h1, h2, h3, h4, h5, h6, h7⟩ := h.form g b u hg hu
      refine ⟨x, h1, h2, h3, h4, h5, h6, fun v => ?_⟩
      rw [topB_app (by omega)]
      exact h7 v
    · rw [List.getElem?_append_right (by omega)] at hg
      rw [List.getElem?_append_right (by rw [h.len]; omega), h.len] at hu
      obtain ⟨k, hk⟩ : ∃ k, g = out.length + k := ⟨g - out.length, by omega⟩
      subst hk
      rw [show out.length + k - out.length = k by omega] at hg hu
      have hkl : k < ord.length := by have := (List.getElem?_eq_some_iff.1 hg).1; rw [bagsL_len] at this; exact this
      rw [bagsL_at hkl] at hg
      rw [hV k hkl] at hu
      simp only [Option.some.injEq] at hg hu
      obtain ⟨i, hi⟩ : ∃ i, i = ord.length - 1 - k := ⟨_, rfl⟩
      rw [← hi] at hg hu
      have hil : i < ord.length := by omega
      subst hu
      have hcv : covO S (arI S ord i) = some ((covO S (arI S ord i)).getD []) := by
        obtain ⟨r, hr⟩ := arF_cov (S := S) (v := ordN ord i) (gone := ofTo (ord.take i)) (hcov _ (bit_lt hp (ho.at hil).2.2))
        rw [show arI S ord i = arF S (ordN ord i) (ofTo (ord.take i)) from rfl, hr]; rfl
      have hb : b.vs = membersL (arI S ord i) ∧ b.es = (covO S (arI S ord i)).getD [] ∧ b.parent = parF ord out.length (arI S ord i) i := by rw [← hg]; exact ⟨rfl, rfl, rfl⟩
      obtain ⟨hb1, hb2, hb3⟩ := hb
      refine ⟨arI S ord i, hx i hil, hb1, by rw [hb2]; exact hcv, by rw [hb2]; exact ho.wid i hil, ?_⟩
      rcases ho.top hS hc (out.length : Int) (by omega) hil with ⟨t1, t2⟩ | ⟨j, j1, j2, t1, t2⟩
      · rw [hb3, t1]
        refine ⟨by omega, by omega, fun v => ?_⟩
        rw [topB, hb1, hb3, t1, has_members (hx i hil) hmm]
        simpa using t2 v
      · have hpar : parF ord (out.length : Int) (arI S ord i) i = ((out.length + (ord.length - 1 - j) : Nat) : Int) := by rw [t1]; omega
        rw [hb3, hpar]
        refine ⟨by omega, by omega, fun v => ?_⟩
        rw [topB, hb1, hb3, hpar, has_members (hx i hil) hmm, Int.toNat_natCast, List.getElem?_append_right (by omega), show out.length + (ord.length - 1 - j) - out.length = ord.length - 1 - j by omega, bagsL_at (by omega), show ord.length - 1 - (ord.length - 1 - j) = j by omega]
        rw [Option.getD_some, show (bagI S ord (out.length : Int) j).vs = membersL (arI S ord j) from rfl, has_members (hx j j2) hmm, ← t2 v, Bool.and_eq_true, Bool.or_eq_true, decide_eq_true_eq, Bool.not_eq_true']
        constructor
        · rintro ⟨a1, a2 | a2⟩
          · omega
          · exact ⟨a1, a2⟩
        · rintro ⟨a1, a2⟩
          exact ⟨a1, Or.inr a2⟩
  · by_cases hG : e &&& G ≠ 0
    · obtain ⟨b, hb, x, h1, h2, h3⟩ := h.home e he hG
      exact ⟨b, List.mem_append_left _ hb, x, h1, h2, h3⟩
    · have hpe : e &&& p ≠ 0 := by
        obtain ⟨i, h1, h2⟩ := and_ne.1 hne
        rw [Nat.testBit_or, Bool.or_eq_true] at h2
        rcases h2 with h2 | h2
        · exact absurd (and_ne.2 ⟨i, h1, h2⟩) hG
        · exact and_ne.2 ⟨i, h1, h2⟩
      obtain ⟨i, hi, hw⟩ := ho.home hS hc he hpe
      refine ⟨bagI S ord out.length i, List.mem_append_right _ (List.mem_of_getElem? (i := ord.length - 1 - i) ?_), arI S ord i, hx i hi, rfl, hw⟩
      rw [bagsL_at (by omega), show ord.length - 1 - (ord.length - 1 - i) = i by omega]
theorem bags_ofF (hS : smallS S) (hmm : mm ≤ 32) (hcov : ∀ v, v < mm → (orTo S).testBit v = true) : ∀ (ps : List Nat) (G : Nat) (out : List Bag) (V : List Nat) (o : List Bag), Apart S G ps → (∀ p ∈ ps, p < 2 ^ mm) → BagsOf S mm most G out V → ofF S most ps out = some o → ∃ V', BagsOf S mm most (ps.foldl (· ||| ·) G) o V'
  | [], G, out, V, o, _, _, h, ho => by
    rw [ofF, Option.some.injEq] at ho
    subst ho; exact ⟨V, h⟩
  | p :: ps, G, out, V, o, ⟨h1, h2, h3⟩, hlt, h, ho => by
    rw [ofF] at ho
    cases hg : goX S p most 0 with
    | none => rw [hg] at ho; cases ho
    | some ord =>
      rw [hg] at ho
      exact bags_ofF hS hmm hcov ps (G ||| p) _ _ o h3 (fun q hq => hlt q (by simp [hq])) (h.add hS hmm h1 (hlt p (by simp)) h2 (ordOf_goX hg) hcov) ho
end
/-- Such bags may be. -/
theorem BagsOf.right {es : List (List Int)} {mm G : Nat} {most : Int} {out : List Bag} {V : List Nat} (h : hyperB (mm : Int) es = true) (hB : BagsOf (es.map ofTo) mm most G out V) (hG : ∀ v, v < mm → G.testBit v = true) (hne : out ≠ [] ∨ es = []) : rightB (mm : Int) es out = true := by
  obtain ⟨_, hm, _, h4⟩ := hyperB_parts h
  have hnn := hyper_nonneg h
  have hm32 : mm ≤ 32 := by omega
  have hlen : out.length ≤ mm := by rw [← hB.len]; exact nodup_len mm V hB.nodup hB.lt
  have hVat : ∀ g, g < out.length → ∃ u, V[g]? = some u := fun g hg => ⟨V[g]'(by rw [hB.len]; exact hg), List.getElem?_eq_getElem _⟩
  have hlt32 : ∀ x, x < 2 ^ mm → x < 4294967296 := fun x hx => Nat.lt_of_lt_of_le hx (by have := Nat.pow_le_pow_right (n := 2) (by omega) hm32; simpa using this)
  rw [rightB, Bool.and_eq_true, Bool.and_eq_true, Bool.and_eq_true, decide_eq_true_eq]
  refine ⟨⟨⟨by omega, allI_iff.2 fun g b hb => ?_⟩, ?_⟩, ?_⟩
  · have hgl := (List.getElem?_eq_some_iff.1 hb).1
    obtain ⟨u, hu⟩ := hVat g hgl
    obtain ⟨x, h1, h2, h3, _, h5, h6, _⟩ := hB.form g b u hb hu
    obtain ⟨c1, c2⟩ := cov_row h3
    rw [List.length_map] at c1
    rw [Nat.zero_add, Bool.and_eq_true, bagFormB]
    refine ⟨by rw [h2, members_rises h1, c1]; simp; omega, ?_⟩
    rw [covers_covP hnn (fun v hv => by rw [h2] at hv; exact rises_nonneg (members_rises h1) v hv), h2, ofTo_members x (hlt32 x h1)]
    exact c2
  · rw [allB, List.all_eq_true]
    intro e he
    rw [anyB, List.any_eq_true]
    by_cases h0 : ofTo e = 0
    · have hem : e = [] := by
        cases e with
        | nil => rfl
        | cons v l =>
          have : (ofTo (v :: l)).testBit v.toNat = true := by rw [ofTo_testBit]; simp
          rw [h0] at this; simp at this
      subst hem
      rcases hne with hne | rfl
      · cases out with
        | nil => exact absurd rfl hne
        | cons b l => exact ⟨b, by simp, rfl⟩
      · cases he
    · have hand : ofTo e &&& G ≠ 0 := by
        obtain ⟨i, hi⟩ := Nat.exists_testBit_of_ne_zero h0
        have : i < mm := bit_lt (ofTo_lt_pow (inB_of_rises (h4 e he))) hi
        exact and_ne.2 ⟨i, hi, hG i this⟩
      obtain ⟨b, hb, x, h1, h2, h3⟩ := hB.home (ofTo e) (List.mem_map.2 ⟨e, he, rfl⟩) hand
      refine ⟨b, hb, ?_⟩
      rw [← sub_within (hnn e he) (fun v hv => by rw [h2] at hv; exact rises_nonneg (members_rises h1) v hv), h2, ofTo_members x (hlt32 x h1), beq_iff_eq, sdn_zero]
      exact h3
  · rw [allB, List.all_eq_true]
    intro v hv
    obtain ⟨hv0, hv1⟩ := mem_vertsL.1 hv
    obtain ⟨n, rfl⟩ := Int.eq_ofNat_of_zero_le hv0
    rw [decide_eq_true_eq, topsN]
    obtain ⟨g, hg⟩ := List.mem_iff_getElem?.1 ((hB.mem n).2 (hG n (by omega)))
    have hgl : g < out.length := by have := (List.getElem?_eq_some_iff.1 hg).1; rw [hB.len] at this; exact this
    have hb : out[g]? = some out[g] := List.getElem?_eq_getElem hgl
    obtain ⟨x, _, _, _, _, _, _, h7⟩ := hB.form g _ n hb hg
    have := filter_one (f := topB out (n : Int)) hb ((h7 n).2 rfl) (fun j y hj hy => by
      have hjl := (List.getElem?_eq_some_iff.1 hj).1
      obtain ⟨u, hu⟩ := hVat j hjl
      obtain ⟨_, _, _, _, _, _, _, k7⟩ := hB.form j y u hj hu
      have hnu := (k7 n).1 hy
      subst hnu
      exact List.getElem?_inj (by rw [hB.len]; exact hjl) hB.nodup |>.1 (hu.trans hg.symm))
    omega
theorem BagsOf.width {S : List Nat} {mm G : Nat} {most : Int} {out : List Bag} {V : List Nat} (hB : BagsOf S mm most G out V) (hm : 0 ≤ most) : widthTo 0 out ≤ most := by
  refine widthTo_le _ _ hm fun b hb => ?_
  obtain ⟨g, hg⟩ := List.mem_iff_getElem?.1 hb
  have hgl := (List.getElem?_eq_some_iff.1 hg).1
  obtain ⟨x, _, _, _, h4, _⟩ := hB.form g b _ hg (List.getElem?_eq_getElem (by rw [hB.len]; exact hgl))
  exact h4
end Go.Proofs.YtceiaekkfabeaaaDoor

/- What Of and Least answer, told by orders of all vertices. -/
namespace Go.Proofs.YtceiaekkfabeaaaDoor
open Go.RowKit Pl

theorem sets_lt {mm : Nat} {es : List (List Int)} (h : hyperB (mm : Int) es = true) : ∀ x ∈ es.map ofTo, x < 2 ^ mm := fun x hx => by
  obtain ⟨_, _, _, h4⟩ := hyperB_parts h
  obtain ⟨e, he, rfl⟩ := List.mem_map.1 hx
  exact ofTo_lt_pow (inB_of_rises (h4 e he))
theorem orTo_lt_mm {mm : Nat} {es : List (List Int)} (h : hyperB (mm : Int) es = true) : orTo (es.map ofTo) < 2 ^ mm := lt_pow_of fun i hi => by
  rw [orTo_testBit, List.any_eq_true] at hi
  obtain ⟨x, hx, hxi⟩ := hi
  exact bit_lt (sets_lt h x hx) hxi
theorem full_members : ∀ m : Fin 33, (membersN (2 ^ m.val - 1)).length = m.val := by decide +kernel
/-- All vertices stand in edges just if there are enough that do. -/
theorem all_covered {x mm : Nat} (hx : x < 2 ^ mm) (hm : mm ≤ 32) : (membersN x).length < mm ↔ ¬ ∀ v, v < mm → x.testBit v = true := by
  constructor
  · intro h hall
    have h1 : membersN (2 ^ mm - 1) = membersN x := by
      rw [membersN, membersN]
      apply List.filter_congr
      intro i hi
      rw [Nat.testBit_two_pow_sub_one]
      cases hb : x.testBit i with
      | true => have := bit_lt hx hb; simp [this]
      | false =>
        have : ¬ i < mm := fun h => by rw [hall i h] at hb; cases hb
        simp [this]
    have h2 := full_members ⟨mm, by omega⟩
    rw [h1] at h2
    simp only at h2
    omega
  · intro h
    refine Classical.byContradiction fun hle => h fun v hv => Classical.byContradiction fun hb => ?_
    have h1 := nodup_len mm (v :: membersN x) (List.nodup_cons.2 ⟨fun hm' => hb (membersN_mem.1 hm').2, membersN_nodup x⟩) (fun u hu => by
      rcases List.mem_cons.1 hu with rfl | hu
      · exact hv
      · exact bit_lt hx (membersN_mem.1 hu).2)
    rw [List.length_cons] at h1
    omega
theorem bare_iff {mm : Nat} {es : List (List Int)} (h : hyperB (mm : Int) es = true) : bareB (mm : Int) es = false ↔ ∀ v, v < mm → (orTo (es.map ofTo)).testBit v = true := by
  have hnn := hyper_nonneg h
  rw [bareB, Bool.not_eq_false', allB, List.all_eq_true]
  have key : ∀ v : Nat, anyB (fun e => hasB e (v : Int)) es = (orTo (es.map ofTo)).testBit v := fun v => by
    rw [orTo_testBit, anyB, List.any_map]
    refine any_congr2 fun e he => ?_
    have := ofTo_has (l := e) (hnn e he) (v := (v : Int)) (by omega)
    rw [Int.toNat_natCast] at this
    exact this.symm
  constructor
  · intro hall v hv
    rw [← key]
    exact hall _ (mem_vertsL.2 ⟨by omega, by omega⟩)
  · intro hall x hx
    obtain ⟨h0, h1⟩ := mem_vertsL.1 hx
    obtain ⟨v, rfl⟩ := Int.eq_ofNat_of_zero_le h0
    rw [key]
    exact hall v (by omega)
theorem begin_bare {mm : Nat} {es : List (List Int)} {most : Int} (h : hyperB (mm : Int) es = true) (hm : 1 ≤ most) : beginE (mm : Int) es most = if bareB (mm : Int) es then 4 else 0 := by
  obtain ⟨_, hm32, _, _⟩ := hyperB_parts h
  rw [beginE, if_neg (by simp [h]), if_neg (by omega)]
  have h1 := all_covered (orTo_lt_mm h) (by omega)
  cases hb : bareB (mm : Int) es with
  | true =>
    have h2 : (membersN (orTo (es.map ofTo))).length < mm := h1.2 fun hall => by rw [(bare_iff h).2 hall] at hb; cases hb
    rw [if_pos (by omega)]; rfl
  | false =>
    have h2 : ¬ (membersN (orTo (es.map ofTo))).length < mm := fun hh => h1.1 hh ((bare_iff h).1 hb)
    rw [if_neg (by omega)]; rfl
theorem right_empty {es : List (List Int)} (h : hyperB 0 es = true) : rightB 0 es [⟨[], [], -1⟩] = true := by
  obtain ⟨_, _, _, h4⟩ := hyperB_parts h
  rw [rightB, Bool.and_eq_true, Bool.and_eq_true, Bool.and_eq_true]
  refine ⟨⟨⟨rfl, rfl⟩, ?_⟩, rfl⟩
  rw [allB, List.all_eq_true]
  intro e he
  have : e = [] := by
    cases e with
    | nil => rfl
    | cons v l =>
      have := risesB_iff.1 (h4 _ he) 0 v rfl
      have h1 := this.1
      have h2 := this.2.1
      omega
  subst this
  rfl
theorem ofF_all {S : List Nat} {most : Int} : ∀ (ps : List Nat) (out o : List Bag), ofF S most ps out = some o → ∀ p ∈ ps, ∃ l, goX S p most 0 = some l
  | [], _, _, _, p, hp => by simp at hp
  | q :: ps, out, o, h, p, hp => by
    rw [ofF] at h
    cases hg : goX S q most 0 with
    | none => rw [hg] at h; cases h
    | some ord =>
      rw [hg] at h
      rcases List.mem_cons.1 hp with rfl | hp
      · exact ⟨ord, hg⟩
      · exact ofF_all ps _ o h p hp
/-- What Of answers where something is searched. -/
theorem of_law {mm : Nat} {es : List (List Int)} {most : Int} (h : hyperB (mm : Int) es = true) (hm : 1 ≤ most) (hb : bareB (mm : Int) es = false) :
    ((ofA (mm : Int) es most).1 = 0 ∧ rightB (mm : Int) es (ofA (mm : Int) es most).2 = true ∧ widthTo 0 (ofA (mm : Int) es most).2 ≤ most ∧ ∃ l, Elim (es.map ofTo) most (2 ^ mm - 1) 0 l) ∨
    ((ofA (mm : Int) es most).1 = 4 ∧ (ofA (mm : Int) es most).2 = [] ∧ ¬ ∃ l, Elim (es.map ofTo) most (2 ^ mm - 1) 0 l) := by
  obtain ⟨_, hm32, _, _⟩ := hyperB_parts h
  have hmm : mm ≤ 32 := by omega
  have hS : smallS (es.map ofTo) := smallS_of (hyperB_small h)
  have hlt := sets_lt h
  have hplt : ∀ p ∈ partsL (es.map ofTo) mm, p < 2 ^ mm := partsL_lt_pow hlt mm (Nat.le_refl _)
  have hp32 : ∀ p ∈ partsL (es.map ofTo) mm, p < 4294967296 := fun p hp => Nat.lt_of_lt_of_le (hplt p hp) (by have := Nat.pow_le_pow_right (n := 2) (by omega) hmm; simpa using this)
  have hcov := (bare_iff h).1 hb
  have hbe : beginE (mm : Int) es most = 0 := by rw [begin_bare h hm, hb]; rfl
  rw [ofA, if_neg (by rw [hbe]; simp), Int.toNat_natCast]
  cases hof : ofF (es.map ofTo) most (partsL (es.map ofTo) mm) [] with
  | none =>
    right
    refine ⟨rfl, rfl, fun hex => ?_⟩
    obtain ⟨o, ho⟩ := ofF_some (most := most) (partsL (es.map ofTo) mm) [] (fun p hp => (goX_iff (hp32 p hp)).2 ((elim_all hS hmm hlt).1 hex p hp))
    rw [hof] at ho; cases ho
  | some out =>
    left
    obtain ⟨h1, h2, h3, h4, h5⟩ := partsF_spec hS mm hmm
    obtain ⟨V, hB⟩ := bags_ofF (mm := mm) hS hmm hcov (partsL (es.map ofTo) mm) 0 [] [] out h1 hplt (BagsOf.nil _ _ _) hof
    have hG : ∀ v, v < mm → ((partsL (es.map ofTo) mm).foldl (· ||| ·) 0).testBit v = true := fun v hv => by
      rw [show (partsL (es.map ofTo) mm).foldl (· ||| ·) 0 = (partsF (es.map ofTo) mm).2 from h2]; exact h4 v hv
    have hE : ∃ l, Elim (es.map ofTo) most (2 ^ mm - 1) 0 l := (elim_all hS hmm hlt).2 fun p hp => (goX_iff (hp32 p hp)).1 (ofF_all _ _ _ hof p hp)
    refine ⟨rfl, ?_⟩
    show rightB (mm : Int) es (endO es out) = true ∧ widthTo 0 (endO es out) ≤ most ∧ _
    by_cases he : out.length = 0 ∧ 0 < es.length
    · rw [show (endO es out) = [⟨[], [], -1⟩] from by rw [endO, if_pos he]]
      have hmm0 : mm = 0 := by
        refine Classical.byContradiction fun hne => ?_
        have := (hB.mem 0).2 (hG 0 (by omega))
        have h0 := List.length_pos_of_mem this
        rw [hB.len] at h0
        omega
      subst hmm0
      exact ⟨right_empty h, by show max 0 0 ≤ most; omega, hE⟩
    · rw [show (endO es out) = out from by rw [endO, if_neg he]]
      refine ⟨hB.right h hG ?_, hB.width (by omega), hE⟩
      by_cases ho : out = []
      · right
        subst ho
        have : ¬ 0 < es.length := fun hh => he ⟨rfl, hh⟩
        exact List.eq_nil_of_length_eq_zero (by omega)
      · exact Or.inl ho
theorem Elim.more {S : List Nat} {m1 m2 : Int} (hm : m1 ≤ m2) {T : Nat} : ∀ (l : List Nat) (gone : Nat), Elim S m1 T gone l → Elim S m2 T gone l
  | [], _, h => h
  | _ :: l, _, ⟨h1, h2, h3, h4, h5⟩ => ⟨h1, h2, h3, by omega, Elim.more hm l _ h5⟩
/-- What Least answers where something is searched. -/
theorem least_law {mm : Nat} {es : List (List Int)} (h : hyperB (mm : Int) es = true) (h6 : mm ≤ 6) (hb : bareB (mm : Int) es = false) :
    ∃ n : Nat, leastA (mm : Int) es = ((n : Int), 0) ∧ n ≤ 41 ∧ (n = 0 ↔ mm = 0) ∧ (0 < n → ∃ l, Elim (es.map ofTo) (n : Int) (2 ^ mm - 1) 0 l) ∧ (∀ j : Nat, 1 ≤ j → j < n → ¬ ∃ l, Elim (es.map ofTo) (j : Int) (2 ^ mm - 1) 0 l) := by
  have hbe : beginE (mm : Int) es 1 = 0 := by rw [begin_bare h (Int.le_refl _), hb]; rfl
  by_cases h0 : mm = 0
  · subst h0
    have hne : ¬ beginE ((0 : Nat) : Int) es 1 ≠ 0 := fun hh => hh hbe
    exact ⟨0, by rw [leastA, if_neg hne, if_pos (show ((0 : Nat) : Int) = 0 from rfl)]; rfl, by omega, by simp, by simp, fun j h1 h2 => by omega⟩
  · obtain ⟨s1, s2, s3, s4⟩ := leastX_spec (by omega) hbe
    refine ⟨leastX (mm : Int) es, by rw [leastA, if_neg (by rw [hbe]; simp), if_neg (by omega)], s2, by omega, fun _ => ?_, fun j hj1 hj2 => ?_⟩
    · rcases of_law (most := (leastX (mm : Int) es : Nat)) h (by omega) hb with hl | hl
      · exact hl.2.2.2
      · exact absurd hl.1 s4
    · rcases of_law (most := (j : Nat)) h (by omega) hb with hl | hl
      · have := s3 j hj1 hj2
        rw [hl.1] at this; cases this
      · exact hl.2.2
end Go.Proofs.YtceiaekkfabeaaaDoor

/- Plain laws for DecompAcyclic: one edge more that has all vertices, all vertices in one bag, the least width and what is reduced. -/
namespace Go.Proofs.YtceiaekkfabeaaaDoor
open Go.RowKit Pl

theorem full_bit {mm u : Nat} : (ofTo (vertsL (mm : Int))).testBit u = true ↔ u < mm := by
  rw [ofTo_testBit, List.any_eq_true]
  constructor
  · rintro ⟨x, hx, hxu⟩
    obtain ⟨h0, h1⟩ := mem_vertsL.1 hx
    rw [beq_iff_eq] at hxu
    omega
  · exact fun h => ⟨(u : Int), mem_vertsL.2 ⟨by omega, by omega⟩, by simp⟩
theorem full_lt (mm : Nat) : ofTo (vertsL (mm : Int)) < 2 ^ mm := lt_pow_of fun _ hi => full_bit.1 hi
theorem verts_rises {mm : Nat} : risesB (vertsL (mm : Int)) (mm : Int) = true := by
  refine rises_of ?_ fun y hy => mem_vertsL.1 hy
  rw [vertsL, List.pairwise_map, Int.toNat_natCast]
  exact List.pairwise_lt_range.imp (fun h => by simp only [Int.ofNat_eq_natCast]; omega)
/-- What is covered by a row is covered by no more. -/
theorem cov_few {S : List Nat} {x m : Nat} {row : List Int} (hm : m ≤ S.length) (hr : row ∈ rowsL (S.length : Int) m 0) (hp : covP S x row = true) : ∃ r, covO S x = some r ∧ r.length ≤ m := by
  have hne : (rowsL (S.length : Int) m 0).find? (covP S x) ≠ none := fun hh => by
    rw [List.find?_eq_none] at hh
    exact hh _ hr hp
  obtain ⟨k, r, hk, hrow, hmin⟩ := min_some (b := fun m => (rowsL (S.length : Int) m 0).find? (covP S x)) m hne
  refine ⟨r, ?_, ?_⟩
  · rw [covO_rows]; exact first_at hrow hmin (S.length + 1) (by omega)
  · rw [rowsL_row_len _ k 0 r (List.mem_of_find?_eq_some hrow)]; exact hk
/-- A cover that is found is a row of places, and covers. -/
theorem cov_found {S : List Nat} {x : Nat} {row : List Int} (h : covO S x = some row) : row.length ≤ S.length ∧ row ∈ rowsL (S.length : Int) row.length 0 ∧ covP S x row = true := by
  rw [covO_rows] at h
  obtain ⟨k, hk, hf⟩ := List.exists_of_findSome?_eq_some h
  have hm := List.mem_of_find?_eq_some hf
  have hl := rowsL_row_len _ k 0 row hm
  rw [List.mem_range] at hk
  exact ⟨by omega, by rw [hl]; exact hm, List.find?_some hf⟩
theorem covP_sub {S : List Nat} {x y : Nat} {row : List Int} (h : covP S y row = true) (hs : SubN x y) : covP S x row = true := covP_iff.2 fun i hi => covP_iff.1 h i (hs i hi)
theorem elim_wide {S : List Nat} {most : Int} {mm : Nat} (hmm : mm ≤ 32) (h : ∀ v gone, v < mm → (covLen S (arF S v gone) : Int) ≤ most) : ∃ l, Elim S most (2 ^ mm - 1) 0 l := by
  have hp : 2 ^ mm - 1 < 4294967296 := by
    have := Nat.pow_le_pow_right (n := 2) (by omega) hmm
    have h2 : (2 : Nat) ^ 32 = 4294967296 := by decide
    have := Nat.two_pow_pos mm
    omega
  refine (goX_iff hp).1 ?_
  rw [goX]
  refine goN_some (fun v gone _ hb => h v gone ?_) 32 0 (membersN_len _) (by omega) hp ?_
  · rw [Nat.testBit_two_pow_sub_one] at hb; simpa using hb
  · rw [sdn_zero]; intro i hi; simp at hi
section
variable {mm : Nat} {es : List (List Int)} (hh : hyperB (mm : Int) es = true)
include hh
theorem around_full {v gone : Nat} (hv : v < mm) : SubN (arF (es.map ofTo) v gone) (ofTo (vertsL (mm : Int))) := fun u hu => by
  obtain ⟨_, h2, _, _⟩ := hyperB_parts hh
  rcases (arF_iff (smallS_of (hyperB_small hh)) (by omega)).1 hu with rfl | ⟨_, hc⟩
  · exact full_bit.2 hv
  · exact full_bit.2 (con_below (sets_lt hh) hc)
/-- All vertices have a cover, where none is bare. -/
theorem full_cover (hb : bareB (mm : Int) es = false) : ∃ c, covO (es.map ofTo) (ofTo (vertsL (mm : Int))) = some c := by
  refine covO_some ?_
  rw [sdn_zero]
  exact fun u hu => (bare_iff hh).1 hb u (full_bit.1 hu)
theorem full_coverA (hb : bareB (mm : Int) es = false) {c : List Int} (hc : covO (es.map ofTo) (ofTo (vertsL (mm : Int))) = some c) : coverA (mm : Int) es (vertsL (mm : Int)) = (0, some c) := by
  have h0 : sdn (ofTo (vertsL (mm : Int))) (orTo (es.map ofTo)) = 0 := by
    rw [sdn_zero]
    exact fun u hu => (bare_iff hh).1 hb u (full_bit.1 hu)
  rw [coverA, if_neg (by simp [hh]), if_neg (by simp [verts_rises]), if_neg (by simp [h0]), hc]
/-- The least width is no more than a cover of all. -/
theorem least_cover {n : Nat} {c : List Int} (hc : covO (es.map ofTo) (ofTo (vertsL (mm : Int))) = some c) (hn0 : n = 0 ↔ mm = 0) (hn2 : ∀ j : Nat, 1 ≤ j → j < n → ¬ ∃ l, Elim (es.map ofTo) (j : Int) (2 ^ mm - 1) 0 l) : n ≤ c.length := by
  obtain ⟨_, h2, _, _⟩ := hyperB_parts hh
  refine Classical.byContradiction fun hlt => ?_
  have hm : mm ≠ 0 := fun h => by have := hn0.2 h; omega
  obtain ⟨hl, hr, hp⟩ := cov_found hc
  have hc1 : 1 ≤ c.length := by
    refine Classical.byContradiction fun h => ?_
    have h0 : c = [] := List.eq_nil_of_length_eq_zero (by omega)
    rw [h0] at hp
    have := covP_iff.1 hp 0 (full_bit.2 (by omega))
    simp at this
  refine hn2 c.length hc1 (by omega) (elim_wide (by omega) fun v gone hv => ?_)
  obtain ⟨r, h3, h4⟩ := cov_few hl hr (covP_sub hp (around_full hh hv))
  rw [covLen, h3]
  simp only [Option.getD_some]
  omega
/-- All vertices in one bag. -/
theorem one_right {c : List Int} (hc : covO (es.map ofTo) (ofTo (vertsL (mm : Int))) = some c) : checkE (mm : Int) es [⟨vertsL (mm : Int), c, -1⟩] = 0 := by
  obtain ⟨_, h2, _, _⟩ := hyperB_parts hh
  obtain ⟨hl, hr, hp⟩ := cov_found hc
  rw [check_law hh]
  have : rightB (mm : Int) es [⟨vertsL (mm : Int), c, -1⟩] = true := by
    have hcr : risesB c (es.length : Int) = true := by
      rw [List.length_map] at hr
      exact rises_of (rows_pairwise _ _ 0 (by omega) c hr) fun y hy => rowsL_in _ _ 0 (by omega) c hr y hy
    have hcv : coversB es c (vertsL (mm : Int)) = true := by
      rw [covers_covP (hyper_nonneg hh) (fun v hv => (mem_vertsL.1 hv).1)]; exact hp
    simp only [rightB, Bool.and_eq_true, decide_eq_true_eq]
    refine ⟨⟨⟨by simp, ?_⟩, ?_⟩, ?_⟩
    · simp [allI, bagFormB, verts_rises, hcr, hcv]
    · rw [allB, List.all_eq_true]
      intro e he
      simp only [anyB, List.any_cons, List.any_nil, Bool.or_false, withinB, allB, List.all_eq_true]
      intro x hx
      obtain ⟨u, rfl, hu⟩ := verts_lt hh he hx
      exact hasB_iff.2 (mem_vertsL.2 ⟨by omega, by omega⟩)
    · rw [allB, List.all_eq_true]
      intro v hv
      have : topB [⟨vertsL (mm : Int), c, -1⟩] v ⟨vertsL (mm : Int), c, -1⟩ = true := by
        rw [topB, hasB_iff.2 hv]; rfl
      rw [decide_eq_true_eq, topsN, List.filter_cons_of_pos this]
      rfl
  rw [this]; rfl
/-- The edges, and one more that has all vertices. -/
def moreE (es : List (List Int)) (mm : Nat) : List (List Int) := (es ++ [vertsL (mm : Int)]).map fun e => membersL (ofTo e)
theorem more_lt {e : List Int} (he : e ∈ es ++ [vertsL (mm : Int)]) : ofTo e < 2 ^ mm := by
  rcases List.mem_append.1 he with he | he
  · exact sets_lt hh _ (List.mem_map.2 ⟨e, he, rfl⟩)
  · rw [List.mem_singleton.1 he]; exact full_lt mm
theorem more_sets : (moreE es mm).map ofTo = es.map ofTo ++ [ofTo (vertsL (mm : Int))] := by
  obtain ⟨_, h2, _, _⟩ := hyperB_parts hh
  have e0 : es.map ofTo ++ [ofTo (vertsL (mm : Int))] = (es ++ [vertsL (mm : Int)]).map ofTo := by simp
  rw [moreE, List.map_map, e0]
  refine List.map_congr_left fun e he => ?_
  refine ofTo_members _ (Nat.lt_of_lt_of_le (more_lt hh he) ?_)
  have := Nat.pow_le_pow_right (n := 2) (by omega) (show mm ≤ 32 by omega)
  have h2 : (2 : Nat) ^ 32 = 4294967296 := by decide
  omega
theorem more_hyper (hl : es.length ≤ 39) : hyperB (mm : Int) (moreE es mm) = true := by
  obtain ⟨h1, h2, _, _⟩ := hyperB_parts hh
  simp only [hyperB, Bool.and_eq_true, decide_eq_true_eq, allB, List.all_eq_true]
  refine ⟨⟨⟨h1, h2⟩, by simp [moreE]; omega⟩, fun e he => ?_⟩
  rw [moreE, List.mem_map] at he
  obtain ⟨e', he', rfl⟩ := he
  exact members_rises (more_lt hh he')
theorem more_least (hl : es.length ≤ 39) (h6 : mm ≤ 6) : leastA (mm : Int) (moreE es mm) = (min (mm : Int) 1, 0) := by
  have hh2 := more_hyper hh hl
  have hS := more_sets hh
  have hb : bareB (mm : Int) (moreE es mm) = false := (bare_iff hh2).2 fun v hv => by
    rw [hS, orTo_testBit, List.any_append]
    simp [full_bit.2 hv]
  obtain ⟨n, hA, _, hn0, hn1, hn2⟩ := least_law hh2 h6 hb
  rw [hA]
  congr 1
  by_cases hm : mm = 0
  · rw [hn0.2 hm, hm]; decide
  · have : ¬ 1 < n := fun h => hn2 1 (Nat.le_refl _) h (elim_wide (by omega) fun v gone hv => by
      have hx : SubN (arF ((moreE es mm).map ofTo) v gone) (ofTo (vertsL (mm : Int))) := around_full hh2 hv
      have hk : ((moreE es mm).map ofTo)[es.length]? = some (ofTo (vertsL (mm : Int))) := by
        rw [hS, List.getElem?_append_right (by simp)]; simp
      obtain ⟨r, h3, h4⟩ := cov_one hk hx
      rw [covLen, h3]
      simp only [Option.getD_some]
      omega)
    have h0 : n ≠ 0 := fun h => hm (hn0.1 h)
    have : n = 1 := by omega
    rw [this]
    omega
/-- The least width is at most 1 just if nothing is left. -/
theorem acyclic_law (hb : bareB (mm : Int) es = false) {n : Nat} (hn0 : n = 0 ↔ mm = 0) (hn1 : 0 < n → ∃ l, Elim (es.map ofTo) (n : Int) (2 ^ mm - 1) 0 l) (hn2 : ∀ j : Nat, 1 ≤ j → j < n → ¬ ∃ l, Elim (es.map ofTo) (j : Int) (2 ^ mm - 1) 0 l)
    {g : Nat → Option Nat} (hR : Reach (startG es) g) (hS : Stuck g) : (∀ i, g i = none) ↔ n ≤ 1 := by
  rw [gyo_law hh hb hR hS, width_elim hh 1 mm es (vertsL (mm : Int)) 0 (by rw [vertsL_len]; omega) (invE_start rfl hh) (fun x => ?_) ((bare_iff hh).1 hb)]
  · constructor
    · intro h
      refine Classical.byContradiction fun hlt => hn2 1 (Nat.le_refl _) (by omega) h
    · intro h
      by_cases h0 : n = 0
      · have hm0 := hn0.1 h0
        subst hm0
        exact ⟨[], fun u hu => by simp at hu⟩
      · have h1 : n = 1 := by omega
        have := hn1 (by omega)
        rw [h1] at this
        exact this
  · rw [mem_vertsL]
    constructor
    · rintro ⟨h1, h2⟩
      obtain ⟨u, rfl⟩ := Int.eq_ofNat_of_zero_le h1
      exact ⟨u, rfl, by omega, by simp⟩
    · rintro ⟨u, rfl, h1, _⟩
      exact ⟨by omega, by omega⟩
end
end Go.Proofs.YtceiaekkfabeaaaDoor

/- append within regions that draw their order; what is known there. -/
namespace Go.Proofs.YtceiaekkfabeaaaDoor
open Go.RowKit Pl

section
variable {Pg : Program} {F : Fence} {nF : Nat} {o : Oper} {a : Act} {K : Act → World → Prop} {Q : Exit → Act → World → Prop} {w : World}
theorem wpIn_append (s x : Operand) (t : TypeId)
    (ho : o.op = .call { callee := .builtin .append, args := #[s, x], argTypes := #[t, t] })
    (base : Nat) (e : TypeId) (i : TypeInfo) (z : Value) (size bytes : Nat) (ht : Pg.underlying t = some (.slice e)) (hi : Pg.info? e = some i) (hz : i.zero = some z)
    (hsize : i.size = size) (hby : i.bytes = bytes) (hzs : z.cells.size = size) (hsz : 0 < size)
    (v : Value) (n : Nat) (xs : List Value) (hs : a.eval s = v) (hown : w.ownsRow base e size v n xs)
    (ad : Addr) (m c : Nat) (news : List Value) (hx : a.eval x = .slice (some ad) m c) (hl : news.length = m * size) (hnews : ∀ j u, news[j]? = some u → w.cell? (ad.add j) = some u) (h1 : ∀ u ∈ news, u.oneCell' = true)
    (h63 : n + m ≤ maxLen) (hbytes : (n + m) * bytes ≤ 140737488355328) (hbase : base ≤ w.heap.size)
    (h : ∀ v' w', w'.ownsRow base e size v' (n + m) (xs ++ news) → w.grownBy w' v.ownBlock → (v' = .slice none 0 0 ↔ v = .slice none 0 0 ∧ m = 0) → (v'.ownBlock = v.ownBlock ∨ v'.ownBlock = some w.heap.size) → K (a.put o.dst v') w') :
    o.wpIn F nF Pg a w K Q := by
  obtain ⟨v', w', hr, h2, h3, h4, h5⟩ := run_append_own_at (P := Pg) w base t o.type e i z size bytes ht hi hz hsize hby hzs hsz v n xs hown ad m c news hl hnews h1 h63 hbytes hbase
  unfold Oper.wpIn
  refine ⟨by simp [Oper.about, ho, resolve, Target.leads, Sem.run_pure], ?_⟩
  rw [Oper.semAt_plain F _ _ (by rw [ho]; intro c hc'; cases hc')]
  simp [execOp, ho, resolve, invoke, builtin, hs, hx, hr, Result.andThen]
  exact h v' w' h2 h3 h4 h5

theorem appRowIn {P : Nat → Prop} {W : World} (base : Nat) (s x : Operand) (t : TypeId)
    (ho : o.op = .call { callee := .builtin .append, args := #[s, x], argTypes := #[t, t] })
    (ht : Pg.underlying t = some (.slice 28)) (hinfo : (Pg.info? 28).map (fun i => (i.zero, i.size, i.bytes)) = some (some (.slice none 0 0), 1, 24))
    (v : Value) (xss : List (List Int)) (ys : List Int) (hs : a.eval s = v) (ad : Addr) (c : Nat) (hx : a.eval x = .slice (some ad) 1 c)
    (HO : OwnRows P base W v xss) (hy : RowsR (fun k => P k ∧ some k ≠ v.ownBlock) W (.slice (some ad) 1 c) [ys]) (hbase : base ≤ W.heap.size) (hl : xss.length ≤ 1000000000)
    (h : ∀ v1 w1, OwnRows P base w1 v1 (xss ++ [ys]) → Ext (fun k => some k = v.ownBlock) W w1 → (v1.ownBlock = v.ownBlock ∨ ∃ b, v1.ownBlock = some b ∧ W.heap.size ≤ b) → (∃ A c, v1 = .slice A (xss.length + 1) c) → K (a.put o.dst v1) w1) :
    o.wpIn F nF Pg a W K Q := by
  obtain ⟨vs, g1, g2⟩ := HO
  obtain ⟨A', c', hv, hc, hm, hn⟩ := hy
  cases hv
  obtain ⟨ad', ha, hpa, hsp, hj⟩ := hn (by simp)
  cases ha
  obtain ⟨cs, ⟨u, rfl, hu1, hu2⟩, _, hcell⟩ := hj 0 (by simp)
  obtain ⟨A2, c2, rfl, _⟩ := hu2.at
  obtain ⟨i0, hi, hzz⟩ := Option.map_eq_some_iff.1 hinfo
  simp only [Prod.mk.injEq] at hzz
  obtain ⟨hz0, hz1, hz2⟩ := hzz
  obtain ⟨b, of, sp⟩ := ad
  simp only at hsp
  subst hsp
  refine wpIn_append s x t ho base 28 i0 _ 1 24 ht hi hz0 hz1 hz2 rfl (by omega) v xss.length vs hs g1 ⟨b, of, none⟩ 1 c [.slice A2 ys.length c2] hx rfl
    (fun j u hu => ?_) (by simp [Value.oneCell']) (by simp only [maxLen]; omega) (by omega) hbase ?_
  · have hj0 : j = 0 := by have := (List.getElem?_eq_some_iff.1 hu).1; simpa using this
    subst hj0
    rw [addr_add]
    have := hcell 0 u hu
    simpa using this
  · intro v1 w1 hown hg _ hat
    have hx1 : Ext (fun k => some k = v.ownBlock) W w1 := ⟨hg.os, hg.tape, hg.output, hg.size, fun k hk hx => hg.block k hk hx⟩
    have hat' : v1.ownBlock = v.ownBlock ∨ ∃ b, v1.ownBlock = some b ∧ W.heap.size ≤ b := by
      rcases hat with hat | hat
      · exact .inl hat
      · exact .inr ⟨_, hat, by simp⟩
    have hfix : ∀ (u : Value) (xs : List Int), IntsR .i64 (fun k => P k ∧ some k ≠ v.ownBlock) W u xs → IntsR .i64 (fun k => P k ∧ some k ≠ v1.ownBlock) w1 u xs := by
      intro u xs hu
      refine IntsR.ext (X := fun k => some k = v.ownBlock) (IntsR.imp (P' := fun k => (P k ∧ some k ≠ v1.ownBlock) ∧ some k ≠ v.ownBlock) hu ?_) hx1 (fun k hk => hk.2) |>.imp (fun k _ hk => hk.1)
      rintro k hk ⟨hp, hne⟩
      refine ⟨⟨hp, ?_⟩, hne⟩
      rcases hat' with h3 | ⟨b, h3, hb⟩
      · rw [h3]; exact hne
      · rw [h3]; intro he; cases he; omega
    refine h v1 w1 ⟨vs ++ [.slice A2 ys.length c2], by rw [List.length_append]; exact hown, fun j u xs hu hxs => ?_⟩ hx1 hat' (Own.slice hown)
    have hl' := g1.len
    by_cases hj : j < xss.length
    · rw [List.getElem?_append_left (by omega)] at hu
      rw [List.getElem?_append_left hj] at hxs
      exact hfix u xs (g2 j u xs hu hxs)
    · rw [List.getElem?_append_right (by omega)] at hu
      rw [List.getElem?_append_right (by omega)] at hxs
      have hj0 : j - xss.length = 0 := by have := (List.getElem?_eq_some_iff.1 hxs).1; simp at this; omega
      rw [show j - vs.length = 0 by omega] at hu
      rw [hj0] at hxs
      simp at hu hxs
      subst hu; subst hxs
      exact hfix _ _ hu2

theorem appBagsIn {P : Nat → Prop} {W : World} (base : Nat) (s x : Operand) (t : TypeId)
    (ho : o.op = .call { callee := .builtin .append, args := #[s, x], argTypes := #[t, t] })
    (ht : Pg.underlying t = some (.slice 51)) (hinfo : (Pg.info? 51).map (fun i => (i.zero, i.size, i.bytes)) = some (some (.agg #[.slice none 0 0, .slice none 0 0, .int .i64 0]), 3, 56))
    (v : Value) (bs news : List Bag) (hs : a.eval s = v) (ad : Addr) (c : Nat) (hx : a.eval x = .slice (some ad) news.length c)
    (HO : OwnBags P base W v bs) (hy : BagsR (fun k => P k ∧ some k ≠ v.ownBlock) W (.slice (some ad) news.length c) news) (hp : 0 < news.length) (hbase : base ≤ W.heap.size) (hl : bs.length + news.length ≤ 1000000000)
    (h : ∀ v1 w1, OwnBags P base w1 v1 (bs ++ news) → Ext (fun k => some k = v.ownBlock) W w1 → (v1.ownBlock = v.ownBlock ∨ ∃ b, v1.ownBlock = some b ∧ W.heap.size ≤ b) → (∃ A c, v1 = .slice A (bs.length + news.length) c) → K (a.put o.dst v1) w1) :
    o.wpIn F nF Pg a W K Q := by
  obtain ⟨us, rfl, g1, g2⟩ := HO
  obtain ⟨hspot, us', hus, hcell, hint⟩ := hy.us hp
  have hlen : us'.length = news.length := by rw [← hus, List.length_map]
  obtain ⟨i0, hi, hzz⟩ := Option.map_eq_some_iff.1 hinfo
  simp only [Prod.mk.injEq] at hzz
  obtain ⟨hz0, hz1, hz2⟩ := hzz
  rw [List.length_map] at hl h
  have hfl : ∀ l : List (Value × Value × Bag), (l.flatMap bagCells).length = l.length * 3 := by
    intro l
    induction l with
    | nil => rfl
    | cons a l ih => rw [List.flatMap_cons, List.length_append, ih]; simp [bagCells]; omega
  refine wpIn_append (w := W) s x t ho base 51 i0 _ 3 56 ht hi hz0 hz1 hz2 rfl (by omega) v us.length (us.flatMap bagCells) hs g1 ad news.length c (us'.flatMap bagCells) hx (by rw [hfl, hlen])
    hcell ?_ (by simp only [maxLen]; omega) (by omega) hbase ?_
  · intro u hu
    obtain ⟨t', ht', hu⟩ := List.mem_flatMap.1 hu
    obtain ⟨h1, h2⟩ := hint t' ht'
    obtain ⟨A1, c1, e1, _⟩ := h1.at
    obtain ⟨A2, c2, e2, _⟩ := h2.at
    simp only [bagCells, List.mem_cons, List.not_mem_nil, or_false] at hu
    rcases hu with rfl | rfl | rfl
    · rw [e1]; rfl
    · rw [e2]; rfl
    · rfl
  · intro v1 w1 hown hg _ hat
    have hx1 : Ext (fun k => some k = v.ownBlock) W w1 := ⟨hg.os, hg.tape, hg.output, hg.size, fun k hk hx => hg.block k hk hx⟩
    have hat' : v1.ownBlock = v.ownBlock ∨ ∃ b, v1.ownBlock = some b ∧ W.heap.size ≤ b := by
      rcases hat with hat | hat
      · exact .inl hat
      · exact .inr ⟨_, hat, by simp⟩
    have hfix : ∀ (u : Value) (xs : List Int), IntsR .i64 (fun k => P k ∧ some k ≠ v.ownBlock) W u xs → IntsR .i64 (fun k => P k ∧ some k ≠ v1.ownBlock) w1 u xs := by
      intro u xs hu
      refine IntsR.ext (X := fun k => some k = v.ownBlock) (IntsR.imp (P' := fun k => (P k ∧ some k ≠ v1.ownBlock) ∧ some k ≠ v.ownBlock) hu ?_) hx1 (fun k hk => hk.2) |>.imp (fun k _ hk => hk.1)
      rintro k hk ⟨hp, hne⟩
      refine ⟨⟨hp, ?_⟩, hne⟩
      rcases hat' with h3 | ⟨b, h3, hb⟩
      · rw [h3]; exact hne
      · rw [h3]; intro he; cases he; omega
    refine h v1 w1 ⟨us ++ us', by simp [hus], ?_, fun t ht => ?_⟩ hx1 hat' (Own.slice hown)
    · rw [List.flatMap_append, List.length_append, hlen]; exact hown
    · rcases List.mem_append.1 ht with ht | ht
      · exact ⟨hfix _ _ (g2 t ht).1, hfix _ _ (g2 t ht).2⟩
      · exact ⟨hfix _ _ (hint t ht).1, hfix _ _ (hint t ht).2⟩
end

/-- What is known within a region that draws: before operation c the world grows, each value that is there is known of in it; behind c a fact of all. D: which operation wants which. -/
structure PhA (D : List (Nat × Nat)) (c : Nat) (W0 : World) (Fact : Nat → Value → World → Prop) (Pure : Nat → Value → Prop) (Aft : (Nat → Value) → (Nat → Bool) → World → Prop) (s : Nat → Value) (l : Nat → Bool) (w : World) : Prop where
  dep : ∀ i j, (i, j) ∈ D → l i = true → l j = true
  bef : l c = false → Ext No W0 w ∧ ∀ i, l i = true → Fact i (s i) w
  aft : l c = true → Aft s l w
  pur : ∀ i, l i = true → Pure i (s i)
variable {D : List (Nat × Nat)} {c : Nat} {W0 w w' : World} {Fact : Nat → Value → World → Prop} {Pure : Nat → Value → Prop} {Aft : (Nat → Value) → (Nat → Bool) → World → Prop} {s : Nat → Value} {l : Nat → Bool}
theorem PhA.start : PhA D c W0 Fact Pure Aft s (fun _ => false) W0 := ⟨by simp, fun _ => ⟨Ext.refl _ _, by simp⟩, by simp, by simp⟩
theorem PhA.dep' (h : PhA D c W0 Fact Pure Aft s l w) {i : Nat} (hd : ∀ j, (i, j) ∈ D → l j = true) : ∀ i' j, (i', j) ∈ D → setL l i i' = true → setL l i j = true := by
  intro i' j hm hl
  have hj : l j = true := by
    by_cases hii : i' = i
    · subst hii; exact hd j hm
    · rw [setL, if_neg hii] at hl; exact h.dep i' j hm hl
  rw [setL]
  split
  · rfl
  · exact hj
/-- An operation before c. -/
theorem PhA.step (hst : ∀ i v w w', Ext No w w' → Fact i v w → Fact i v w') (h : PhA D c W0 Fact Pure Aft s l w) {i : Nat} (hi : i ≠ c) (hd : ∀ j, (i, j) ∈ D → l j = true) (hc : l c = false) {v : Value} (hx : Ext No w w') (hf : Fact i v w') (hp : Pure i v) :
    PhA D c W0 Fact Pure Aft (setS s i v) (setL l i) w' := by
  obtain ⟨h1, h2⟩ := h.bef hc
  refine ⟨h.dep' hd, fun _ => ⟨h1.trans hx, fun j hj => ?_⟩, fun hl => ?_, fun j hj => ?_⟩
  · by_cases hji : j = i
    · subst hji; rw [setS, if_pos rfl]; exact hf
    · rw [setS, if_neg hji]; rw [setL, if_neg hji] at hj; exact hst _ _ _ _ hx (h2 j hj)
  · rw [setL, if_neg (Ne.symm hi), hc] at hl; cases hl
  · by_cases hji : j = i
    · subst hji; rw [setS, if_pos rfl]; exact hp
    · rw [setS, if_neg hji]; rw [setL, if_neg hji] at hj; exact h.pur j hj
/-- An operation whose value is known beforehand, wherever it stands. -/
theorem PhA.pure (h : PhA D c W0 Fact Pure Aft s l w) {i : Nat} (hi : i ≠ c) (hd : ∀ j, (i, j) ∈ D → l j = true) {v : Value} (hf : l c = false → Fact i v w) (hp : Pure i v) (ha : Aft s l w → Aft (setS s i v) (setL l i) w) : PhA D c W0 Fact Pure Aft (setS s i v) (setL l i) w := by
  refine ⟨h.dep' hd, fun hl => ?_, fun hl => ?_, fun j hj => ?_⟩
  · rw [setL, if_neg (Ne.symm hi)] at hl
    obtain ⟨h1, h2⟩ := h.bef hl
    refine ⟨h1, fun j hj => ?_⟩
    by_cases hji : j = i
    · subst hji; rw [setS, if_pos rfl]; exact hf hl
    · rw [setS, if_neg hji]; rw [setL, if_neg hji] at hj; exact h2 j hj
  · rw [setL, if_neg (Ne.symm hi)] at hl; exact ha (h.aft hl)
  · by_cases hji : j = i
    · subst hji; rw [setS, if_pos rfl]; exact hp
    · rw [setS, if_neg hji]; rw [setL, if_neg hji] at hj; exact h.pur j hj
/-- Operation c itself, or one behind it. -/
theorem PhA.after (h : PhA D c W0 Fact Pure Aft s l w) {i : Nat} {v : Value} (hd : ∀ j, (i, j) ∈ D → l j = true) (hc : setL l i c = true) (hp : Pure i v) (ha : Aft (setS s i v) (setL l i) w') : PhA D c W0 Fact Pure Aft (setS s i v) (setL l i) w' := by
  refine ⟨h.dep' hd, fun hl => (by rw [hc] at hl; cases hl), fun _ => ha, fun j hj => ?_⟩
  by_cases hji : j = i
  · subst hji; rw [setS, if_pos rfl]; exact hp
  · rw [setS, if_neg hji]; rw [setL, if_neg hji] at hj; exact h.pur j hj
end Go.Proofs.YtceiaekkfabeaaaDoor
