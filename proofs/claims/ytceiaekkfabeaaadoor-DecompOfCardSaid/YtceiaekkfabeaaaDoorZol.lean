/- Words and contracts for: DecompOf: for every hypergraph, and row of widths, the law answers true, and its arguments read as before. No condition; the library's table math/bits.deBruijn64tab is laid by its text. -/
import Derived.Maps.OwnIn
import Derived.Laws.AppendOwnNone
import Derived.Test.YtceiaekkfabeaaaDoorZok
/- The bags of all parts' orders may be. -/
namespace Go.Proofs.YtceiaekkfabeaaaDoor
open Go.RowKit Pl

theorem nodup_len : ∀ (n : Nat) (l : List Nat), l.Nodup → (∀ x ∈ l, x < n) → l.length ≤ n
  | 0, [], _, _ => Nat.le_refl _
  | 0, x :: l, _, h => by have := h x (by simp); omega
  | n + 1, l, hd, h => by
    by_cases hn : n ∈ l
    · have h1 := nodup_len n (l.erase n) (hd.erase n) (fun x hx => by
        have h2 := (hd.mem_erase_iff).1 hx
        have := h x h2.2
        have := h2.1
        omega)
      have h2 := List.length_erase_of_mem hn
      omega
    · have h1 := nodup_len n l hd (fun x hx => by
        have := h x hx
        have : x ≠ n := fun he => hn (he ▸ hx)
        omega)
      omega
theorem rises_of {l : List Int} {many : Int} (hp : l.Pairwise (· < ·)) (hb : ∀ x ∈ l, 0 ≤ x ∧ x < many) : risesB l many = true := by
  rw [risesB_iff]
  intro i x hx
  have hm := hb x (List.mem_of_getElem? hx)
  refine ⟨hm.1, hm.2, fun y hi hy => ?_⟩
  obtain ⟨h1, rfl⟩ := List.getElem?_eq_some_iff.1 hx
  obtain ⟨h2, rfl⟩ := List.getElem?_eq_some_iff.1 hy
  exact List.pairwise_iff_getElem.1 hp (i - 1) i h2 h1 (by omega)
theorem lt_pow_of {x mm : Nat} (h : ∀ i, x.testBit i = true → i < mm) : x < 2 ^ mm := by
  refine Nat.lt_pow_two_of_testBit x fun i hi => ?_
  rw [← Bool.not_eq_true]
  exact fun hb => by have := h i hb; omega
theorem bit_lt {x mm i : Nat} (hx : x < 2 ^ mm) (h : x.testBit i = true) : i < mm := Classical.byContradiction fun hh => by
  rw [Nat.testBit_lt_two_pow (Nat.lt_of_lt_of_le hx (Nat.pow_le_pow_right (by omega) (by omega)))] at h
  cases h
theorem has_members {x mm v : Nat} (hx : x < 2 ^ mm) (hm : mm ≤ 32) : hasB (membersL x) (v : Int) = x.testBit v := by
  rw [Bool.eq_iff_iff, hasB_iff, membersL_mem]
  constructor
  · rintro ⟨u, hu, hm'⟩
    obtain rfl : v = u := by omega
    exact (membersN_mem.1 hm').2
  · exact fun h => ⟨v, rfl, membersN_mem.2 ⟨by have := bit_lt hx h; omega, h⟩⟩
theorem members_rises {x mm : Nat} (hx : x < 2 ^ mm) : risesB (membersL x) (mm : Int) = true := by
  refine rises_of ?_ fun y hy => ?_
  · rw [membersL, List.pairwise_map]
    exact (List.Pairwise.filter _ (List.pairwise_lt_range (n := 32))).imp (fun h => by omega)
  · obtain ⟨u, rfl, hu⟩ := membersL_mem.1 hy
    have := bit_lt hx (membersN_mem.1 hu).2
    omega
theorem rows_pairwise (hi : Int) : ∀ (m : Nat) (lo : Int), 0 ≤ lo → ∀ r ∈ rowsL hi m lo, r.Pairwise (· < ·)
  | 0, lo, _, r, hr => by
    rw [rowsL, List.mem_singleton] at hr
    subst hr; exact List.Pairwise.nil
  | m + 1, lo, h0, r, hr => by
    rw [rowsL] at hr
    obtain ⟨n, hn, hr⟩ := List.mem_flatMap.1 hr
    obtain ⟨q, hq, rfl⟩ := List.mem_map.1 hr
    have hn0 := (rangeL_mem.1 hn).1
    exact List.pairwise_cons.2 ⟨fun y hy => by have := (rowsL_in hi m (n + 1) (by omega) q hq y hy).1; omega, rows_pairwise hi m (n + 1) (by omega) q hq⟩
theorem cov_row {S : List Nat} {x : Nat} {r : List Int} (h : covO S x = some r) : risesB r (S.length : Int) = true ∧ covP S x r = true := by
  rw [covO_rows] at h
  obtain ⟨k, _, hk⟩ := List.exists_of_findSome?_eq_some h
  have hm := List.mem_of_find?_eq_some hk
  exact ⟨rises_of (rows_pairwise _ k 0 (Int.le_refl _) r hm) (fun y hy => rowsL_in _ k 0 (Int.le_refl _) r hm y hy), List.find?_some hk⟩
theorem filter_one {α : Type} {l : List α} {f : α → Bool} {i : Nat} {x : α} (hi : l[i]? = some x) (h1 : f x = true) (h2 : ∀ j y, l[j]? = some y → f y = true → j = i) : (l.filter f).length = 1 := by
  obtain ⟨hl, rfl⟩ := List.getElem?_eq_some_iff.1 hi
  have hs : l = l.take i ++ l[i] :: l.drop (i + 1) := by rw [List.getElem_cons_drop, List.take_append_drop]
  rw [hs, List.filter_append, List.filter_cons, if_pos h1]
  have e1 : (l.take i).filter f = [] := by
    rw [List.filter_eq_nil_iff]
    intro y hy hf
    obtain ⟨j, hj⟩ := List.mem_iff_getElem?.1 hy
    have hjl := (List.getElem?_eq_some_iff.1 hj).1
    rw [List.length_take] at hjl
    rw [List.getElem?_take_of_lt (by omega)] at hj
    have := h2 j y hj hf
    omega
  have e2 : (l.drop (i + 1)).filter f = [] := by
    rw [List.filter_eq_nil_iff]
    intro y hy hf
    obtain ⟨j, hj⟩ := List.mem_iff_getElem?.1 hy
    rw [List.getElem?_drop] at hj
    have := h2 _ y hj hf
    omega
  rw [e1, e2]; rfl
theorem widthTo_le {most : Int} : ∀ (l : List Bag) (m : Int), m ≤ most → (∀ b ∈ l, (b.es.length : Int) ≤ most) → widthTo m l ≤ most
  | [], m, h, _ => h
  | b :: l, m, h, hb => by
    rw [widthTo, List.foldl_cons]
    exact widthTo_le l _ (by have := hb b (by simp); omega) (fun b' hb' => hb b' (by simp [hb']))

/-- Bags, each with the vertex of which it is the top. -/
structure BagsOf (S : List Nat) (mm : Nat) (most : Int) (G : Nat) (out : List Bag) (V : List Nat) : Prop where
  len : V.length = out.length
  nodup : V.Nodup
  mem : ∀ u, u ∈ V ↔ G.testBit u = true
  lt : ∀ u ∈ V, u < mm
  form : ∀ (g : Nat) (b : Bag) (u : Nat), out[g]? = some b → V[g]? = some u → ∃ x, x < 2 ^ mm ∧ b.vs = membersL x ∧ covO S x = some b.es ∧ (b.es.length : Int) ≤ most ∧ -1 ≤ b.parent ∧ b.parent < g ∧ ∀ v : Nat, topB out (v : Int) b = true ↔ v = u
  home : ∀ e ∈ S, e &&& G ≠ 0 → ∃ b ∈ out, ∃ x, x < 2 ^ mm ∧ b.vs = membersL x ∧ ∀ w, e.testBit w = true → x.testBit w = true
theorem BagsOf.nil (S : List Nat) (mm : Nat) (most : Int) : BagsOf S mm most 0 [] [] :=
  ⟨rfl, List.nodup_nil, by simp, by simp, by simp, fun e _ h => by simp at h⟩
theorem topB_app {out new : List Bag} {v : Int} {b : Bag} (h : b.parent < out.length) : topB (out ++ new) v b = topB out v b := by
  rw [topB, topB]
  by_cases h0 : b.parent < 0
  · simp [h0]
  · rw [List.getElem?_append_left (by omega)]
theorem bagsL_at {S : List Nat} {ord : List Int} {behind : Int} {k : Nat} (hk : k < ord.length) : (bagsL S ord behind ord.length)[k]? = some (bagI S ord behind (ord.length - 1 - k)) := by
  simp [bagsL, List.getElem?_map, List.getElem?_range hk]
section
variable {S : List Nat} {mm : Nat} {most : Int} {G p : Nat} {out : List Bag} {V : List Nat} {ord : List Int}
theorem BagsOf.add (hS : smallS S) (hmm : mm ≤ 32) (h : BagsOf S mm most G out V) (hc : Closed S p) (hp : p < 2 ^ mm) (hd : ∀ i, p.testBit i = true → G.testBit i = false) (ho : OrdOf S most p ord) (hcov : ∀ v, v < mm → (orTo S).testBit v = true) :
    BagsOf S mm most (G ||| p) (out ++ bagsL S ord out.length ord.length) (V ++ (List.range ord.length).map fun k => ordN ord (ord.length - 1 - k)) := by
  have hV : ∀ k, k < ord.length → ((List.range ord.length).map fun k => ordN ord (ord.length - 1 - k))[k]? = some (ordN ord (ord.length - 1 - k)) := fun k hk => by simp [List.getElem?_map, List.getElem?_range hk]
  have hmem : ∀ u, u ∈ (List.range ord.length).map (fun k => ordN ord (ord.length - 1 - k)) ↔ p.testBit u = true := fun u => by
    rw [List.mem_map]
    constructor
    · rintro ⟨k, hk, rfl⟩
      have := List.mem_range.1 hk
      exact (ho.at (by omega)).2.2
    · intro hu
      obtain ⟨i, hi, rfl⟩ := ho.pos hu
      exact ⟨ord.length - 1 - i, List.mem_range.2 (by omega), by rw [show ord.length - 1 - (ord.length - 1 - i) = i by omega]⟩
  have hx : ∀ i, i < ord.length → arI S ord i < 2 ^ mm := fun i hi => lt_pow_of fun w hw => bit_lt hp (ho.sub hS hc hi hw)
  refine ⟨by simp [h.len, bagsL_len], ?_, fun u => ?_, fun u hu => ?_, fun g b u hg hu => ?_, fun e he hne => ?_⟩
  · rw [List.nodup_append]
    refine ⟨h.nodup, ?_, fun a ha b hb hab => ?_⟩
    · rw [List.nodup_iff_pairwise_ne, List.pairwise_map]
      refine List.Pairwise.imp_of_mem ?_ (List.pairwise_lt_range (n := ord.length))
      intro a b ha hb hab he
      have h1 := List.mem_range.1 ha
      have h2 := List.mem_range.1 hb
      have := ho.inj (by omega) (by omega) he
      omega
    · subst hab
      have h1 := (h.mem a).1 ha
      rw [hd a ((hmem a).1 hb)] at h1; cases h1
  · rw [List.mem_append, h.mem, hmem, Nat.testBit_or, Bool.or_eq_true]
  · rcases List.mem_append.1 hu with hu | hu
    · exact h.lt u hu
    · exact bit_lt hp ((hmem u).1 hu)
  · by_cases hgl : g < out.length
    · rw [List.getElem?_append_left hgl] at hg
      rw [List.getElem?_append_left (by rw [h.len]; exact hgl)] at hu
      obtain ⟨x, h1, h2, h3, h4, h5, h6, h7⟩ := h.form g b u hg hu
      refine ⟨x, h1, h2, h3, h4, h5, h6, fun v => ?_⟩
      rw [topB_app (by omega)]
      exact h7 v
    · rw [List.getElem?_append_right (by omega)] at hg
      rw [List.getElem?_append_right (by rw [h.len]; omega), h.len] at hu
      obtain ⟨k, hk⟩ : ∃ k, g = out.length + k := ⟨g - out.length, by omega⟩
      subst hk
      rw [show out.length + k - out.length = k by omega] at hg hu
      have hkl : k < ord.length := by have := (List.getElem?_eq_some_iff.1 hg).1; rw [bagsL_len] at this; exact this
      rw [bagsL_at hkl] at hg
      rw [hV k hkl] at hu
      simp only [Option.some.injEq] at hg hu
      obtain ⟨i, hi⟩ : ∃ i, i = ord.length - 1 - k := ⟨_, rfl⟩
      rw [← hi] at hg hu
      have hil : i < ord.length := by omega
      subst hu
      have hcv : covO S (arI S ord i) = some ((covO S (arI S ord i)).getD []) := by
        obtain ⟨r, hr⟩ := arF_cov (S := S) (v := ordN ord i) (gone := ofTo (ord.take i)) (hcov _ (bit_lt hp (ho.at hil).2.2))
        rw [show arI S ord i = arF S (ordN ord i) (ofTo (ord.take i)) from rfl, hr]; rfl
      have hb : b.vs = membersL (arI S ord i) ∧ b.es = (covO S (arI S ord i)).getD [] ∧ b.parent = parF ord out.length (arI S ord i) i := by rw [← hg]; exact ⟨rfl, rfl, rfl⟩
      obtain ⟨hb1, hb2, hb3⟩ := hb
      refine ⟨arI S ord i, hx i hil, hb1, by rw [hb2]; exact hcv, by rw [hb2]; exact ho.wid i hil, ?_⟩
      rcases ho.top hS hc (out.length : Int) (by omega) hil with ⟨t1, t2⟩ | ⟨j, j1, j2, t1, t2⟩
      · rw [hb3, t1]
        refine ⟨by omega, by omega, fun v => ?_⟩
        rw [topB, hb1, hb3, t1, has_members (hx i hil) hmm]
        simpa using t2 v
      · have hpar : parF ord (out.length : Int) (arI S ord i) i = ((out.length + (ord.length - 1 - j) : Nat) : Int) := by rw [t1]; omega
        rw [hb3, hpar]
        refine ⟨by omega, by omega, fun v => ?_⟩
        rw [topB, hb1, hb3, hpar, has_members (hx i hil) hmm, Int.toNat_natCast, List.getElem?_append_right (by omega), show out.length + (ord.length - 1 - j) - out.length = ord.length - 1 - j by omega, bagsL_at (by omega), show ord.length - 1 - (ord.length - 1 - j) = j by omega]
        rw [Option.getD_some, show (bagI S ord (out.length : Int) j).vs = membersL (arI S ord j) from rfl, has_members (hx j j2) hmm, ← t2 v, Bool.and_eq_true, Bool.or_eq_true, decide_eq_true_eq, Bool.not_eq_true']
        constructor
        · rintro ⟨a1, a2 | a2⟩
          · omega
          · exact ⟨a1, a2⟩
        · rintro ⟨a1, a2⟩
          exact ⟨a1, Or.inr a2⟩
  · by_cases hG : e &&& G ≠ 0
    · obtain ⟨b, hb, x, h1, h2, h3⟩ := h.home e he hG
      exact ⟨b, List.mem_append_left _ hb, x, h1, h2, h3⟩
    · have hpe : e &&& p ≠ 0 := by
        obtain ⟨i, h1, h2⟩ := and_ne.1 hne
        rw [Nat.testBit_or, Bool.or_eq_true] at h2
        rcases h2 with h2 | h2
        · exact absurd (and_ne.2 ⟨i, h1, h2⟩) hG
        · exact and_ne.2 ⟨i, h1, h2⟩
      obtain ⟨i, hi, hw⟩ := ho.home hS hc he hpe
      refine ⟨bagI S ord out.length i, List.mem_append_right _ (List.mem_of_getElem? (i := ord.length - 1 - i) ?_), arI S ord i, hx i hi, rfl, hw⟩
      rw [bagsL_at (by omega), show ord.length - 1 - (ord.length - 1 - i) = i by omega]
theorem bags_ofF (hS : smallS S) (hmm : mm ≤ 32) (hcov : ∀ v, v < mm → (orTo S).testBit v = true) : ∀ (ps : List Nat) (G : Nat) (out : List Bag) (V : List Nat) (o : List Bag), Apart S G ps → (∀ p ∈ ps, p < 2 ^ mm) → BagsOf S mm most G out V → ofF S most ps out = some o → ∃ V', BagsOf S mm most (ps.foldl (· ||| ·) G) o V'
  | [], G, out, V, o, _, _, h, ho => by
    rw [ofF, Option.some.injEq] at ho
    subst ho; exact ⟨V, h⟩
  | p :: ps, G, out, V, o, ⟨h1, h2, h3⟩, hlt, h, ho => by
    rw [ofF] at ho
    cases hg : goX S p most 0 with
    | none => rw [hg] at ho; cases ho
    | some ord =>
      rw [hg] at ho
      exact bags_ofF hS hmm hcov ps (G ||| p) _ _ o h3 (fun q hq => hlt q (by simp [hq])) (h.add hS hmm h1 (hlt p (by simp)) h2 (ordOf_goX hg) hcov) ho
end
/-- Such bags may be. -/
theorem BagsOf.right {es : List (List Int)} {mm G : Nat} {most : Int} {out : List Bag} {V : List Nat} (h : hyperB (mm : Int) es = true) (hB : BagsOf (es.map ofTo) mm most G out V) (hG : ∀ v, v < mm → G.testBit v = true) (hne : out ≠ [] ∨ es = []) : rightB (mm : Int) es out = true := by
  obtain ⟨_, hm, _, h4⟩ := hyperB_parts h
  have hnn := hyper_nonneg h
  have hm32 : mm ≤ 32 := by omega
  have hlen : out.length ≤ mm := by rw [← hB.len]; exact nodup_len mm V hB.nodup hB.lt
  have hVat : ∀ g, g < out.length → ∃ u, V[g]? = some u := fun g hg => ⟨V[g]'(by rw [hB.len]; exact hg), List.getElem?_eq_getElem _⟩
  have hlt32 : ∀ x, x < 2 ^ mm → x < 4294967296 := fun x hx => Nat.lt_of_lt_of_le hx (by have := Nat.pow_le_pow_right (n := 2) (by omega) hm32; simpa using this)
  rw [rightB, Bool.and_eq_true, Bool.and_eq_true, Bool.and_eq_true, decide_eq_true_eq]
  refine ⟨⟨⟨by omega, allI_iff.2 fun g b hb => ?_⟩, ?_⟩, ?_⟩
  · have hgl := (List.getElem?_eq_some_iff.1 hb).1
    obtain ⟨u, hu⟩ := hVat g hgl
    obtain ⟨x, h1, h2, h3, _, h5, h6, _⟩ := hB.form g b u hb hu
    obtain ⟨c1, c2⟩ := cov_row h3
    rw [List.length_map] at c1
    rw [Nat.zero_add, Bool.and_eq_true, bagFormB]
    refine ⟨by rw [h2, members_rises h1, c1]; simp; omega, ?_⟩
    rw [covers_covP hnn (fun v hv => by rw [h2] at hv; exact rises_nonneg (members_rises h1) v hv), h2, ofTo_members x (hlt32 x h1)]
    exact c2
  · rw [allB, List.all_eq_true]
    intro e he
    rw [anyB, List.any_eq_true]
    by_cases h0 : ofTo e = 0
    · have hem : e = [] := by
        cases e with
        | nil => rfl
        | cons v l =>
          have : (ofTo (v :: l)).testBit v.toNat = true := by rw [ofTo_testBit]; simp
          rw [h0] at this; simp at this
      subst hem
      rcases hne with hne | rfl
      · cases out with
        | nil => exact absurd rfl hne
        | cons b l => exact ⟨b, by simp, rfl⟩
      · cases he
    · have hand : ofTo e &&& G ≠ 0 := by
        obtain ⟨i, hi⟩ := Nat.exists_testBit_of_ne_zero h0
        have : i < mm := bit_lt (ofTo_lt_pow (inB_of_rises (h4 e he))) hi
        exact and_ne.2 ⟨i, hi, hG i this⟩
      obtain ⟨b, hb, x, h1, h2, h3⟩ := hB.home (ofTo e) (List.mem_map.2 ⟨e, he, rfl⟩) hand
      refine ⟨b, hb, ?_⟩
      rw [← sub_within (hnn e he) (fun v hv => by rw [h2] at hv; exact rises_nonneg (members_rises h1) v hv), h2, ofTo_members x (hlt32 x h1), beq_iff_eq, sdn_zero]
      exact h3
  · rw [allB, List.all_eq_true]
    intro v hv
    obtain ⟨hv0, hv1⟩ := mem_vertsL.1 hv
    obtain ⟨n, rfl⟩ := Int.eq_ofNat_of_zero_le hv0
    rw [decide_eq_true_eq, topsN]
    obtain ⟨g, hg⟩ := List.mem_iff_getElem?.1 ((hB.mem n).2 (hG n (by omega)))
    have hgl : g < out.length := by have := (List.getElem?_eq_some_iff.1 hg).1; rw [hB.len] at this; exact this
    have hb : out[g]? = some out[g] := List.getElem?_eq_getElem hgl
    obtain ⟨x, _, _, _, _, _, _, h7⟩ := hB.form g _ n hb hg
    have := filter_one (f := topB out (n : Int)) hb ((h7 n).2 rfl) (fun j y hj hy => by
      have hjl := (List.getElem?_eq_some_iff.1 hj).1
      obtain ⟨u, hu⟩ := hVat j hjl
      obtain ⟨_, _, _, _, _, _, _, k7⟩ := hB.form j y u hj hu
      have hnu := (k7 n).1 hy
      subst hnu
      exact List.getElem?_inj (by rw [hB.len]; exact hjl) hB.nodup |>.1 (hu.trans hg.symm))
    omega
theorem BagsOf.width {S : List Nat} {mm G : Nat} {most : Int} {out : List Bag} {V : List Nat} (hB : BagsOf S mm most G out V) (hm : 0 ≤ most) : widthTo 0 out ≤ most := by
  refine widthTo_le _ _ hm fun b hb => ?_
  obtain ⟨g, hg⟩ := List.mem_iff_getElem?.1 hb
  have hgl := (List.getElem?_eq_some_iff.1 hg).1
  obtain ⟨x, _, _, _, h4, _⟩ := hB.form g b _ hg (List.getElem?_eq_getElem (by rw [hB.len]; exact hgl))
  exact h4
end Go.Proofs.YtceiaekkfabeaaaDoor

/- What Of and Least answer, told by orders of all vertices. -/
namespace Go.Proofs.YtceiaekkfabeaaaDoor
open Go.RowKit Pl

theorem sets_lt {mm : Nat} {es : List (List Int)} (h : hyperB (mm : Int) es = true) : ∀ x ∈ es.map ofTo, x < 2 ^ mm := fun x hx => by
  obtain ⟨_, _, _, h4⟩ := hyperB_parts h
  obtain ⟨e, he, rfl⟩ := List.mem_map.1 hx
  exact ofTo_lt_pow (inB_of_rises (h4 e he))
theorem orTo_lt_mm {mm : Nat} {es : List (List Int)} (h : hyperB (mm : Int) es = true) : orTo (es.map ofTo) < 2 ^ mm := lt_pow_of fun i hi => by
  rw [orTo_testBit, List.any_eq_true] at hi
  obtain ⟨x, hx, hxi⟩ := hi
  exact bit_lt (sets_lt h x hx) hxi
theorem full_members : ∀ m : Fin 33, (membersN (2 ^ m.val - 1)).length = m.val := by decide +kernel
/-- All vertices stand in edges just if there are enough that do. -/
theorem all_covered {x mm : Nat} (hx : x < 2 ^ mm) (hm : mm ≤ 32) : (membersN x).length < mm ↔ ¬ ∀ v, v < mm → x.testBit v = true := by
  constructor
  · intro h hall
    have h1 : membersN (2 ^ mm - 1) = membersN x := by
      rw [membersN, membersN]
      apply List.filter_congr
      intro i hi
      rw [Nat.testBit_two_pow_sub_one]
      cases hb : x.testBit i with
      | true => have := bit_lt hx hb; simp [this]
      | false =>
        have : ¬ i < mm := fun h => by rw [hall i h] at hb; cases hb
        simp [this]
    have h2 := full_members ⟨mm, by omega⟩
    rw [h1] at h2
    simp only at h2
    omega
  · intro h
    refine Classical.byContradiction fun hle => h fun v hv => Classical.byContradiction fun hb => ?_
    have h1 := nodup_len mm (v :: membersN x) (List.nodup_cons.2 ⟨fun hm' => hb (membersN_mem.1 hm').2, membersN_nodup x⟩) (fun u hu => by
      rcases List.mem_cons.1 hu with rfl | hu
      · exact hv
      · exact bit_lt hx (membersN_mem.1 hu).2)
    rw [List.length_cons] at h1
    omega
theorem bare_iff {mm : Nat} {es : List (List Int)} (h : hyperB (mm : Int) es = true) : bareB (mm : Int) es = false ↔ ∀ v, v < mm → (orTo (es.map ofTo)).testBit v = true := by
  have hnn := hyper_nonneg h
  rw [bareB, Bool.not_eq_false', allB, List.all_eq_true]
  have key : ∀ v : Nat, anyB (fun e => hasB e (v : Int)) es = (orTo (es.map ofTo)).testBit v := fun v => by
    rw [orTo_testBit, anyB, List.any_map]
    refine any_congr2 fun e he => ?_
    have := ofTo_has (l := e) (hnn e he) (v := (v : Int)) (by omega)
    rw [Int.toNat_natCast] at this
    exact this.symm
  constructor
  · intro hall v hv
    rw [← key]
    exact hall _ (mem_vertsL.2 ⟨by omega, by omega⟩)
  · intro hall x hx
    obtain ⟨h0, h1⟩ := mem_vertsL.1 hx
    obtain ⟨v, rfl⟩ := Int.eq_ofNat_of_zero_le h0
    rw [key]
    exact hall v (by omega)
theorem begin_bare {mm : Nat} {es : List (List Int)} {most : Int} (h : hyperB (mm : Int) es = true) (hm : 1 ≤ most) : beginE (mm : Int) es most = if bareB (mm : Int) es then 4 else 0 := by
  obtain ⟨_, hm32, _, _⟩ := hyperB_parts h
  rw [beginE, if_neg (by simp [h]), if_neg (by omega)]
  have h1 := all_covered (orTo_lt_mm h) (by omega)
  cases hb : bareB (mm : Int) es with
  | true =>
    have h2 : (membersN (orTo (es.map ofTo))).length < mm := h1.2 fun hall => by rw [(bare_iff h).2 hall] at hb; cases hb
    rw [if_pos (by omega)]; rfl
  | false =>
    have h2 : ¬ (membersN (orTo (es.map ofTo))).length < mm := fun hh => h1.1 hh ((bare_iff h).1 hb)
    rw [if_neg (by omega)]; rfl
theorem right_empty {es : List (List Int)} (h : hyperB 0 es = true) : rightB 0 es [⟨[], [], -1⟩] = true := by
  obtain ⟨_, _, _, h4⟩ := hyperB_parts h
  rw [rightB, Bool.and_eq_true, Bool.and_eq_true, Bool.and_eq_true]
  refine ⟨⟨⟨rfl, rfl⟩, ?_⟩, rfl⟩
  rw [allB, List.all_eq_true]
  intro e he
  have : e = [] := by
    cases e with
    | nil => rfl
    | cons v l =>
      have := risesB_iff.1 (h4 _ he) 0 v rfl
      have h1 := this.1
      have h2 := this.2.1
      omega
  subst this
  rfl
theorem ofF_all {S : List Nat} {most : Int} : ∀ (ps : List Nat) (out o : List Bag), ofF S most ps out = some o → ∀ p ∈ ps, ∃ l, goX S p most 0 = some l
  | [], _, _, _, p, hp => by simp at hp
  | q :: ps, out, o, h, p, hp => by
    rw [ofF] at h
    cases hg : goX S q most 0 with
    | none => rw [hg] at h; cases h
    | some ord =>
      rw [hg] at h
      rcases List.mem_cons.1 hp with rfl | hp
      · exact ⟨ord, hg⟩
      · exact ofF_all ps _ o h p hp
/-- What Of answers where something is searched. -/
theorem of_law {mm : Nat} {es : List (List Int)} {most : Int} (h : hyperB (mm : Int) es = true) (hm : 1 ≤ most) (hb : bareB (mm : Int) es = false) :
    ((ofA (mm : Int) es most).1 = 0 ∧ rightB (mm : Int) es (ofA (mm : Int) es most).2 = true ∧ widthTo 0 (ofA (mm : Int) es most).2 ≤ most ∧ ∃ l, Elim (es.map ofTo) most (2 ^ mm - 1) 0 l) ∨
    ((ofA (mm : Int) es most).1 = 4 ∧ (ofA (mm : Int) es most).2 = [] ∧ ¬ ∃ l, Elim (es.map ofTo) most (2 ^ mm - 1) 0 l) := by
  obtain ⟨_, hm32, _, _⟩ := hyperB_parts h
  have hmm : mm ≤ 32 := by omega
  have hS : smallS (es.map ofTo) := smallS_of (hyperB_small h)
  have hlt := sets_lt h
  have hplt : ∀ p ∈ partsL (es.map ofTo) mm, p < 2 ^ mm := partsL_lt_pow hlt mm (Nat.le_refl _)
  have hp32 : ∀ p ∈ partsL (es.map ofTo) mm, p < 4294967296 := fun p hp => Nat.lt_of_lt_of_le (hplt p hp) (by have := Nat.pow_le_pow_right (n := 2) (by omega) hmm; simpa using this)
  have hcov := (bare_iff h).1 hb
  have hbe : beginE (mm : Int) es most = 0 := by rw [begin_bare h hm, hb]; rfl
  rw [ofA, if_neg (by rw [hbe]; simp), Int.toNat_natCast]
  cases hof : ofF (es.map ofTo) most (partsL (es.map ofTo) mm) [] with
  | none =>
    right
    refine ⟨rfl, rfl, fun hex => ?_⟩
    obtain ⟨o, ho⟩ := ofF_some (most := most) (partsL (es.map ofTo) mm) [] (fun p hp => (goX_iff (hp32 p hp)).2 ((elim_all hS hmm hlt).1 hex p hp))
    rw [hof] at ho; cases ho
  | some out =>
    left
    obtain ⟨h1, h2, h3, h4, h5⟩ := partsF_spec hS mm hmm
    obtain ⟨V, hB⟩ := bags_ofF (mm := mm) hS hmm hcov (partsL (es.map ofTo) mm) 0 [] [] out h1 hplt (BagsOf.nil _ _ _) hof
    have hG : ∀ v, v < mm → ((partsL (es.map ofTo) mm).foldl (· ||| ·) 0).testBit v = true := fun v hv => by
      rw [show (partsL (es.map ofTo) mm).foldl (· ||| ·) 0 = (partsF (es.map ofTo) mm).2 from h2]; exact h4 v hv
    have hE : ∃ l, Elim (es.map ofTo) most (2 ^ mm - 1) 0 l := (elim_all hS hmm hlt).2 fun p hp => (goX_iff (hp32 p hp)).1 (ofF_all _ _ _ hof p hp)
    refine ⟨rfl, ?_⟩
    show rightB (mm : Int) es (endO es out) = true ∧ widthTo 0 (endO es out) ≤ most ∧ _
    by_cases he : out.length = 0 ∧ 0 < es.length
    · rw [show (endO es out) = [⟨[], [], -1⟩] from by rw [endO, if_pos he]]
      have hmm0 : mm = 0 := by
        refine Classical.byContradiction fun hne => ?_
        have := (hB.mem 0).2 (hG 0 (by omega))
        have h0 := List.length_pos_of_mem this
        rw [hB.len] at h0
        omega
      subst hmm0
      exact ⟨right_empty h, by show max 0 0 ≤ most; omega, hE⟩
    · rw [show (endO es out) = out from by rw [endO, if_neg he]]
      refine ⟨hB.right h hG ?_, hB.width (by omega), hE⟩
      by_cases ho : out = []
      · right
        subst ho
        have : ¬ 0 < es.length := fun hh => he ⟨rfl, hh⟩
        exact List.eq_nil_of_length_eq_zero (by omega)
      · exact Or.inl ho
theorem Elim.more {S : List Nat} {m1 m2 : Int} (hm : m1 ≤ m2) {T : Nat} : ∀ (l : List Nat) (gone : Nat), Elim S m1 T gone l → Elim S m2 T gone l
  | [], _, h => h
  | _ :: l, _, ⟨h1, h2, h3, h4, h5⟩ => ⟨h1, h2, h3, by omega, Elim.more hm l _ h5⟩
/-- What Least answers where something is searched. -/
theorem least_law {mm : Nat} {es : List (List Int)} (h : hyperB (mm : Int) es = true) (h6 : mm ≤ 6) (hb : bareB (mm : Int) es = false) :
    ∃ n : Nat, leastA (mm : Int) es = ((n : Int), 0) ∧ n ≤ 41 ∧ (n = 0 ↔ mm = 0) ∧ (0 < n → ∃ l, Elim (es.map ofTo) (n : Int) (2 ^ mm - 1) 0 l) ∧ (∀ j : Nat, 1 ≤ j → j < n → ¬ ∃ l, Elim (es.map ofTo) (j : Int) (2 ^ mm - 1) 0 l) := by
  have hbe : beginE (mm : Int) es 1 = 0 := by rw [begin_bare h (Int.le_refl _), hb]; rfl
  by_cases h0 : mm = 0
  · subst h0
    have hne : ¬ beginE ((0 : Nat) : Int) es 1 ≠ 0 := fun hh => hh hbe
    exact ⟨0, by rw [leastA, if_neg hne, if_pos (show ((0 : Nat) : Int) = 0 from rfl)]; rfl, by omega, by simp, by simp, fun j h1 h2 => by omega⟩
  · obtain ⟨s1, s2, s3, s4⟩ := leastX_spec (by omega) hbe
    refine ⟨leastX (mm : Int) es, by rw [leastA, if_neg (by rw [hbe]; simp), if_neg (by omega)], s2, by omega, fun _ => ?_, fun j hj1 hj2 => ?_⟩
    · rcases of_law (most := (leastX (mm : Int) es : Nat)) h (by omega) hb with hl | hl
      · exact hl.2.2.2
      · exact absurd hl.1 s4
    · rcases of_law (most := (j : Nat)) h (by omega) hb with hl | hl
      · have := s3 j hj1 hj2
        rw [hl.1] at this; cases this
      · exact hl.2.2
end Go.Proofs.YtceiaekkfabeaaaDoor

/- append within regions that draw their order; what is known there. -/
namespace Go.Proofs.YtceiaekkfabeaaaDoor
open Go.RowKit Pl

section
variable {Pg : Program} {F : Fence} {nF : Nat} {o : Oper} {a : Act} {K : Act → World → Prop} {Q : Exit → Act → World → Prop} {w : World}
theorem wpIn_append (s x : Operand) (t : TypeId)
    (ho : o.op = .call { callee := .builtin .append, args := #[s, x], argTypes := #[t, t] })
    (base : Nat) (e : TypeId) (i : TypeInfo) (z : Value) (size bytes : Nat) (ht : Pg.underlying t = some (.slice e)) (hi : Pg.info? e = some i) (hz : i.zero = some z)
    (hsize : i.size = size) (hby : i.bytes = bytes) (hzs : z.cells.size = size) (hsz : 0 < size)
    (v : Value) (n : Nat) (xs : List Value) (hs : a.eval s = v) (hown : w.ownsRow base e size v n xs)
    (ad : Addr) (m c : Nat) (news : List Value) (hx : a.eval x = .slice (some ad) m c) (hl : news.length = m * size) (hnews : ∀ j u, news[j]? = some u → w.cell? (ad.add j) = some u) (h1 : ∀ u ∈ news, u.oneCell' = true)
    (h63 : n + m ≤ maxLen) (hbytes : (n + m) * bytes ≤ 140737488355328) (hbase : base ≤ w.heap.size)
    (h : ∀ v' w', w'.ownsRow base e size v' (n + m) (xs ++ news) → w.grownBy w' v.ownBlock → (v' = .slice none 0 0 ↔ v = .slice none 0 0 ∧ m = 0) → (v'.ownBlock = v.ownBlock ∨ v'.ownBlock = some w.heap.size) → K (a.put o.dst v') w') :
    o.wpIn F nF Pg a w K Q := by
  obtain ⟨v', w', hr, h2, h3, h4, h5⟩ := run_append_own_at (P := Pg) w base t o.type e i z size bytes ht hi hz hsize hby hzs hsz v n xs hown ad m c news hl hnews h1 h63 hbytes hbase
  unfold Oper.wpIn
  refine ⟨by simp [Oper.about, ho, resolve, Target.leads, Sem.run_pure], ?_⟩
  rw [Oper.semAt_plain F _ _ (by rw [ho]; intro c hc'; cases hc')]
  simp [execOp, ho, resolve, invoke, builtin, hs, hx, hr, Result.andThen]
  exact h v' w' h2 h3 h4 h5

theorem appRowIn {P : Nat → Prop} {W : World} (base : Nat) (s x : Operand) (t : TypeId)
    (ho : o.op = .call { callee := .builtin .append, args := #[s, x], argTypes := #[t, t] })
    (ht : Pg.underlying t = some (.slice 28)) (hinfo : (Pg.info? 28).map (fun i => (i.zero, i.size, i.bytes)) = some (some (.slice none 0 0), 1, 24))
    (v : Value) (xss : List (List Int)) (ys : List Int) (hs : a.eval s = v) (ad : Addr) (c : Nat) (hx : a.eval x = .slice (some ad) 1 c)
    (HO : OwnRows P base W v xss) (hy : RowsR (fun k => P k ∧ some k ≠ v.ownBlock) W (.slice (some ad) 1 c) [ys]) (hbase : base ≤ W.heap.size) (hl : xss.length ≤ 1000000000)
    (h : ∀ v1 w1, OwnRows P base w1 v1 (xss ++ [ys]) → Ext (fun k => some k = v.ownBlock) W w1 → (v1.ownBlock = v.ownBlock ∨ ∃ b, v1.ownBlock = some b ∧ W.heap.size ≤ b) → (∃ A c, v1 = .slice A (xss.length + 1) c) → K (a.put o.dst v1) w1) :
    o.wpIn F nF Pg a W K Q := by
  obtain ⟨vs, g1, g2⟩ := HO
  obtain ⟨A', c', hv, hc, hm, hn⟩ := hy
  cases hv
  obtain ⟨ad', ha, hpa, hsp, hj⟩ := hn (by simp)
  cases ha
  obtain ⟨cs, ⟨u, rfl, hu1, hu2⟩, _, hcell⟩ := hj 0 (by simp)
  obtain ⟨A2, c2, rfl, _⟩ := hu2.at
  obtain ⟨i0, hi, hzz⟩ := Option.map_eq_some_iff.1 hinfo
  simp only [Prod.mk.injEq] at hzz
  obtain ⟨hz0, hz1, hz2⟩ := hzz
  obtain ⟨b, of, sp⟩ := ad
  simp only at hsp
  subst hsp
  refine wpIn_append s x t ho base 28 i0 _ 1 24 ht hi hz0 hz1 hz2 rfl (by omega) v xss.length vs hs g1 ⟨b, of, none⟩ 1 c [.slice A2 ys.length c2] hx rfl
    (fun j u hu => ?_) (by simp [Value.oneCell']) (by simp only [maxLen]; omega) (by omega) hbase ?_
  · have hj0 : j = 0 := by have := (List.getElem?_eq_some_iff.1 hu).1; simpa using this
    subst hj0
    rw [addr_add]
    have := hcell 0 u hu
    simpa using this
  · intro v1 w1 hown hg _ hat
    have hx1 : Ext (fun k => some k = v.ownBlock) W w1 := ⟨hg.os, hg.tape, hg.output, hg.size, fun k hk hx => hg.block k hk hx⟩
    have hat' : v1.ownBlock = v.ownBlock ∨ ∃ b, v1.ownBlock = some b ∧ W.heap.size ≤ b := by
      rcases hat with hat | hat
      · exact .inl hat
      · exact .inr ⟨_, hat, by simp⟩
    have hfix : ∀ (u : Value) (xs : List Int), IntsR .i64 (fun k => P k ∧ some k ≠ v.ownBlock) W u xs → IntsR .i64 (fun k => P k ∧ some k ≠ v1.ownBlock) w1 u xs := by
      intro u xs hu
      refine IntsR.ext (X := fun k => some k = v.ownBlock) (IntsR.imp (P' := fun k => (P k ∧ some k ≠ v1.ownBlock) ∧ some k ≠ v.ownBlock) hu ?_) hx1 (fun k hk => hk.2) |>.imp (fun k _ hk => hk.1)
      rintro k hk ⟨hp, hne⟩
      refine ⟨⟨hp, ?_⟩, hne⟩
      rcases hat' with h3 | ⟨b, h3, hb⟩
      · rw [h3]; exact hne
      · rw [h3]; intro he; cases he; omega
    refine h v1 w1 ⟨vs ++ [.slice A2 ys.length c2], by rw [List.length_append]; exact hown, fun j u xs hu hxs => ?_⟩ hx1 hat' (Own.slice hown)
    have hl' := g1.len
    by_cases hj : j < xss.length
    · rw [List.getElem?_append_left (by omega)] at hu
      rw [List.getElem?_append_left hj] at hxs
      exact hfix u xs (g2 j u xs hu hxs)
    · rw [List.getElem?_append_right (by omega)] at hu
      rw [List.getElem?_append_right (by omega)] at hxs
      have hj0 : j - xss.length = 0 := by have := (List.getElem?_eq_some_iff.1 hxs).1; simp at this; omega
      rw [show j - vs.length = 0 by omega] at hu
      rw [hj0] at hxs
      simp at hu hxs
      subst hu; subst hxs
      exact hfix _ _ hu2

theorem appBagsIn {P : Nat → Prop} {W : World} (base : Nat) (s x : Operand) (t : TypeId)
    (ho : o.op = .call { callee := .builtin .append, args := #[s, x], argTypes := #[t, t] })
    (ht : Pg.underlying t = some (.slice 51)) (hinfo : (Pg.info? 51).map (fun i => (i.zero, i.size, i.bytes)) = some (some (.agg #[.slice none 0 0, .slice none 0 0, .int .i64 0]), 3, 56))
    (v : Value) (bs news : List Bag) (hs : a.eval s = v) (ad : Addr) (c : Nat) (hx : a.eval x = .slice (some ad) news.length c)
    (HO : OwnBags P base W v bs) (hy : BagsR (fun k => P k ∧ some k ≠ v.ownBlock) W (.slice (some ad) news.length c) news) (hp : 0 < news.length) (hbase : base ≤ W.heap.size) (hl : bs.length + news.length ≤ 1000000000)
    (h : ∀ v1 w1, OwnBags P base w1 v1 (bs ++ news) → Ext (fun k => some k = v.ownBlock) W w1 → (v1.ownBlock = v.ownBlock ∨ ∃ b, v1.ownBlock = some b ∧ W.heap.size ≤ b) → (∃ A c, v1 = .slice A (bs.length + news.length) c) → K (a.put o.dst v1) w1) :
    o.wpIn F nF Pg a W K Q := by
  obtain ⟨us, rfl, g1, g2⟩ := HO
  obtain ⟨hspot, us', hus, hcell, hint⟩ := hy.us hp
  have hlen : us'.length = news.length := by rw [← hus, List.length_map]
  obtain ⟨i0, hi, hzz⟩ := Option.map_eq_some_iff.1 hinfo
  simp only [Prod.mk.injEq] at hzz
  obtain ⟨hz0, hz1, hz2⟩ := hzz
  rw [List.length_map] at hl h
  have hfl : ∀ l : List (Value × Value × Bag), (l.flatMap bagCells).length = l.length * 3 := by
    intro l
    induction l with
    | nil => rfl
    | cons a l ih => rw [List.flatMap_cons, List.length_append, ih]; simp [bagCells]; omega
  refine wpIn_append (w := W) s x t ho base 51 i0 _ 3 56 ht hi hz0 hz1 hz2 rfl (by omega) v us.length (us.flatMap bagCells) hs g1 ad news.length c (us'.flatMap bagCells) hx (by rw [hfl, hlen])
    hcell ?_ (by simp only [maxLen]; omega) (by omega) hbase ?_
  · intro u hu
    obtain ⟨t', ht', hu⟩ := List.mem_flatMap.1 hu
    obtain ⟨h1, h2⟩ := hint t' ht'
    obtain ⟨A1, c1, e1, _⟩ := h1.at
    obtain ⟨A2, c2, e2, _⟩ := h2.at
    simp only [bagCells, List.mem_cons, List.not_mem_nil, or_false] at hu
    rcases hu with rfl | rfl | rfl
    · rw [e1]; rfl
    · rw [e2]; rfl
    · rfl
  · intro v1 w1 hown hg _ hat
    have hx1 : Ext (fun k => some k = v.ownBlock) W w1 := ⟨hg.os, hg.tape, hg.output, hg.size, fun k hk hx => hg.block k hk hx⟩
    have hat' : v1.ownBlock = v.ownBlock ∨ ∃ b, v1.ownBlock = some b ∧ W.heap.size ≤ b := by
      rcases hat with hat | hat
      · exact .inl hat
      · exact .inr ⟨_, hat, by simp⟩
    have hfix : ∀ (u : Value) (xs : List Int), IntsR .i64 (fun k => P k ∧ some k ≠ v.ownBlock) W u xs → IntsR .i64 (fun k => P k ∧ some k ≠ v1.ownBlock) w1 u xs := by
      intro u xs hu
      refine IntsR.ext (X := fun k => some k = v.ownBlock) (IntsR.imp (P' := fun k => (P k ∧ some k ≠ v1.ownBlock) ∧ some k ≠ v.ownBlock) hu ?_) hx1 (fun k hk => hk.2) |>.imp (fun k _ hk => hk.1)
      rintro k hk ⟨hp, hne⟩
      refine ⟨⟨hp, ?_⟩, hne⟩
      rcases hat' with h3 | ⟨b, h3, hb⟩
      · rw [h3]; exact hne
      · rw [h3]; intro he; cases he; omega
    refine h v1 w1 ⟨us ++ us', by simp [hus], ?_, fun t ht => ?_⟩ hx1 hat' (Own.slice hown)
    · rw [List.flatMap_append, List.length_append, hlen]; exact hown
    · rcases List.mem_append.1 ht with ht | ht
      · exact ⟨hfix _ _ (g2 t ht).1, hfix _ _ (g2 t ht).2⟩
      · exact ⟨hfix _ _ (hint t ht).1, hfix _ _ (hint t ht).2⟩
end

/-- What is known within a region that draws: before operation c the world grows, each value that is there is known of in it; behind c a fact of all. D: which operation wants which. -/
structure PhA (D : List (Nat × Nat)) (c : Nat) (W0 : World) (Fact : Nat → Value → World → Prop) (Pure : Nat → Value → Prop) (Aft : (Nat → Value) → (Nat → Bool) → World → Prop) (s : Nat → Value) (l : Nat → Bool) (w : World) : Prop where
  dep : ∀ i j, (i, j) ∈ D → l i = true → l j = true
  bef : l c = false → Ext No W0 w ∧ ∀ i, l i = true → Fact i (s i) w
  aft : l c = true → Aft s l w
  pur : ∀ i, l i = true → Pure i (s i)
variable {D : List (Nat × Nat)} {c : Nat} {W0 w w' : World} {Fact : Nat → Value → World → Prop} {Pure : Nat → Value → Prop} {Aft : (Nat → Value) → (Nat → Bool) → World → Prop} {s : Nat → Value} {l : Nat → Bool}
theorem PhA.start : PhA D c W0 Fact Pure Aft s (fun _ => false) W0 := ⟨by simp, fun _ => ⟨Ext.refl _ _, by simp⟩, by simp, by simp⟩
theorem PhA.dep' (h : PhA D c W0 Fact Pure Aft s l w) {i : Nat} (hd : ∀ j, (i, j) ∈ D → l j = true) : ∀ i' j, (i', j) ∈ D → setL l i i' = true → setL l i j = true := by
  intro i' j hm hl
  have hj : l j = true := by
    by_cases hii : i' = i
    · subst hii; exact hd j hm
    · rw [setL, if_neg hii] at hl; exact h.dep i' j hm hl
  rw [setL]
  split
  · rfl
  · exact hj
/-- An operation before c. -/
theorem PhA.step (hst : ∀ i v w w', Ext No w w' → Fact i v w → Fact i v w') (h : PhA D c W0 Fact Pure Aft s l w) {i : Nat} (hi : i ≠ c) (hd : ∀ j, (i, j) ∈ D → l j = true) (hc : l c = false) {v : Value} (hx : Ext No w w') (hf : Fact i v w') (hp : Pure i v) :
    PhA D c W0 Fact Pure Aft (setS s i v) (setL l i) w' := by
  obtain ⟨h1, h2⟩ := h.bef hc
  refine ⟨h.dep' hd, fun _ => ⟨h1.trans hx, fun j hj => ?_⟩, fun hl => ?_, fun j hj => ?_⟩
  · by_cases hji : j = i
    · subst hji; rw [setS, if_pos rfl]; exact hf
    · rw [setS, if_neg hji]; rw [setL, if_neg hji] at hj; exact hst _ _ _ _ hx (h2 j hj)
  · rw [setL, if_neg (Ne.symm hi), hc] at hl; cases hl
  · by_cases hji : j = i
    · subst hji; rw [setS, if_pos rfl]; exact hp
    · rw [setS, if_neg hji]; rw [setL, if_neg hji] at hj; exact h.pur j hj
/-- An operation whose value is known beforehand, wherever it stands. -/
theorem PhA.pure (h : PhA D c W0 Fact Pure Aft s l w) {i : Nat} (hi : i ≠ c) (hd : ∀ j, (i, j) ∈ D → l j = true) {v : Value} (hf : l c = false → Fact i v w) (hp : Pure i v) (ha : Aft s l w → Aft (setS s i v) (setL l i) w) : PhA D c W0 Fact Pure Aft (setS s i v) (setL l i) w := by
  refine ⟨h.dep' hd, fun hl => ?_, fun hl => ?_, fun j hj => ?_⟩
  · rw [setL, if_neg (Ne.symm hi)] at hl
    obtain ⟨h1, h2⟩ := h.bef hl
    refine ⟨h1, fun j hj => ?_⟩
    by_cases hji : j = i
    · subst hji; rw [setS, if_pos rfl]; exact hf hl
    · rw [setS, if_neg hji]; rw [setL, if_neg hji] at hj; exact h2 j hj
  · rw [setL, if_neg (Ne.symm hi)] at hl; exact ha (h.aft hl)
  · by_cases hji : j = i
    · subst hji; rw [setS, if_pos rfl]; exact hp
    · rw [setS, if_neg hji]; rw [setL, if_neg hji] at hj; exact h.pur j hj
/-- Operation c itself, or one behind it. -/
theorem PhA.after (h : PhA D c W0 Fact Pure Aft s l w) {i : Nat} {v : Value} (hd : ∀ j, (i, j) ∈ D → l j = true) (hc : setL l i c = true) (hp : Pure i v) (ha : Aft (setS s i v) (setL l i) w') : PhA D c W0 Fact Pure Aft (setS s i v) (setL l i) w' := by
  refine ⟨h.dep' hd, fun hl => (by rw [hc] at hl; cases hl), fun _ => ha, fun j hj => ?_⟩
  by_cases hji : j = i
  · subst hji; rw [setS, if_pos rfl]; exact hp
  · rw [setS, if_neg hji]; rw [setL, if_neg hji] at hj; exact h.pur j hj
end Go.Proofs.YtceiaekkfabeaaaDoor

/- append of rows to rows of one's own. -/
namespace Go.Proofs.YtceiaekkfabeaaaDoor
open Go.RowKit Pl

/-- The rows that are read, cell by cell. -/
theorem RowsR.us {P : Nat → Prop} {w : World} {ad : Addr} {n c : Nat} {xss : List (List Int)} (h : RowsR P w (.slice (some ad) n c) xss) :
    ∃ us : List Value, us.length = xss.length ∧ (∀ j u, us[j]? = some u → w.cell? (ad.add j) = some u) ∧ (∀ u ∈ us, u.oneCell' = true) ∧ ∀ (j : Nat) (u : Value) (xs : List Int), us[j]? = some u → xss[j]? = some xs → IntsR .i64 P w u xs := by
  obtain ⟨A, c', hv, hc, hm, hn⟩ := h
  simp only [Value.slice.injEq] at hv
  obtain ⟨rfl, rfl, rfl⟩ := hv
  have hch : ∀ j : Nat, ∃ u : Value, ∀ (hjl : j < xss.length), u.oneCell' = true ∧ IntsR .i64 P w u xss[j] ∧ w.cell? (ad.add j) = some u := by
    intro j
    by_cases hjl : j < xss.length
    · obtain ⟨ad', ha, hpa, hs, hj⟩ := hn (by omega)
      cases ha
      obtain ⟨cs, ⟨u, rfl, h1, h2⟩, _, hcell⟩ := hj j hjl
      obtain ⟨b, o, sp⟩ := ad
      simp only at hs
      subst hs
      refine ⟨u, fun _ => ⟨h1, h2, ?_⟩⟩
      rw [addr_add]
      simpa using hcell 0 u rfl
    · exact ⟨.bool false, fun h => absurd h hjl⟩
  obtain ⟨f, hf⟩ := Classical.axiomOfChoice hch
  have hat : ∀ (j : Nat) u, ((List.range xss.length).map f)[j]? = some u → j < xss.length ∧ f j = u := fun j u hu => by
    obtain ⟨hl, rfl⟩ := List.getElem?_eq_some_iff.1 hu
    exact ⟨by simpa using hl, by simp⟩
  refine ⟨(List.range xss.length).map f, by simp, fun j u hu => ?_, fun u hu => ?_, fun j u xs hu hxs => ?_⟩
  · obtain ⟨hl, rfl⟩ := hat j u hu
    exact (hf j hl).2.2
  · obtain ⟨j, hj⟩ := List.mem_iff_getElem?.1 hu
    obtain ⟨hl, rfl⟩ := hat j u hj
    exact (hf j hl).1
  · obtain ⟨hl, rfl⟩ := hat j u hu
    obtain ⟨_, rfl⟩ := List.getElem?_eq_some_iff.1 hxs
    exact (hf j hl).2.1
theorem OwnRows.lit (P : Nat → Prop) (w : World) : OwnRows P w.heap.size (w.alloc (.cells #[] 28)) (.slice (some ⟨w.heap.size, 0, none⟩) 0 0) [] := ⟨[], Own.lit w _ _ _ (Nat.le_refl _), by simp⟩
section
variable {Pg : Program} {ops : Array Oper} {rest : List Oper} {o : Oper} {a : Act} {Q : Exit → Act → World → Prop}
theorem appRows {P : Nat → Prop} {W : World} (base : Nat) (hgd : o.guard = none) (s x : Operand) (t : TypeId)
    (ho : o.op = .call { callee := .builtin .append, args := #[s, x], argTypes := #[t, t] })
    (ht : Pg.underlying t = some (.slice 28)) (hinfo : (Pg.info? 28).map (fun i => (i.zero, i.size, i.bytes)) = some (some (.slice none 0 0), 1, 24))
    (v : Value) (xss yss : List (List Int)) (y : Value) (hs : a.eval s = v) (hx : a.eval x = y)
    (HO : OwnRows P base W v xss) (hy : RowsR (fun k => P k ∧ some k ≠ v.ownBlock) W y yss) (hbase : base ≤ W.heap.size) (hl : xss.length + yss.length ≤ 1000000000)
    (h : ∀ v1 w1, OwnRows P base w1 v1 (xss ++ yss) → Ext (fun k => some k = v.ownBlock) W w1 → (v1.ownBlock = v.ownBlock ∨ ∃ b, v1.ownBlock = some b ∧ W.heap.size ≤ b) → (∃ A c, v1 = .slice A (xss.length + yss.length) c) → wpList Pg ops Q rest (a.put o.dst v1) w1) :
    wpList Pg ops Q (o :: rest) a W := by
  obtain ⟨Ay, cy, rfl, _⟩ := hy.at
  cases Ay with
  | none =>
    obtain ⟨h1, rfl, rfl⟩ := RowR.none hy
    obtain ⟨i0, hi, _⟩ := Option.map_eq_some_iff.1 hinfo
    obtain ⟨vs, g1, g2⟩ := HO
    refine wpList_append_own_none hgd s x t ho base 28 i0 1 ht hi v xss.length vs hs g1 hx ?_
    exact h v W ⟨vs, by simpa using g1, by simpa using g2⟩ (Ext.refl _ _) (Or.inl rfl) (Own.slice g1)
  | some ad =>
    obtain ⟨us, ul, ucell, uone, uint⟩ := hy.us
    obtain ⟨vs, g1, g2⟩ := HO
    refine appN base hgd s x t 28 _ 24 ho ht hinfo rfl (by decide) v xss.length vs ad yss.length cy us hs hx ul ucell uone g1 hbase (by omega) ?_
    intro v1 w1 h1 h2 h3 h4
    have hfix : ∀ (u : Value) (xs : List Int), IntsR .i64 (fun k => P k ∧ some k ≠ v.ownBlock) W u xs → IntsR .i64 (fun k => P k ∧ some k ≠ v1.ownBlock) w1 u xs := by
      intro u xs hu
      refine IntsR.ext (X := fun k => some k = v.ownBlock) (IntsR.imp (P' := fun k => (P k ∧ some k ≠ v1.ownBlock) ∧ some k ≠ v.ownBlock) hu ?_) h2 (fun k hk => hk.2) |>.imp (fun k _ hk => hk.1)
      rintro k hk ⟨hp, hne⟩
      refine ⟨⟨hp, ?_⟩, hne⟩
      rcases h3 with h3 | ⟨b, h3, hb⟩
      · rw [h3]; exact hne
      · rw [h3]; intro he; cases he; omega
    refine h v1 w1 ⟨vs ++ us, by simpa using h1, fun j u xs hu hxs => ?_⟩ h2 h3 h4
    have hl := g1.len
    by_cases hj : j < xss.length
    · rw [List.getElem?_append_left (by omega)] at hu
      rw [List.getElem?_append_left hj] at hxs
      exact hfix u xs (g2 j u xs hu hxs)
    · rw [List.getElem?_append_right (by omega)] at hu
      rw [List.getElem?_append_right (by omega)] at hxs
      rw [hl] at hu
      exact hfix _ _ (uint _ _ _ hu hxs)
end
end Go.Proofs.YtceiaekkfabeaaaDoor
