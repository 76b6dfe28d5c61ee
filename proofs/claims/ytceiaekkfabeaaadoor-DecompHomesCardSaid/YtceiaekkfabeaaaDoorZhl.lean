/- Words and contracts for: DecompHomes: for every hypergraph, and number the law answers true, and its arguments read as before. No condition; the library's table math/bits.deBruijn64tab is laid by its text. -/
import Derived.Deep.QuietTactic
import Derived.BigQuiet
import Derived.Test.YtceiaekkfabeaaaDoorZhk
/- The bags of all parts' orders may be. -/
namespace Go.Proofs.YtceiaekkfabeaaaDoor
open Go.RowKit Pl

theorem nodup_len : ∀ (n : Nat) (l : List Nat), l.Nodup → (∀ x ∈ l, x < n) → l.length ≤ n
  | 0, [], _, _ => Nat.le_refl _
  | 0, x :: l, _, h => by have := h x (by simp); omega
  | n + 1, l, hd, h => by
    by_cases hn : n ∈ l
    · have h1 := nodup_len n (l.erase n) (hd.erase n) (fun x hx => by
        have h2 := (hd.mem_erase_iff).1 hx
        have := h x h2.2
        have := h2.1
        omega)
      have h2 := List.length_erase_of_mem hn
      omega
    · have h1 := nodup_len n l hd (fun x hx => by
        have := h x hx
        have : x ≠ n := fun he => hn (he ▸ hx)
        omega)
      omega
theorem rises_of {l : List Int} {many : Int} (hp : l.Pairwise (· < ·)) (hb : ∀ x ∈ l, 0 ≤ x ∧ x < many) : risesB l many = true := by
  rw [risesB_iff]
  intro i x hx
  have hm := hb x (List.mem_of_getElem? hx)
  refine ⟨hm.1, hm.2, fun y hi hy => ?_⟩
  obtain ⟨h1, rfl⟩ := List.getElem?_eq_some_iff.1 hx
  obtain ⟨h2, rfl⟩ := List.getElem?_eq_some_iff.1 hy
  exact List.pairwise_iff_getElem.1 hp (i - 1) i h2 h1 (by omega)
theorem lt_pow_of {x mm : Nat} (h : ∀ i, x.testBit i = true → i < mm) : x < 2 ^ mm := by
  refine Nat.lt_pow_two_of_testBit x fun i hi => ?_
  rw [← Bool.not_eq_true]
  exact fun hb => by have := h i hb; omega
theorem bit_lt {x mm i : Nat} (hx : x < 2 ^ mm) (h : x.testBit i = true) : i < mm := Classical.byContradiction fun hh => by
  rw [Nat.testBit_lt_two_pow (Nat.lt_of_lt_of_le hx (Nat.pow_le_pow_right (by omega) (by omega)))] at h
  cases h
theorem has_members {x mm v : Nat} (hx : x < 2 ^ mm) (hm : mm ≤ 32) : hasB (membersL x) (v : Int) = x.testBit v := by
  rw [Bool.eq_iff_iff, hasB_iff, membersL_mem]
  constructor
  · rintro ⟨u, hu, hm'⟩
    obtain rfl : v = u := by omega
    exact (membersN_mem.1 hm').2
  · exact fun h => ⟨v, rfl, membersN_mem.2 ⟨by have := bit_lt hx h; omega, h⟩⟩
theorem members_rises {x mm : Nat} (hx : x < 2 ^ mm) : risesB (membersL x) (mm : Int) = true := by
  refine rises_of ?_ fun y hy => ?_
  · rw [membersL, List.pairwise_map]
    exact (List.Pairwise.filter _ (List.pairwise_lt_range (n := 32))).imp (fun h => by omega)
  · obtain ⟨u, rfl, hu⟩ := membersL_mem.1 hy
    have := bit_lt hx (membersN_mem.1 hu).2
    omega
theorem rows_pairwise (hi : Int) : ∀ (m : Nat) (lo : Int), 0 ≤ lo → ∀ r ∈ rowsL hi m lo, r.Pairwise (· < ·)
  | 0, lo, _, r, hr => by
    rw [rowsL, List.mem_singleton] at hr
    subst hr; exact List.Pairwise.nil
  | m + 1, lo, h0, r, hr => by
    rw [rowsL] at hr
    obtain ⟨n, hn, hr⟩ := List.mem_flatMap.1 hr
    obtain ⟨q, hq, rfl⟩ := List.mem_map.1 hr
    have hn0 := (rangeL_mem.1 hn).1
    exact List.pairwise_cons.2 ⟨fun y hy => by have := (rowsL_in hi m (n + 1) (by omega) q hq y hy).1; omega, rows_pairwise hi m (n + 1) (by omega) q hq⟩
theorem cov_row {S : List Nat} {x : Nat} {r : List Int} (h : covO S x = some r) : risesB r (S.length : Int) = true ∧ covP S x r = true := by
  rw [covO_rows] at h
  obtain ⟨k, _, hk⟩ := List.exists_of_findSome?_eq_some h
  have hm := List.mem_of_find?_eq_some hk
  exact ⟨rises_of (rows_pairwise _ k 0 (Int.le_refl _) r hm) (fun y hy => rowsL_in _ k 0 (Int.le_refl _) r hm y hy), List.find?_some hk⟩
theorem filter_one {α : Type} {l : List α} {f : α → Bool} {i : Nat} {x : α} (hi : l[i]? = some x) (h1 : f x = true) (h2 : ∀ j y, l[j]? = some y → f y = true → j = i) : (l.filter f).length = 1 := by
  obtain ⟨hl, rfl⟩ := List.getElem?_eq_some_iff.1 hi
  have hs : l = l.take i ++ l[i] :: l.drop (i + 1) := by rw [List.getElem_cons_drop, List.take_append_drop]
  rw [hs, List.filter_append, List.filter_cons, if_pos h1]
  have e1 : (l.take i).filter f = [] := by
    rw [List.filter_eq_nil_iff]
    intro y hy hf
    obtain ⟨j, hj⟩ := List.mem_iff_getElem?.1 hy
    have hjl := (List.getElem?_eq_some_iff.1 hj).1
    rw [List.length_take] at hjl
    rw [List.getElem?_take_of_lt (by omega)] at hj
    have := h2 j y hj hf
    omega
  have e2 : (l.drop (i + 1)).filter f = [] := by
    rw [List.filter_eq_nil_iff]
    intro y hy hf
    obtain ⟨j, hj⟩ := List.mem_iff_getElem?.1 hy
    rw [List.getElem?_drop] at hj
    have := h2 _ y hj hf
    omega
  rw [e1, e2]; rfl
theorem widthTo_le {most : Int} : ∀ (l : List Bag) (m : Int), m ≤ most → (∀ b ∈ l, (b.es.length : Int) ≤ most) → widthTo m l ≤ most
  | [], m, h, _ => h
  | b :: l, m, h, hb => by
    rw [widthTo, List.foldl_cons]
    exact widthTo_le l _ (by have := hb b (by simp); omega) (fun b' hb' => hb b' (by simp [hb']))

/-- Bags, each with the vertex of which it is the top. -/
structure BagsOf (S : List Nat) (mm : Nat) (most : Int) (G : Nat) (out : List Bag) (V : List Nat) : Prop where
  len : V.length = out.length
  nodup : V.Nodup
  mem : ∀ u, u ∈ V ↔ G.testBit u = true
  lt : ∀ u ∈ V, u < mm
  form : ∀ (g : Nat) (b : Bag) (u : Nat), out[g]? = some b → V[g]? = some u → ∃ x, x < 2 ^ mm ∧ b.vs = membersL x ∧ covO S x = some b.es ∧ (b.es.length : Int) ≤ most ∧ -1 ≤ b.parent ∧ b.parent < g ∧ ∀ v : Nat, topB out (v : Int) b = true ↔ v = u
  home : ∀ e ∈ S, e &&& G ≠ 0 → ∃ b ∈ out, ∃ x, x < 2 ^ mm ∧ b.vs = membersL x ∧ ∀ w, e.testBit w = true → x.testBit w = true
theorem BagsOf.nil (S : List Nat) (mm : Nat) (most : Int) : BagsOf S mm most 0 [] [] :=
  ⟨rfl, List.nodup_nil, by simp, by simp, by simp, fun e _ h => by simp at h⟩
theorem topB_app {out new : List Bag} {v : Int} {b : Bag} (h : b.parent < out.length) : topB (out ++ new) v b = topB out v b := by
  rw [topB, topB]
  by_cases h0 : b.parent < 0
  · simp [h0]
  · rw [List.getElem?_append_left (by omega)]
theorem bagsL_at {S : List Nat} {ord : List Int} {behind : Int} {k : Nat} (hk : k < ord.length) : (bagsL S ord behind ord.length)[k]? = some (bagI S ord behind (ord.length - 1 - k)) := by
  simp [bagsL, List.getElem?_map, List.getElem?_range hk]
section
variable {S : List Nat} {mm : Nat} {most : Int} {G p : Nat} {out : List Bag} {V : List Nat} {ord : List Int}
theorem BagsOf.add (hS : smallS S) (hmm : mm ≤ 32) (h : BagsOf S mm most G out V) (hc : Closed S p) (hp : p < 2 ^ mm) (hd : ∀ i, p.testBit i = true → G.testBit i = false) (ho : OrdOf S most p ord) (hcov : ∀ v, v < mm → (orTo S).testBit v = true) :
    BagsOf S mm most (G ||| p) (out ++ bagsL S ord out.length ord.length) (V ++ (List.range ord.length).map fun k => ordN ord (ord.length - 1 - k)) := by
  have hV : ∀ k, k < ord.length → ((List.range ord.length).map fun k => ordN ord (ord.length - 1 - k))[k]? = some (ordN ord (ord.length - 1 - k)) := fun k hk => by simp [List.getElem?_map, List.getElem?_range hk]
  have hmem : ∀ u, u ∈ (List.range ord.length).map (fun k => ordN ord (ord.length - 1 - k)) ↔ p.testBit u = true := fun u => by
    rw [List.mem_map]
    constructor
    · rintro ⟨k, hk, rfl⟩
      have := List.mem_range.1 hk
      exact (ho.at (by omega)).2.2
    · intro hu
      obtain ⟨i, hi, rfl⟩ := ho.pos hu
      exact ⟨ord.length - 1 - i, List.mem_range.2 (by omega), by rw [show ord.length - 1 - (ord.length - 1 - i) = i by omega]⟩
  have hx : ∀ i, i < ord.length → arI S ord i < 2 ^ mm := fun i hi => lt_pow_of fun w hw => bit_lt hp (ho.sub hS hc hi hw)
  refine ⟨by simp [h.len, bagsL_len], ?_, fun u => ?_, fun u hu => ?_, fun g b u hg hu => ?_, fun e he hne => ?_⟩
  · rw [List.nodup_append]
    refine ⟨h.nodup, ?_, fun a ha b hb hab => ?_⟩
    · rw [List.nodup_iff_pairwise_ne, List.pairwise_map]
      refine List.Pairwise.imp_of_mem ?_ (List.pairwise_lt_range (n := ord.length))
      intro a b ha hb hab he
      have h1 := List.mem_range.1 ha
      have h2 := List.mem_range.1 hb
      have := ho.inj (by omega) (by omega) he
      omega
    · subst hab
      have h1 := (h.mem a).1 ha
      rw [hd a ((hmem a).1 hb)] at h1; cases h1
  · rw [List.mem_append, h.mem, hmem, Nat.testBit_or, Bool.or_eq_true]
  · rcases List.mem_append.1 hu with hu | hu
    · exact h.lt u hu
    · exact bit_lt hp ((hmem u).1 hu)
  · by_cases hgl : g < out.length
    · rw [List.getElem?_append_left hgl] at hg
      rw [List.getElem?_append_left (by rw [h.len]; exact hgl)] at hu
      obtain ⟨x, h1, h2, h3, h4, h5, h6, h7⟩ := h.form g b u hg hu
      refine ⟨x, h1, h2, h3, h4, h5, h6, fun v => ?_⟩
      rw [topB_app (by omega)]
      exact h7 v
    · rw [List.getElem?_append_right (by omega)] at hg
      rw [List.getElem?_append_right (by rw [h.len]; omega), h.len] at hu
      obtain ⟨k, hk⟩ : ∃ k, g = out.length + k := ⟨g - out.length, by omega⟩
      subst hk
      rw [show out.length + k - out.length = k by omega] at hg hu
      have hkl : k < ord.length := by have := (List.getElem?_eq_some_iff.1 hg).1; rw [bagsL_len] at this; exact this
      rw [bagsL_at hkl] at hg
      rw [hV k hkl] at hu
      simp only [Option.some.injEq] at hg hu
      obtain ⟨i, hi⟩ : ∃ i, i = ord.length - 1 - k := ⟨_, rfl⟩
      rw [← hi] at hg hu
      have hil : i < ord.length := by omega
      subst hu
      have hcv : covO S (arI S ord i) = some ((covO S (arI S ord i)).getD []) := by
        obtain ⟨r, hr⟩ := arF_cov (S := S) (v := ordN ord i) (gone := ofTo (ord.take i)) (hcov _ (bit_lt hp (ho.at hil).2.2))
        rw [show arI S ord i = arF S (ordN ord i) (ofTo (ord.take i)) from rfl, hr]; rfl
      have hb : b.vs = membersL (arI S ord i) ∧ b.es = (covO S (arI S ord i)).getD [] ∧ b.parent = parF ord out.length (arI S ord i) i := by rw [← hg]; exact ⟨rfl, rfl, rfl⟩
      obtain ⟨hb1, hb2, hb3⟩ := hb
      refine ⟨arI S ord i, hx i hil, hb1, by rw [hb2]; exact hcv, by rw [hb2]; exact ho.wid i hil, ?_⟩
      rcases ho.top hS hc (out.length : Int) (by omega) hil with ⟨t1, t2⟩ | ⟨j, j1, j2, t1, t2⟩
      · rw [hb3, t1]
        refine ⟨by omega, by omega, fun v => ?_⟩
        rw [topB, hb1, hb3, t1, has_members (hx i hil) hmm]
        simpa using t2 v
      · have hpar : parF ord (out.length : Int) (arI S ord i) i = ((out.length + (ord.length - 1 - j) : Nat) : Int) := by rw [t1]; omega
        rw [hb3, hpar]
        refine ⟨by omega, by omega, fun v => ?_⟩
        rw [topB, hb1, hb3, hpar, has_members (hx i hil) hmm, Int.toNat_natCast, List.getElem?_append_right (by omega), show out.length + (ord.length - 1 - j) - out.length = ord.length - 1 - j by omega, bagsL_at (by omega), show ord.length - 1 - (ord.length - 1 - j) = j by omega]
        rw [Option.getD_some, show (bagI S ord (out.length : Int) j).vs = membersL (arI S ord j) from rfl, has_members (hx j j2) hmm, ← t2 v, Bool.and_eq_true, Bool.or_eq_true, decide_eq_true_eq, Bool.not_eq_true']
        constructor
        · rintro ⟨a1, a2 | a2⟩
          · omega
          · exact ⟨a1, a2⟩
        · rintro ⟨a1, a2⟩
          exact ⟨a1, Or.inr a2⟩
  · by_cases hG : e &&& G ≠ 0
    · obtain ⟨b, hb, x, h1, h2, h3⟩ := h.home e he hG
      exact ⟨b, List.mem_append_left _ hb, x, h1, h2, h3⟩
    · have hpe : e &&& p ≠ 0 := by
        obtain ⟨i, h1, h2⟩ := and_ne.1 hne
        rw [Nat.testBit_or, Bool.or_eq_true] at h2
        rcases h2 with h2 | h2
        · exact absurd (and_ne.2 ⟨i, h1, h2⟩) hG
        · exact and_ne.2 ⟨i, h1, h2⟩
      obtain ⟨i, hi, hw⟩ := ho.home hS hc he hpe
      refine ⟨bagI S ord out.length i, List.mem_append_right _ (List.mem_of_getElem? (i := ord.length - 1 - i) ?_), arI S ord i, hx i hi, rfl, hw⟩
      rw [bagsL_at (by omega), show ord.length - 1 - (ord.length - 1 - i) = i by omega]
theorem bags_ofF (hS : smallS S) (hmm : mm ≤ 32) (hcov : ∀ v, v < mm → (orTo S).testBit v = true) : ∀ (ps : List Nat) (G : Nat) (out : List Bag) (V : List Nat) (o : List Bag), Apart S G ps → (∀ p ∈ ps, p < 2 ^ mm) → BagsOf S mm most G out V → ofF S most ps out = some o → ∃ V', BagsOf S mm most (ps.foldl (· ||| ·) G) o V'
  | [], G, out, V, o, _, _, h, ho => by
    rw [ofF, Option.some.injEq] at ho
    subst ho; exact ⟨V, h⟩
  | p :: ps, G, out, V, o, ⟨h1, h2, h3⟩, hlt, h, ho => by
    rw [ofF] at ho
    cases hg : goX S p most 0 with
    | none => rw [hg] at ho; cases ho
    | some ord =>
      rw [hg] at ho
      exact bags_ofF hS hmm hcov ps (G ||| p) _ _ o h3 (fun q hq => hlt q (by simp [hq])) (h.add hS hmm h1 (hlt p (by simp)) h2 (ordOf_goX hg) hcov) ho
end
/-- Such bags may be. -/
theorem BagsOf.right {es : List (List Int)} {mm G : Nat} {most : Int} {out : List Bag} {V : List Nat} (h : hyperB (mm : Int) es = true) (hB : BagsOf (es.map ofTo) mm most G out V) (hG : ∀ v, v < mm → G.testBit v = true) (hne : out ≠ [] ∨ es = []) : rightB (mm : Int) es out = true := by
  obtain ⟨_, hm, _, h4⟩ := hyperB_parts h
  have hnn := hyper_nonneg h
  have hm32 : mm ≤ 32 := by omega
  have hlen : out.length ≤ mm := by rw [← hB.len]; exact nodup_len mm V hB.nodup hB.lt
  have hVat : ∀ g, g < out.length → ∃ u, V[g]? = some u := fun g hg => ⟨V[g]'(by rw [hB.len]; exact hg), List.getElem?_eq_getElem _⟩
  have hlt32 : ∀ x, x < 2 ^ mm → x < 4294967296 := fun x hx => Nat.lt_of_lt_of_le hx (by have := Nat.pow_le_pow_right (n := 2) (by omega) hm32; simpa using this)
  rw [rightB, Bool.and_eq_true, Bool.and_eq_true, Bool.and_eq_true, decide_eq_true_eq]
  refine ⟨⟨⟨by omega, allI_iff.2 fun g b hb => ?_⟩, ?_⟩, ?_⟩
  · have hgl := (List.getElem?_eq_some_iff.1 hb).1
    obtain ⟨u, hu⟩ := hVat g hgl
    obtain ⟨x, h1, h2, h3, _, h5, h6, _⟩ := hB.form g b u hb hu
    obtain ⟨c1, c2⟩ := cov_row h3
    rw [List.length_map] at c1
    rw [Nat.zero_add, Bool.and_eq_true, bagFormB]
    refine ⟨by rw [h2, members_rises h1, c1]; simp; omega, ?_⟩
    rw [covers_covP hnn (fun v hv => by rw [h2] at hv; exact rises_nonneg (members_rises h1) v hv), h2, ofTo_members x (hlt32 x h1)]
    exact c2
  · rw [allB, List.all_eq_true]
    intro e he
    rw [anyB, List.any_eq_true]
    by_cases h0 : ofTo e = 0
    · have hem : e = [] := by
        cases e with
        | nil => rfl
        | cons v l =>
          have : (ofTo (v :: l)).testBit v.toNat = true := by rw [ofTo_testBit]; simp
          rw [h0] at this; simp at this
      subst hem
      rcases hne with hne | rfl
      · cases out with
        | nil => exact absurd rfl hne
        | cons b l => exact ⟨b, by simp, rfl⟩
      · cases he
    · have hand : ofTo e &&& G ≠ 0 := by
        obtain ⟨i, hi⟩ := Nat.exists_testBit_of_ne_zero h0
        have : i < mm := bit_lt (ofTo_lt_pow (inB_of_rises (h4 e he))) hi
        exact and_ne.2 ⟨i, hi, hG i this⟩
      obtain ⟨b, hb, x, h1, h2, h3⟩ := hB.home (ofTo e) (List.mem_map.2 ⟨e, he, rfl⟩) hand
      refine ⟨b, hb, ?_⟩
      rw [← sub_within (hnn e he) (fun v hv => by rw [h2] at hv; exact rises_nonneg (members_rises h1) v hv), h2, ofTo_members x (hlt32 x h1), beq_iff_eq, sdn_zero]
      exact h3
  · rw [allB, List.all_eq_true]
    intro v hv
    obtain ⟨hv0, hv1⟩ := mem_vertsL.1 hv
    obtain ⟨n, rfl⟩ := Int.eq_ofNat_of_zero_le hv0
    rw [decide_eq_true_eq, topsN]
    obtain ⟨g, hg⟩ := List.mem_iff_getElem?.1 ((hB.mem n).2 (hG n (by omega)))
    have hgl : g < out.length := by have := (List.getElem?_eq_some_iff.1 hg).1; rw [hB.len] at this; exact this
    have hb : out[g]? = some out[g] := List.getElem?_eq_getElem hgl
    obtain ⟨x, _, _, _, _, _, _, h7⟩ := hB.form g _ n hb hg
    have := filter_one (f := topB out (n : Int)) hb ((h7 n).2 rfl) (fun j y hj hy => by
      have hjl := (List.getElem?_eq_some_iff.1 hj).1
      obtain ⟨u, hu⟩ := hVat j hjl
      obtain ⟨_, _, _, _, _, _, _, k7⟩ := hB.form j y u hj hu
      have hnu := (k7 n).1 hy
      subst hnu
      exact List.getElem?_inj (by rw [hB.len]; exact hjl) hB.nodup |>.1 (hu.trans hg.symm))
    omega
theorem BagsOf.width {S : List Nat} {mm G : Nat} {most : Int} {out : List Bag} {V : List Nat} (hB : BagsOf S mm most G out V) (hm : 0 ≤ most) : widthTo 0 out ≤ most := by
  refine widthTo_le _ _ hm fun b hb => ?_
  obtain ⟨g, hg⟩ := List.mem_iff_getElem?.1 hb
  have hgl := (List.getElem?_eq_some_iff.1 hg).1
  obtain ⟨x, _, _, _, h4, _⟩ := hB.form g b _ hg (List.getElem?_eq_getElem (by rw [hB.len]; exact hgl))
  exact h4
end Go.Proofs.YtceiaekkfabeaaaDoor

/- What Of and Least answer, told by orders of all vertices. -/
namespace Go.Proofs.YtceiaekkfabeaaaDoor
open Go.RowKit Pl

theorem sets_lt {mm : Nat} {es : List (List Int)} (h : hyperB (mm : Int) es = true) : ∀ x ∈ es.map ofTo, x < 2 ^ mm := fun x hx => by
  obtain ⟨_, _, _, h4⟩ := hyperB_parts h
  obtain ⟨e, he, rfl⟩ := List.mem_map.1 hx
  exact ofTo_lt_pow (inB_of_rises (h4 e he))
theorem orTo_lt_mm {mm : Nat} {es : List (List Int)} (h : hyperB (mm : Int) es = true) : orTo (es.map ofTo) < 2 ^ mm := lt_pow_of fun i hi => by
  rw [orTo_testBit, List.any_eq_true] at hi
  obtain ⟨x, hx, hxi⟩ := hi
  exact bit_lt (sets_lt h x hx) hxi
theorem full_members : ∀ m : Fin 33, (membersN (2 ^ m.val - 1)).length = m.val := by decide +kernel
/-- All vertices stand in edges just if there are enough that do. -/
theorem all_covered {x mm : Nat} (hx : x < 2 ^ mm) (hm : mm ≤ 32) : (membersN x).length < mm ↔ ¬ ∀ v, v < mm → x.testBit v = true := by
  constructor
  · intro h hall
    have h1 : membersN (2 ^ mm - 1) = membersN x := by
      rw [membersN, membersN]
      apply List.filter_congr
      intro i hi
      rw [Nat.testBit_two_pow_sub_one]
      cases hb : x.testBit i with
      | true => have := bit_lt hx hb; simp [this]
      | false =>
        have : ¬ i < mm := fun h => by rw [hall i h] at hb; cases hb
        simp [this]
    have h2 := full_members ⟨mm, by omega⟩
    rw [h1] at h2
    simp only at h2
    omega
  · intro h
    refine Classical.byContradiction fun hle => h fun v hv => Classical.byContradiction fun hb => ?_
    have h1 := nodup_len mm (v :: membersN x) (List.nodup_cons.2 ⟨fun hm' => hb (membersN_mem.1 hm').2, membersN_nodup x⟩) (fun u hu => by
      rcases List.mem_cons.1 hu with rfl | hu
      · exact hv
      · exact bit_lt hx (membersN_mem.1 hu).2)
    rw [List.length_cons] at h1
    omega
theorem bare_iff {mm : Nat} {es : List (List Int)} (h : hyperB (mm : Int) es = true) : bareB (mm : Int) es = false ↔ ∀ v, v < mm → (orTo (es.map ofTo)).testBit v = true := by
  have hnn := hyper_nonneg h
  rw [bareB, Bool.not_eq_false', allB, List.all_eq_true]
  have key : ∀ v : Nat, anyB (fun e => hasB e (v : Int)) es = (orTo (es.map ofTo)).testBit v := fun v => by
    rw [orTo_testBit, anyB, List.any_map]
    refine any_congr2 fun e he => ?_
    have := ofTo_has (l := e) (hnn e he) (v := (v : Int)) (by omega)
    rw [Int.toNat_natCast] at this
    exact this.symm
  constructor
  · intro hall v hv
    rw [← key]
    exact hall _ (mem_vertsL.2 ⟨by omega, by omega⟩)
  · intro hall x hx
    obtain ⟨h0, h1⟩ := mem_vertsL.1 hx
    obtain ⟨v, rfl⟩ := Int.eq_ofNat_of_zero_le h0
    rw [key]
    exact hall v (by omega)
theorem begin_bare {mm : Nat} {es : List (List Int)} {most : Int} (h : hyperB (mm : Int) es = true) (hm : 1 ≤ most) : beginE (mm : Int) es most = if bareB (mm : Int) es then 4 else 0 := by
  obtain ⟨_, hm32, _, _⟩ := hyperB_parts h
  rw [beginE, if_neg (by simp [h]), if_neg (by omega)]
  have h1 := all_covered (orTo_lt_mm h) (by omega)
  cases hb : bareB (mm : Int) es with
  | true =>
    have h2 : (membersN (orTo (es.map ofTo))).length < mm := h1.2 fun hall => by rw [(bare_iff h).2 hall] at hb; cases hb
    rw [if_pos (by omega)]; rfl
  | false =>
    have h2 : ¬ (membersN (orTo (es.map ofTo))).length < mm := fun hh => h1.1 hh ((bare_iff h).1 hb)
    rw [if_neg (by omega)]; rfl
theorem right_empty {es : List (List Int)} (h : hyperB 0 es = true) : rightB 0 es [⟨[], [], -1⟩] = true := by
  obtain ⟨_, _, _, h4⟩ := hyperB_parts h
  rw [rightB, Bool.and_eq_true, Bool.and_eq_true, Bool.and_eq_true]
  refine ⟨⟨⟨rfl, rfl⟩, ?_⟩, rfl⟩
  rw [allB, List.all_eq_true]
  intro e he
  have : e = [] := by
    cases e with
    | nil => rfl
    | cons v l =>
      have := risesB_iff.1 (h4 _ he) 0 v rfl
      have h1 := this.1
      have h2 := this.2.1
      omega
  subst this
  rfl
theorem ofF_all {S : List Nat} {most : Int} : ∀ (ps : List Nat) (out o : List Bag), ofF S most ps out = some o → ∀ p ∈ ps, ∃ l, goX S p most 0 = some l
  | [], _, _, _, p, hp => by simp at hp
  | q :: ps, out, o, h, p, hp => by
    rw [ofF] at h
    cases hg : goX S q most 0 with
    | none => rw [hg] at h; cases h
    | some ord =>
      rw [hg] at h
      rcases List.mem_cons.1 hp with rfl | hp
      · exact ⟨ord, hg⟩
      · exact ofF_all ps _ o h p hp
/-- What Of answers where something is searched. -/
theorem of_law {mm : Nat} {es : List (List Int)} {most : Int} (h : hyperB (mm : Int) es = true) (hm : 1 ≤ most) (hb : bareB (mm : Int) es = false) :
    ((ofA (mm : Int) es most).1 = 0 ∧ rightB (mm : Int) es (ofA (mm : Int) es most).2 = true ∧ widthTo 0 (ofA (mm : Int) es most).2 ≤ most ∧ ∃ l, Elim (es.map ofTo) most (2 ^ mm - 1) 0 l) ∨
    ((ofA (mm : Int) es most).1 = 4 ∧ (ofA (mm : Int) es most).2 = [] ∧ ¬ ∃ l, Elim (es.map ofTo) most (2 ^ mm - 1) 0 l) := by
  obtain ⟨_, hm32, _, _⟩ := hyperB_parts h
  have hmm : mm ≤ 32 := by omega
  have hS : smallS (es.map ofTo) := smallS_of (hyperB_small h)
  have hlt := sets_lt h
  have hplt : ∀ p ∈ partsL (es.map ofTo) mm, p < 2 ^ mm := partsL_lt_pow hlt mm (Nat.le_refl _)
  have hp32 : ∀ p ∈ partsL (es.map ofTo) mm, p < 4294967296 := fun p hp => Nat.lt_of_lt_of_le (hplt p hp) (by have := Nat.pow_le_pow_right (n := 2) (by omega) hmm; simpa using this)
  have hcov := (bare_iff h).1 hb
  have hbe : beginE (mm : Int) es most = 0 := by rw [begin_bare h hm, hb]; rfl
  rw [ofA, if_neg (by rw [hbe]; simp), Int.toNat_natCast]
  cases hof : ofF (es.map ofTo) most (partsL (es.map ofTo) mm) [] with
  | none =>
    right
    refine ⟨rfl, rfl, fun hex => ?_⟩
    obtain ⟨o, ho⟩ := ofF_some (most := most) (partsL (es.map ofTo) mm) [] (fun p hp => (goX_iff (hp32 p hp)).2 ((elim_all hS hmm hlt).1 hex p hp))
    rw [hof] at ho; cases ho
  | some out =>
    left
    obtain ⟨h1, h2, h3, h4, h5⟩ := partsF_spec hS mm hmm
    obtain ⟨V, hB⟩ := bags_ofF (mm := mm) hS hmm hcov (partsL (es.map ofTo) mm) 0 [] [] out h1 hplt (BagsOf.nil _ _ _) hof
    have hG : ∀ v, v < mm → ((partsL (es.map ofTo) mm).foldl (· ||| ·) 0).testBit v = true := fun v hv => by
      rw [show (partsL (es.map ofTo) mm).foldl (· ||| ·) 0 = (partsF (es.map ofTo) mm).2 from h2]; exact h4 v hv
    have hE : ∃ l, Elim (es.map ofTo) most (2 ^ mm - 1) 0 l := (elim_all hS hmm hlt).2 fun p hp => (goX_iff (hp32 p hp)).1 (ofF_all _ _ _ hof p hp)
    refine ⟨rfl, ?_⟩
    show rightB (mm : Int) es (endO es out) = true ∧ widthTo 0 (endO es out) ≤ most ∧ _
    by_cases he : out.length = 0 ∧ 0 < es.length
    · rw [show (endO es out) = [⟨[], [], -1⟩] from by rw [endO, if_pos he]]
      have hmm0 : mm = 0 := by
        refine Classical.byContradiction fun hne => ?_
        have := (hB.mem 0).2 (hG 0 (by omega))
        have h0 := List.length_pos_of_mem this
        rw [hB.len] at h0
        omega
      subst hmm0
      exact ⟨right_empty h, by show max 0 0 ≤ most; omega, hE⟩
    · rw [show (endO es out) = out from by rw [endO, if_neg he]]
      refine ⟨hB.right h hG ?_, hB.width (by omega), hE⟩
      by_cases ho : out = []
      · right
        subst ho
        have : ¬ 0 < es.length := fun hh => he ⟨rfl, hh⟩
        exact List.eq_nil_of_length_eq_zero (by omega)
      · exact Or.inl ho
theorem Elim.more {S : List Nat} {m1 m2 : Int} (hm : m1 ≤ m2) {T : Nat} : ∀ (l : List Nat) (gone : Nat), Elim S m1 T gone l → Elim S m2 T gone l
  | [], _, h => h
  | _ :: l, _, ⟨h1, h2, h3, h4, h5⟩ => ⟨h1, h2, h3, by omega, Elim.more hm l _ h5⟩
/-- What Least answers where something is searched. -/
theorem least_law {mm : Nat} {es : List (List Int)} (h : hyperB (mm : Int) es = true) (h6 : mm ≤ 6) (hb : bareB (mm : Int) es = false) :
    ∃ n : Nat, leastA (mm : Int) es = ((n : Int), 0) ∧ n ≤ 41 ∧ (n = 0 ↔ mm = 0) ∧ (0 < n → ∃ l, Elim (es.map ofTo) (n : Int) (2 ^ mm - 1) 0 l) ∧ (∀ j : Nat, 1 ≤ j → j < n → ¬ ∃ l, Elim (es.map ofTo) (j : Int) (2 ^ mm - 1) 0 l) := by
  have hbe : beginE (mm : Int) es 1 = 0 := by rw [begin_bare h (Int.le_refl _), hb]; rfl
  by_cases h0 : mm = 0
  · subst h0
    have hne : ¬ beginE ((0 : Nat) : Int) es 1 ≠ 0 := fun hh => hh hbe
    exact ⟨0, by rw [leastA, if_neg hne, if_pos (show ((0 : Nat) : Int) = 0 from rfl)]; rfl, by omega, by simp, by simp, fun j h1 h2 => by omega⟩
  · obtain ⟨s1, s2, s3, s4⟩ := leastX_spec (by omega) hbe
    refine ⟨leastX (mm : Int) es, by rw [leastA, if_neg (by rw [hbe]; simp), if_neg (by omega)], s2, by omega, fun _ => ?_, fun j hj1 hj2 => ?_⟩
    · rcases of_law (most := (leastX (mm : Int) es : Nat)) h (by omega) hb with hl | hl
      · exact hl.2.2.2
      · exact absurd hl.1 s4
    · rcases of_law (most := (j : Nat)) h (by omega) hb with hl | hl
      · have := s3 j hj1 hj2
        rw [hl.1] at this; cases this
      · exact hl.2.2
end Go.Proofs.YtceiaekkfabeaaaDoor

/- The first bag that has an edge's vertices; the law's own 'all'. -/
namespace Go.Proofs.YtceiaekkfabeaaaDoor
open Go.RowKit Pl

set_option maxHeartbeats 1000000 in
theorem idxBags_any {P : Nat → Prop} (g : Nat) (hg : Enters g) (caps : Array Value) (f : Bag → Bool) (v : Value) (S : List Bag) (w : World) (hv : BagsR P w v S)
    (hf : ∀ (u1 u2 : Value) (s : Bag) (wx : World), Ext No w wx → s ∈ S → IntsR .i64 P wx u1 s.vs → IntsR .i64 P wx u2 s.es → Calls Tryd.prog g (#[.agg #[u1, u2, .int .i64 s.parent]] ++ caps) wx fun e w' => e = .returned (.bool (f s)) ∧ Ext No wx w') :
    Calls Tryd.prog 54 #[v, .func (.func g) #[] caps] w fun e w' => e = .returned (.int .i64 (idxF f S)) ∧ Ext No w w' := by
  obtain ⟨A, c, rfl, hc, hm, hat⟩ := hv.at
  have HAT := Sid.mk hat
  have HF := Sid.mk hf
  clear hat hv hf
  unfold Enters at hg
  go_enter Tryd.func54, Tryd.ntmps54
  go_wp2
  go_loopw [8] (fun i wr => ∃ k : Nat, k ≤ S.length ∧ i = .int .i64 k ∧ Sid (∀ i y, i < k → S[i]? = some y → f y = false) ∧ Sid (Ext No w wr)) (fun i _ => S.length - (intOf i).toNat)
  case atStart => exact ⟨0, Nat.zero_le _, rfl, ⟨fun i y hi => by omega⟩, ⟨Ext.refl _ _⟩⟩
  case round =>
    obtain ⟨k, hk, rfl, HS, HX⟩ := hrel
    by_cases hlt : k < S.length
    · obtain ⟨b, off, A1, c1, A2, c2, vs, es, p, rfl, _, q0, q1, q2, HB, HI1, HI2⟩ := HAT.out k hlt
      have hq0 := HX.out.no q0
      have hq1 := HX.out.no q1
      have hq2 := HX.out.no q2
      clear q0 q1 q2
      cases hb : f ⟨vs, es, p⟩ with
      | true =>
        have HH := Sid.mk hb
        clear hb
        go_wp2_with (refine (HF.out _ _ ⟨vs, es, p⟩ _ HX.out (List.mem_of_getElem? HB.out) (HI1.out.no HX.out) (HI2.out.no HX.out)).mono ?_; rintro e w1 ⟨rfl, hx1⟩; rw [HH.out]; have HX1 := Sid.mk hx1; clear hx1)
        go_ret
        exact ⟨ret_int (idxF_at HS.out HB.out HH.out).symm, HX.out.trans HX1.out⟩
      | false =>
        have HH := Sid.mk hb
        clear hb
        go_wp2_with (refine (HF.out _ _ ⟨vs, es, p⟩ _ HX.out (List.mem_of_getElem? HB.out) (HI1.out.no HX.out) (HI2.out.no HX.out)).mono ?_; rintro e w1 ⟨rfl, hx1⟩; rw [HH.out]; have HX1 := Sid.mk hx1; clear hx1)
        go_roundw
        case rel => exact ⟨k + 1, by omega, by go_num, ⟨fun i y hi hy => by
          by_cases hik : i = k
          · subst hik; rw [HB.out] at hy; cases hy; exact HH.out
          · exact HS.out i y (by omega) hy⟩, ⟨HX.out.trans HX1.out⟩⟩
        case measure => simp [intOf]; omega
    · go_wp2
      go_ret
      exact ⟨ret_int (idxF_none (fun i y hy => HS.out i y (by have := (List.getElem?_eq_some_iff.1 hy).1; omega) hy)).symm, HX.out⟩

set_option maxHeartbeats 1000000 in
theorem idxInts_any {P : Nat → Prop} (g : Nat) (hg : Enters g) (caps : Array Value) (f : Int → Bool) (v : Value) (S : List Int) (w : World) (hv : IntsR .i64 P w v S)
    (hf : ∀ (s : Int) (wx : World), Ext No w wx → s ∈ S → Calls Tryd.prog g (#[.int .i64 s] ++ caps) wx fun e w' => e = .returned (.bool (f s)) ∧ Ext No wx w') :
    Calls Tryd.prog 81 #[v, .func (.func g) #[] caps] w fun e w' => e = .returned (.int .i64 (idxF f S)) ∧ Ext No w w' := by
  obtain ⟨A, c, rfl, _, hm, hat⟩ := hv.at
  have HAT := Sid.mk hat
  have HF := Sid.mk hf
  clear hat hv hf
  unfold Enters at hg
  go_enter Tryd.func81, Tryd.ntmps81
  go_wp2
  go_loopw [8] (fun i wr => ∃ k : Nat, k ≤ S.length ∧ i = .int .i64 k ∧ Sid (∀ i y, i < k → S[i]? = some y → f y = false) ∧ Sid (Ext No w wr)) (fun i _ => S.length - (intOf i).toNat)
  case atStart => exact ⟨0, Nat.zero_le _, rfl, ⟨fun i y hi => by omega⟩, ⟨Ext.refl _ _⟩⟩
  case round =>
    obtain ⟨k, hk, rfl, HS, HX⟩ := hrel
    by_cases hlt : k < S.length
    · obtain ⟨b, off, x, rfl, _, hcell0, HB⟩ := HAT.out k hlt
      have hcell := HX.out.no hcell0
      clear hcell0
      cases hb : f x with
      | true =>
        have HH := Sid.mk hb
        clear hb
        go_wp2_with (refine (HF.out x _ HX.out (List.mem_of_getElem? HB.out)).mono ?_; rintro e w1 ⟨rfl, hx1⟩; rw [HH.out]; have HX1 := Sid.mk hx1; clear hx1)
        go_ret
        exact ⟨ret_int (idxF_at HS.out HB.out HH.out).symm, HX.out.trans HX1.out⟩
      | false =>
        have HH := Sid.mk hb
        clear hb
        go_wp2_with (refine (HF.out x _ HX.out (List.mem_of_getElem? HB.out)).mono ?_; rintro e w1 ⟨rfl, hx1⟩; rw [HH.out]; have HX1 := Sid.mk hx1; clear hx1)
        go_roundw
        case rel => exact ⟨k + 1, by omega, by go_num, ⟨fun i y hi hy => by
          by_cases hik : i = k
          · subst hik; rw [HB.out] at hy; cases hy; exact HH.out
          · exact HS.out i y (by omega) hy⟩, ⟨HX.out.trans HX1.out⟩⟩
        case measure => simp [intOf]; omega
    · go_wp2
      go_ret
      exact ⟨ret_int (idxF_none (fun i y hy => HS.out i y (by have := (List.getElem?_eq_some_iff.1 hy).1; omega) hy)).symm, HX.out⟩
theorem hasInts_any {P : Nat → Prop} (g : Nat) (hg : Enters g) (caps : Array Value) (f : Int → Bool) (v : Value) (S : List Int) (w : World) (hv : IntsR .i64 P w v S)
    (hf : ∀ (s : Int) (wx : World), Ext No w wx → s ∈ S → Calls Tryd.prog g (#[.int .i64 s] ++ caps) wx fun e w' => e = .returned (.bool (f s)) ∧ Ext No wx w') :
    Calls Tryd.prog 56 #[v, .func (.func g) #[] caps] w fun e w' => e = .returned (.bool (S.any f)) ∧ Ext No w w' := by
  obtain ⟨A, c, rfl, _⟩ := hv.at
  have HV := Sid.mk hv
  have HF := Sid.mk hf
  clear hv hf
  go_enter Tryd.func56, Tryd.ntmps56
  go_wp2_with (go_at_call 81; refine (idxInts_any g hg caps f _ S _ HV.out HF.out).mono ?_; rintro e w1 ⟨rfl, hx1⟩; have HX1 := Sid.mk hx1; clear hx1)
  go_ret
  exact ⟨ret_bool idxF_any, HX1.out⟩

set_option maxHeartbeats 1000000 in
theorem index_any {P : Nat → Prop} (v : Value) (S : List Int) (n : Int) (w : World) (hv : IntsR .i64 P w v S) :
    Calls Tryd.prog 58 #[v, .int .i64 n] w fun e w' => e = .returned (.int .i64 (idxF (fun x => n == x) S)) ∧ w = w' := by
  obtain ⟨A, c, rfl, _, hm, hat⟩ := hv.at
  have HAT := Sid.mk hat
  clear hat hv
  go_enter Tryd.func58, Tryd.ntmps58
  go_wp2
  go_loop [8] (fun i => ∃ k : Nat, k ≤ S.length ∧ i = .int .i64 k ∧ Sid (∀ i y, i < k → S[i]? = some y → (n == y) = false)) (fun i => S.length - (intOf i).toNat)
  case atStart => exact ⟨0, Nat.zero_le _, rfl, ⟨fun i y hi => by omega⟩⟩
  case round =>
    obtain ⟨k, hk, rfl, HS⟩ := hrel
    by_cases hlt : k < S.length
    · obtain ⟨b, off, x, rfl, _, hcell, HB⟩ := HAT.out k hlt
      cases hb : n == x with
      | true =>
        have HH := Sid.mk hb
        go_wp2
        go_ret
        exact ⟨ret_int (idxF_at (f := fun x => n == x) HS.out HB.out HH.out).symm, rfl⟩
      | false =>
        have HH := Sid.mk hb
        go_wp2
        go_round
        case rel => exact ⟨k + 1, by omega, by go_num, ⟨fun i y hi hy => by
          by_cases hik : i = k
          · subst hik; rw [HB.out] at hy; cases hy; exact HH.out
          · exact HS.out i y (by omega) hy⟩⟩
        case measure => simp [intOf]; omega
    · go_wp2
      go_ret
      exact ⟨ret_int (idxF_none (f := fun x => n == x) (fun i y hy => HS.out i y (by have := (List.getElem?_eq_some_iff.1 hy).1; omega) hy)).symm, rfl⟩
theorem contains_any {P : Nat → Prop} (v : Value) (S : List Int) (n : Int) (w : World) (hv : IntsR .i64 P w v S) :
    Calls Tryd.prog 26 #[v, .int .i64 n] w fun e w' => e = .returned (.bool (hasB S n)) ∧ w = w' := by
  obtain ⟨A, c, rfl, _⟩ := hv.at
  have HV := Sid.mk hv
  clear hv
  go_enter Tryd.func26, Tryd.ntmps26
  go_wp2_with (go_at_call 58; refine (index_any _ S n _ HV.out).mono ?_; rintro e w1 ⟨rfl, rfl⟩)
  go_ret
  exact ⟨ret_bool (idxF_any.trans (by rw [hasB, List.contains_eq_any_beq])), rfl⟩
theorem enters57 : Enters 57 := fun l w => by kernel_rfl
theorem not_in_any {P : Nat → Prop} (Bx : Nat) (v : Value) (S : List Int) (n : Int) (w : World) (hb : w.cell? ⟨Bx, 0, none⟩ = some v) (hv : IntsR .i64 P w v S) :
    Calls Tryd.prog 57 #[.int .i64 n, .pointer (some ⟨Bx, 0, none⟩)] w fun e w' => e = .returned (.bool (!hasB S n)) ∧ Ext No w w' := by
  obtain ⟨A, c, rfl, _⟩ := hv.at
  have HV := Sid.mk hv
  clear hv
  go_enter Tryd.func57, Tryd.ntmps57
  go_wp2_with (go_at_call 26; refine (contains_any _ S n _ HV.out).mono ?_; rintro e w1 ⟨rfl, rfl⟩)
  go_ret
  exact ⟨rfl, Ext.refl _ _⟩
theorem all_any {P P1 : Nat → Prop} (v u : Value) (l m : List Int) (w : World) (hv : IntsR .i64 P w v l) (hu : IntsR .i64 P1 w u m) :
    Calls Tryd.prog 25 #[v, u] w fun e w' => e = .returned (.bool (withinB l m)) ∧ Ext No w w' := by
  obtain ⟨A, c, rfl, _⟩ := hv.at
  obtain ⟨A1, c1, rfl, _⟩ := hu.at
  have HV := Sid.mk hv
  have HU := Sid.mk hu
  clear hv hu
  have HBX : Sid (∀ w', Ext No (w.alloc (.cells #[.slice A1 m.length c1] 28)) w' → w'.cell? ⟨w.heap.size, 0, none⟩ = some (.slice A1 m.length c1)) := ⟨fun w' hx => hx.no (by simp)⟩
  go_enter Tryd.func25, Tryd.ntmps25
  go_wp2_with (go_at_call 56; refine (hasInts_any 57 enters57 #[.pointer (some ⟨w.heap.size, 0, none⟩)] (fun n => !hasB m n) _ l _ (HV.out.no (ext_box _)) (fun s wx hx _ => not_in_any w.heap.size _ m s wx (HBX.out _ hx) (HU.out.no ((ext_box _).trans hx)))).mono ?_; rintro e w1 ⟨rfl, hx1⟩; have HX1 := Sid.mk hx1; clear hx1)
  go_ret
  refine ⟨ret_bool ?_, (ext_box _).trans HX1.out⟩
  rw [withinB, allB, List.all_eq_not_any_not]

/-- Has a bag all of a set? -/
def homeB (want : Nat) (b : Bag) : Bool := sdn want (ofTo b.vs) == 0
set_option maxHeartbeats 1000000 in
theorem homeIn_any {P : Nat → Prop} (want Bx : Nat) (u1 u2 : Value) (b : Bag) (w : World) (hw : want < 4294967296) (hb : w.cell? ⟨Bx, 0, none⟩ = some (.int .u64 (want : Int))) (h1 : IntsR .i64 P w u1 b.vs) (h2 : IntsR .i64 P w u2 b.es) (hs : smallL b.vs) :
    Calls Tryd.prog 55 #[.agg #[u1, u2, .int .i64 b.parent], .pointer (some ⟨Bx, 0, none⟩)] w fun e w' => e = .returned (.bool (homeB want b)) ∧ Ext No w w' := by
  obtain ⟨A1, c1, rfl, _⟩ := h1.at
  obtain ⟨A2, c2, rfl, _⟩ := h2.at
  have H1 := Sid.mk h1
  have HS := Sid.mk hs
  have hd : (bits .andNot .u64 (want : Int) (ofTo b.vs : Int) == 0) = homeB want b := by
    rw [andNot_u64 hw (ofTo_lt hs), homeB]
    cases h : sdn want (ofTo b.vs) == 0 with
    | true => rw [beq_iff_eq] at h; rw [h]; rfl
    | false => rw [beq_eq_false_iff_ne] at h ⊢; omega
  have hbw := (ext_box (w := w) (.cells #[.slice A1 b.vs.length c1, .slice A2 b.es.length c2, .int .i64 b.parent] 51)).no hb
  clear h1 h2 hs hb
  go_enter Tryd.func55, Tryd.ntmps55
  go_wp2
  go_quiet ((go_at_call 34; exact Calls.quiet_of_same ((of_any _ b.vs _ (H1.out.no ((ext_box _).drewN _)) HS.out).mono (fun _ _ h => ⟨h.1, h.2.symm⟩))))
  go_wp2
  go_ret
  exact ⟨rfl, (ext_box _).drewN _⟩

/-- What Home answers: the place, the error. -/
def homeA (many : Int) (es : List (List Int)) (bs : List Bag) (edge : Int) : Int × Int :=
  if checkE many es bs ≠ 0 then (0, checkE many es bs) else if edge < 0 ∨ (es.length : Int) ≤ edge then (0, 2) else (idxF (homeB (ofTo (edgeAt es edge))) bs, 0)
theorem checkE_ok {many : Int} {es : List (List Int)} {bs : List Bag} (h : checkE many es bs = 0) : hyperB many es = true ∧ shapedB many es.length bs = true ∧ ∀ b ∈ bs, smallL b.vs := by
  have h1 : hyperB many es = true := by
    cases hh : hyperB many es with
    | true => rfl
    | false => rw [checkE, if_pos hh] at h; cases h
  have h2 : shapedB many es.length bs = true := by
    cases hh : shapedB many es.length bs with
    | true => rfl
    | false => rw [checkE, if_neg (by simp [h1]), if_pos hh] at h; cases h
  refine ⟨h1, h2, fun b hb => ?_⟩
  simp only [shapedB, Bool.and_eq_true, decide_eq_true_eq] at h2
  obtain ⟨i, hi⟩ := List.mem_iff_getElem?.1 hb
  have := allI_iff.1 h2.2 i b hi
  simp only [bagFormB, Bool.and_eq_true, decide_eq_true_eq, Nat.zero_add] at this
  exact risesB_small this.1.1.1 (hyperB_parts h1).2.1
set_option maxHeartbeats 4000000 in
set_option maxRecDepth 100000 in
theorem Home_any {P P1 : Nat → Prop} (many : Int) (ev bv : Value) (es : List (List Int)) (bs : List Bag) (edge : Int) (w : World) (he : RowsR P w ev es) (hv : BagsR P1 w bv bs) :
    Calls Tryd.prog 24 #[.agg #[.int .i64 many, ev], bv, .int .i64 edge] w fun e w' => e = .returned (.tuple #[.int .i64 (homeA many es bs edge).1, .int .i64 (homeA many es bs edge).2]) ∧ Ext No w w' := by
  obtain ⟨A, c, rfl, hc, hm, hat⟩ := he.at
  obtain ⟨A1, c1, rfl, _⟩ := hv.at
  have HE := Sid.mk he
  have HV := Sid.mk hv
  have HAT := Sid.mk hat
  clear hat he hv
  have HB0 : Sid (∀ w', Ext No (w.alloc (.cells #[.int .i64 many, .slice A es.length c] 24)) w' → w'.cell? ⟨w.heap.size, 0, none⟩ = some (.int .i64 many) ∧ w'.cell? ⟨w.heap.size, 1, none⟩ = some (.slice A es.length c)) := ⟨fun w' hx => ⟨hx.no (by simp), hx.no (by simp)⟩⟩
  by_cases hce : checkE many es bs = 0
  · obtain ⟨g1, g2, g3⟩ := checkE_ok hce
    have HSB := Sid.mk g3
    have HSE : Sid (smallE es) := ⟨hyperB_small g1⟩
    have HCE := Sid.mk hce
    by_cases h0 : edge < 0
    · have HA : Sid (homeA many es bs edge = (0, 2)) := ⟨by rw [homeA, if_neg (by simp [hce]), if_pos (Or.inl h0)]⟩
      clear hce g1 g2 g3
      go_enter Tryd.func24, Tryd.ntmps24
      go_wp2_with (go_at_call 23; refine (Check_any many _ _ es bs _ (HE.out.no (ext_box _)) (HV.out.no (ext_box _))).mono ?_; rintro e w1 ⟨rfl, hx1⟩; rw [HCE.out]; have q0 := (HB0.out _ hx1).1; have q1 := (HB0.out _ hx1).2; have HX1 := Sid.mk hx1; clear hx1)
      go_ret2
      exact ⟨ret_pair (by simp only [HA.out]; rfl) (by simp only [HA.out]; rfl), (ext_box _).trans HX1.out⟩
    · by_cases h1 : (es.length : Int) ≤ edge
      · have HA : Sid (homeA many es bs edge = (0, 2)) := ⟨by rw [homeA, if_neg (by simp [hce]), if_pos (Or.inr h1)]⟩
        clear hce g1 g2 g3
        go_enter Tryd.func24, Tryd.ntmps24
        go_wp2_with (go_at_call 23; refine (Check_any many _ _ es bs _ (HE.out.no (ext_box _)) (HV.out.no (ext_box _))).mono ?_; rintro e w1 ⟨rfl, hx1⟩; rw [HCE.out]; have q0 := (HB0.out _ hx1).1; have q1 := (HB0.out _ hx1).2; have HX1 := Sid.mk hx1; clear hx1)
        go_ret2
        exact ⟨ret_pair (by simp only [HA.out]; rfl) (by simp only [HA.out]; rfl), (ext_box _).trans HX1.out⟩
      · obtain ⟨n, rfl⟩ := Int.eq_ofNat_of_zero_le (by omega : 0 ≤ edge)
        have hnl : n < es.length := by omega
        obtain ⟨b, off, A', c', r, rfl, _, hcell0, HR', HI'⟩ := HAT.out n hnl
        have HEA : Sid (edgeAt es (n : Int) = r) := ⟨edgeAt_of rfl HR'.out⟩
        have HA : Sid (homeA many es bs (n : Int) = (idxF (homeB (ofTo r)) bs, 0)) := ⟨by rw [homeA, if_neg (by simp [hce]), if_neg (by omega), HEA.out]⟩
        have HSM : Sid (smallL r) := ⟨HSE.out r (List.mem_of_getElem? HR'.out)⟩
        have HC0 := Sid.mk hcell0
        clear hce g1 g2 g3 hcell0
        go_enter Tryd.func24, Tryd.ntmps24
        go_wp2_with (first
          | (go_at_call 23; refine (Check_any many _ _ es bs _ (HE.out.no (ext_box _)) (HV.out.no (ext_box _))).mono ?_; rintro e w1 ⟨rfl, hx1⟩; rw [HCE.out]; have q0 := (HB0.out _ hx1).1; have q1 := (HB0.out _ hx1).2; have q2 := ((ext_box _).trans hx1).no HC0.out; have HX1 : Sid (Ext No w w1) := ⟨(ext_box _).trans hx1⟩; clear hx1)
          | (go_at_call 34; refine (of_any _ r _ (HI'.out.no HX1.out) HSM.out).mono ?_; rintro e w2 ⟨rfl, rfl⟩)
          | (go_at_call 54; refine (idxBags_any 55 enters55 #[.pointer (some ⟨w1.heap.size, 0, none⟩)] (homeB (ofTo r)) _ bs _ (HV.out.no (HX1.out.trans (ext_box _))) (fun u1 u2 s wx hx hs h1 h2 => homeIn_any (ofTo r) w1.heap.size u1 u2 s wx (ofTo_lt HSM.out) (hx.no (by simp)) h1 h2 (HSB.out s hs))).mono ?_; rintro e w3 ⟨rfl, hx3⟩; have HX3 := Sid.mk hx3; clear hx3))
        go_ret2
        exact ⟨ret_pair (by simp only [HA.out]; rfl) (by simp only [HA.out]; rfl), HX1.out.trans ((ext_box _).trans HX3.out)⟩
  · have HA : Sid (homeA many es bs edge = (0, checkE many es bs)) := ⟨by rw [homeA, if_pos hce]⟩
    have hne : (checkE many es bs != 0) = true := by simpa using hce
    clear hce
    go_enter Tryd.func24, Tryd.ntmps24
    go_wp2_with (go_at_call 23; refine (Check_any many _ _ es bs _ (HE.out.no (ext_box _)) (HV.out.no (ext_box _))).mono ?_; rintro e w1 ⟨rfl, hx1⟩; have HX1 := Sid.mk hx1; clear hx1)
    go_ret2
    exact ⟨ret_pair (by simp only [HA.out]; rfl) (by simp only [HA.out]; rfl), (ext_box _).trans HX1.out⟩
end Go.Proofs.YtceiaekkfabeaaaDoor

/- Where edges are at home in bags that may be; who climbs from a bag comes to the one top of a vertex. -/
namespace Go.Proofs.YtceiaekkfabeaaaDoor
open Go.RowKit Pl

theorem one_idx {α : Type} {p : α → Bool} : ∀ {l : List α}, (l.filter p).length = 1 → ∃ (t : Nat) (x : α), l[t]? = some x ∧ p x = true ∧ ∀ (i : Nat) (y : α), l[i]? = some y → p y = true → i = t
  | [], h => by simp at h
  | x :: l, h => by
    cases hp : p x with
    | true =>
      rw [List.filter_cons_of_pos hp, List.length_cons] at h
      have h0 : l.filter p = [] := List.eq_nil_of_length_eq_zero (by omega)
      refine ⟨0, x, rfl, hp, fun i y hi hy => ?_⟩
      cases i with
      | zero => rfl
      | succ i =>
        rw [List.getElem?_cons_succ] at hi
        have : y ∈ l.filter p := List.mem_filter.2 ⟨List.mem_of_getElem? hi, hy⟩
        rw [h0] at this; simp at this
    | false =>
      rw [List.filter_cons_of_neg (by simp [hp])] at h
      obtain ⟨t, z, h1, h2, h3⟩ := one_idx h
      refine ⟨t + 1, z, by rw [List.getElem?_cons_succ]; exact h1, h2, fun i y hi hy => ?_⟩
      cases i with
      | zero => rw [List.getElem?_cons_zero] at hi; cases hi; rw [hp] at hy; cases hy
      | succ i => rw [List.getElem?_cons_succ] at hi; rw [h3 i y hi hy]
/-- Bags that may be: a vertex has one top. -/
theorem right_top {many : Int} {es : List (List Int)} {L : List Bag} (h : rightB many es L = true) {v : Int} (h0 : 0 ≤ v) (h1 : v < many) :
    ∃ (t : Nat) (x : Bag), L[t]? = some x ∧ topB L v x = true ∧ ∀ (i : Nat) (y : Bag), L[i]? = some y → topB L v y = true → i = t := by
  simp only [rightB, Bool.and_eq_true] at h
  have h2 := h.2
  rw [allB, List.all_eq_true] at h2
  have h3 := h2 v (mem_vertsL.2 ⟨h0, h1⟩)
  rw [decide_eq_true_eq, topsN] at h3
  exact one_idx (by omega)
theorem top_has {L : List Bag} {v : Int} {b : Bag} (h : topB L v b = true) : hasB b.vs v = true := by
  rw [topB, Bool.and_eq_true] at h; exact h.1
/-- What right bags are, one by one. -/
theorem right_form {many : Int} {es : List (List Int)} {L : List Bag} (h : rightB many es L = true) {i : Nat} {b : Bag} (hb : L[i]? = some b) : -1 ≤ b.parent ∧ b.parent < i := by
  simp only [rightB, Bool.and_eq_true] at h
  have := allI_iff.1 h.1.1.2 i b hb
  simp only [bagFormB, Bool.and_eq_true, decide_eq_true_eq, Nat.zero_add] at this
  exact ⟨this.1.1.2, this.1.2⟩
theorem right_len {many : Int} {es : List (List Int)} {L : List Bag} (h : rightB many es L = true) : L.length ≤ 64 := by
  simp only [rightB, Bool.and_eq_true, decide_eq_true_eq] at h
  exact h.1.1.1
theorem right_check {many : Int} {es : List (List Int)} {L : List Bag} (h : hyperB many es = true) (hr : rightB many es L = true) : checkE many es L = 0 := by
  rw [check_law h, hr]; rfl
/-- Each edge is at home in a bag. -/
theorem right_home {many : Int} {es : List (List Int)} {L : List Bag} (h : hyperB many es = true) (hr : rightB many es L = true) {n : Nat} {r : List Int} (hn : es[n]? = some r) :
    ∃ (J : Nat) (b : Bag), L[J]? = some b ∧ withinB r b.vs = true ∧ homeA many es L (n : Int) = ((J : Int), 0) := by
  have hc := right_check h hr
  obtain ⟨g1, g2, g3⟩ := checkE_ok hc
  obtain ⟨_, hs⟩ := shaped_bags g2
  have hnn := hyper_nonneg h r (List.mem_of_getElem? hn)
  have hR := hr
  simp only [rightB, Bool.and_eq_true] at hR
  have h1 := hR.1.2
  rw [allB, List.all_eq_true] at h1
  have h2 := h1 r (List.mem_of_getElem? hn)
  have hsame : ∀ b ∈ L, homeB (ofTo r) b = withinB r b.vs := fun b hb => by
    obtain ⟨i, hi⟩ := List.mem_iff_getElem?.1 hb
    exact sub_within hnn (rises_nonneg (hs i b hi).1)
  have hnl := (List.getElem?_eq_some_iff.1 hn).1
  have hA : homeA many es L (n : Int) = (idxF (homeB (ofTo r)) L, 0) := by
    rw [homeA, if_neg (by rw [hc]; decide), if_neg (by omega), edgeAt_of rfl hn]
  rw [hA]
  have hany : L.any (homeB (ofTo r)) = true := by
    rw [anyB, List.any_eq_true] at h2
    obtain ⟨b, hb, hw⟩ := h2
    exact List.any_eq_true.2 ⟨b, hb, by rw [hsame b hb]; exact hw⟩
  cases hf : L.findIdx? (homeB (ofTo r)) with
  | none =>
    rw [List.findIdx?_eq_none_iff] at hf
    obtain ⟨b, hb, hw⟩ := List.any_eq_true.1 hany
    rw [hf b hb] at hw; cases hw
  | some J =>
    obtain ⟨hJ, hJ1, _⟩ := List.findIdx?_eq_some_iff_getElem.1 hf
    refine ⟨J, L[J], List.getElem?_eq_getElem hJ, ?_, ?_⟩
    · rw [← hsame _ (List.getElem_mem hJ)]; exact hJ1
    · rw [idxF, hf]
/-- What Of answers, from 1 on. -/
theorem of_any_law {many : Int} {es : List (List Int)} {most : Int} (hm : 1 ≤ most) :
    (∃ E, ofA many es most = (E, []) ∧ E ≠ 0) ∨ (∃ L, ofA many es most = (0, L) ∧ hyperB many es = true ∧ rightB many es L = true ∧ widthTo 0 L ≤ most) := by
  cases h : hyperB many es with
  | false =>
    left
    have hb : beginE many es most = 300 := by rw [beginE, if_pos h]
    exact ⟨300, by rw [ofA, if_pos (by rw [hb]; decide), hb], by decide⟩
  | true =>
    obtain ⟨mm, rfl⟩ := Int.eq_ofNat_of_zero_le (hyperB_parts h).1
    cases hb : bareB (mm : Int) es with
    | true =>
      left
      have hb' : beginE (mm : Int) es most = 4 := by rw [begin_bare h hm, hb]; rfl
      exact ⟨4, by rw [ofA, if_pos (by rw [hb']; decide), hb'], by decide⟩
    | false =>
      rcases of_law h hm hb with hl | hl
      · exact Or.inr ⟨_, Prod.ext hl.1 rfl, rfl, hl.2.1, hl.2.2.1⟩
      · exact Or.inl ⟨4, Prod.ext hl.1 hl.2.1, by decide⟩

/-- The tops that the bags so far come to. -/
def topF (L : List Bag) (v : Int) (t : Nat) (k : Nat) : Int → Option Value := if (L.take k).any (fun b => hasB b.vs v) = true then upd (fun _ => none) (t : Int) (.int .i64 1) else fun _ => none
theorem topF_zero (L : List Bag) (v : Int) (t : Nat) : topF L v t 0 = fun _ => none := by
  rw [topF, if_neg (by simp)]
theorem topF_no {L : List Bag} {v : Int} {t k : Nat} {b : Bag} (hb : L[k]? = some b) (h : hasB b.vs v = false) : topF L v t (k + 1) = topF L v t k := by
  have : (L.take (k + 1)).any (fun b => hasB b.vs v) = (L.take k).any (fun b => hasB b.vs v) := by
    have := anyB_succ (f := fun b : Bag => hasB b.vs v) hb
    rw [anyB, anyB, h, Bool.or_false] at this; exact this
  rw [topF, topF, this]
theorem topF_yes {L : List Bag} {v : Int} {t k : Nat} {b : Bag} (hb : L[k]? = some b) (h : hasB b.vs v = true) : topF L v t (k + 1) = upd (topF L v t k) (t : Int) (.int .i64 1) := by
  have : (L.take (k + 1)).any (fun b => hasB b.vs v) = true := by
    have := anyB_succ (f := fun b : Bag => hasB b.vs v) hb
    rw [anyB, anyB, h, Bool.or_true] at this; exact this
  rw [topF, if_pos this, topF]
  funext x
  unfold upd
  split
  · rfl
  · split <;> simp_all
theorem topF_all {L : List Bag} {v : Int} {t : Nat} {b : Bag} (hb : L[t]? = some b) (h : hasB b.vs v = true) : topF L v t L.length = upd (fun _ => none) (t : Int) (.int .i64 1) := by
  rw [topF, if_pos]
  rw [List.take_length]
  exact List.any_eq_true.2 ⟨b, List.mem_of_getElem? hb, h⟩
/-- A map that reads as one key has one entry. -/
theorem MapF.one {q : IntKind} {w : World} {M : Nat} {x : Int} {v : Value} (h : MapF q (upd (fun _ => none) x v) w M) : ∃ es clock, w.heap[M]? = some (.map es clock) ∧ es.size = 1 := by
  obtain ⟨es, clock, hb, h1, h2, h3⟩ := h
  refine ⟨es, clock, hb, ?_⟩
  have hk : ∀ e ∈ es.toList, e.key = .int q x := fun e he => by
    obtain ⟨y, hy, hf⟩ := h1 e he
    by_cases hyx : y = x
    · rw [hy, hyx]
    · simp [upd, hyx] at hf
  obtain ⟨e, he, _⟩ := h2 x v (by simp [upd])
  rw [← Array.length_toList]
  cases hl : es.toList with
  | nil => rw [hl] at he; simp at he
  | cons a l =>
    cases l with
    | nil => rfl
    | cons b l =>
      rw [hl] at h3 hk
      have h4 := (List.pairwise_cons.1 h3).1 b (by simp)
      exact absurd ((hk a (by simp)).trans (hk b (by simp)).symm) h4
end Go.Proofs.YtceiaekkfabeaaaDoor
