/- Words and contracts for: DecompAcyclic: for every hypergraph the law answers true, and its arguments read as before. No condition; the library's table math/bits.deBruijn64tab is laid by its text. -/
import Derived.Test.YtceiaekkfabeaaaDoorZyj
/- Orders in which vertices are taken away: of parts, and of all. -/
namespace Go.Proofs.YtceiaekkfabeaaaDoor
open Go.RowKit Pl

/-- Vertices of T are taken away, one behind the other, behind those that are gone, each with little around it; none is left. -/
def Elim (S : List Nat) (most : Int) (T : Nat) : Nat → List Nat → Prop
  | gone, [] => ∀ u, T.testBit u = true → gone.testBit u = true
  | gone, v :: l => v < 32 ∧ T.testBit v = true ∧ gone.testBit v = false ∧ (covLen S (arF S v gone) : Int) ≤ most ∧ Elim S most T (gone ||| 2 ^ v) l
theorem or_pow_bit (g v i : Nat) : (g ||| 2 ^ v).testBit i = (g.testBit i || decide (v = i)) := by rw [Nat.testBit_or, Nat.testBit_two_pow]
theorem goN_elim {S : List Nat} {part : Nat} {most : Int} : ∀ (f gone : Nat) (l : List Int), (∀ i, gone.testBit i = true → part.testBit i = true) → goN S part most f gone = some l → Elim S most part gone (l.map Int.toNat)
  | 0, gone, l, _, h => by
    rw [goN_zero] at h
    split at h
    · rename_i he
      simp only [Option.some.injEq] at h; subst h; subst he
      exact fun u hu => hu
    · cases h
  | f + 1, gone, l, hg, h => by
    rw [goN_succ] at h
    split at h
    · rename_i he
      simp only [Option.some.injEq] at h; subst h; subst he
      exact fun u hu => hu
    · obtain ⟨x, hx, hgv⟩ := List.exists_of_findSome?_eq_some h
      obtain ⟨v, rfl, hv⟩ := membersL_mem.1 hx
      obtain ⟨hv1, hv2⟩ := membersN_mem.1 hv
      rw [sdn_testBit, Bool.and_eq_true, Bool.not_eq_true'] at hv2
      rw [goV] at hgv
      split at hgv
      · cases hgv
      · rename_i hc
        rw [Option.map_eq_some_iff] at hgv
        obtain ⟨l', hl', rfl⟩ := hgv
        rw [Int.toNat_natCast] at hc hl'
        rw [List.map_cons, Int.toNat_natCast]
        exact ⟨hv1, hv2.1, hv2.2, by omega, goN_elim f _ l' (fun i hi => by
          rw [or_pow_bit, Bool.or_eq_true, decide_eq_true_eq] at hi
          rcases hi with hi | rfl
          · exact hg i hi
          · exact hv2.1) hl'⟩
theorem elim_goN {S : List Nat} {part : Nat} {most : Int} (hp : part < 4294967296) : ∀ (l : List Nat) (f gone : Nat), (membersN (sdn part gone)).length ≤ f → (∀ i, gone.testBit i = true → part.testBit i = true) → Elim S most part gone l → ∃ l', goN S part most f gone = some l'
  | [], f, gone, _, hg, h => by
    have he : gone = part := by
      apply Nat.eq_of_testBit_eq
      intro i
      cases h1 : gone.testBit i with
      | true => exact (hg i h1).symm
      | false =>
        cases h2 : part.testBit i with
        | false => rfl
        | true => have := h i h2; rw [h1] at this; cases this
    refine ⟨[], ?_⟩
    cases f with
    | zero => rw [goN_zero, if_pos he]
    | succ f => rw [goN_succ, if_pos he]
  | v :: l, f, gone, hf, hg, ⟨h1, h2, h3, h4, h5⟩ => by
    have hmem : v ∈ membersN (sdn part gone) := membersN_mem.2 ⟨h1, by rw [sdn_testBit, h2, h3]; rfl⟩
    have hd := membersN_drop hmem
    obtain ⟨f, rfl⟩ : ∃ q, f = q + 1 := ⟨f - 1, by omega⟩
    obtain ⟨l', hl'⟩ := elim_goN hp l f (gone ||| 2 ^ v) (by rw [sdn_or]; omega) (fun i hi => by
      rw [or_pow_bit, Bool.or_eq_true, decide_eq_true_eq] at hi
      rcases hi with hi | rfl
      · exact hg i hi
      · exact h2) h5
    have hne : gone ≠ part := fun he => by rw [he, h2] at h3; cases h3
    rw [goN_succ, if_neg hne]
    cases hfs : (membersL (sdn part gone)).findSome? (goV S part most f gone) with
    | some r => exact ⟨r, rfl⟩
    | none =>
      rw [List.findSome?_eq_none_iff] at hfs
      have := hfs (v : Int) (membersL_mem.2 ⟨v, rfl, hmem⟩)
      rw [goV, Int.toNat_natCast, if_neg (by omega), hl'] at this
      cases this
theorem goX_iff {S : List Nat} {part : Nat} {most : Int} (hp : part < 4294967296) : (∃ l, goX S part most 0 = some l) ↔ ∃ l, Elim S most part 0 l := by
  constructor
  · rintro ⟨l, h⟩
    exact ⟨_, goN_elim 32 0 l (fun i hi => by simp at hi) h⟩
  · rintro ⟨l, h⟩
    exact elim_goN hp l 32 0 (membersN_len _) (fun i hi => by simp at hi) h

/-! ### Parts -/
/-- No edge leads out. -/
def Closed (S : List Nat) (p : Nat) : Prop := ∀ e ∈ S, e &&& p ≠ 0 → ∀ i, e.testBit i = true → p.testBit i = true
theorem Con.inside {S : List Nat} {p gone v w : Nat} (hc : Closed S p) (hv : p.testBit v = true) (h : Con S gone v w) : p.testBit w = true ∧ Con S (gone &&& p) v w := by
  have hadj : ∀ {u w}, p.testBit u = true → Adj S u w → p.testBit w = true := fun hu h => by
    obtain ⟨e, he, e1, e2⟩ := h
    exact hc e he (and_ne.2 ⟨_, e1, hu⟩) _ e2
  induction h with
  | one h => exact ⟨hadj hv h, .one h⟩
  | step _ hx h ih => exact ⟨hadj ih.1 h, .step ih.2 (by rw [Nat.testBit_and, hx, ih.1]; rfl) h⟩
theorem arF_local {S : List Nat} (hS : smallS S) {p v g g' : Nat} (hc : Closed S p) (hv32 : v < 32) (hv : p.testBit v = true) (hg : ∀ i, p.testBit i = true → g.testBit i = g'.testBit i) : arF S v g = arF S v g' := by
  have key : ∀ {g g' : Nat}, (∀ i, p.testBit i = true → g.testBit i = g'.testBit i) → ∀ w, (arF S v g).testBit w = true → (arF S v g').testBit w = true := fun {g g'} hg w hw => by
    rw [arF_iff hS hv32] at hw ⊢
    rcases hw with rfl | ⟨h1, h2⟩
    · exact Or.inl rfl
    · obtain ⟨hw, hcon⟩ := Con.inside hc hv h2
      refine Or.inr ⟨by rw [← hg w hw]; exact h1, hcon.mono fun i hi => ?_⟩
      rw [Nat.testBit_and, Bool.and_eq_true] at hi
      rw [← hg i hi.2]; exact hi.1
  apply Nat.eq_of_testBit_eq
  intro w
  rw [Bool.eq_iff_iff]
  exact ⟨key hg w, key (fun i hi => (hg i hi).symm) w⟩
/-- Of an order of more, what lies in a part. -/
theorem Elim.part {S : List Nat} (hS : smallS S) {most : Int} {T p : Nat} (hc : Closed S p) (hpT : ∀ i, p.testBit i = true → T.testBit i = true) : ∀ (l : List Nat) (gone : Nat), Elim S most T gone l → Elim S most p (gone &&& p) (l.filter fun v => p.testBit v)
  | [], gone, h => fun u hu => by rw [Nat.testBit_and, h u (hpT u hu), hu]; rfl
  | v :: l, gone, ⟨h1, h2, h3, h4, h5⟩ => by
    have ih := Elim.part hS hc hpT l (gone ||| 2 ^ v) h5
    rw [List.filter_cons]
    cases hv : p.testBit v with
    | false =>
      have : (gone ||| 2 ^ v) &&& p = gone &&& p := by
        apply Nat.eq_of_testBit_eq
        intro i
        rw [Nat.testBit_and, or_pow_bit, Nat.testBit_and]
        by_cases hvi : v = i
        · subst hvi; simp [hv]
        · simp [hvi]
      rw [this] at ih
      simpa using ih
    | true =>
      have : (gone ||| 2 ^ v) &&& p = (gone &&& p) ||| 2 ^ v := by
        apply Nat.eq_of_testBit_eq
        intro i
        rw [Nat.testBit_and, or_pow_bit, or_pow_bit, Nat.testBit_and]
        by_cases hvi : v = i
        · subst hvi; simp [hv]
        · simp [hvi]
      rw [this] at ih
      rw [if_pos rfl]
      refine ⟨h1, hv, by rw [Nat.testBit_and, h3]; rfl, ?_, ih⟩
      rw [arF_local hS hc h1 hv (g' := gone) (fun i hi => by rw [Nat.testBit_and, hi, Bool.and_true])]
      exact h4
/-- A part's order ahead of an order of the rest. -/
theorem Elim.join {S : List Nat} (hS : smallS S) {most : Int} {T p G : Nat} (hc : Closed S p) (hpT : ∀ i, p.testBit i = true → T.testBit i = true) (hG : ∀ i, p.testBit i = true → G.testBit i = false) {l2 : List Nat} (h2 : Elim S most T (G ||| p) l2) :
    ∀ (l : List Nat) (g : Nat), (∀ i, g.testBit i = true → p.testBit i = true) → Elim S most p g l → Elim S most T (G ||| g) (l ++ l2)
  | [], g, hg, h => by
    have : G ||| g = G ||| p := by
      apply Nat.eq_of_testBit_eq
      intro i
      rw [Nat.testBit_or, Nat.testBit_or]
      cases hp : p.testBit i with
      | true => rw [h i hp]
      | false =>
        cases hgi : g.testBit i with
        | false => rfl
        | true => have := hg i hgi; rw [hp] at this; cases this
    rw [this, List.nil_append]; exact h2
  | v :: l, g, hg, ⟨a1, a2, a3, a4, a5⟩ => by
    refine ⟨a1, hpT v a2, by rw [Nat.testBit_or, hG v a2, a3]; rfl, ?_, ?_⟩
    · rw [arF_local hS hc a1 a2 (g' := g) (fun i hi => by rw [Nat.testBit_or, hG i hi, Bool.false_or])]
      exact a4
    · have ih := Elim.join hS hc hpT hG h2 l (g ||| 2 ^ v) (fun i hi => by
        rw [or_pow_bit, Bool.or_eq_true, decide_eq_true_eq] at hi
        rcases hi with hi | rfl
        · exact hg i hi
        · exact a2) a5
      rwa [← Nat.or_assoc] at ih
/-- Parts, each apart from those ahead of it. -/
def Apart (S : List Nat) : Nat → List Nat → Prop
  | _, [] => True
  | G, p :: ps => Closed S p ∧ (∀ i, p.testBit i = true → G.testBit i = false) ∧ Apart S (G ||| p) ps
theorem Apart.snoc {S : List Nat} {p : Nat} : ∀ (ps : List Nat) (G : Nat), Apart S G ps → Closed S p → (∀ i, p.testBit i = true → (ps.foldl (· ||| ·) G).testBit i = false) → Apart S G (ps ++ [p])
  | [], G, _, hc, hd => ⟨hc, hd, trivial⟩
  | q :: ps, G, ⟨h1, h2, h3⟩, hc, hd => ⟨h1, h2, Apart.snoc ps (G ||| q) h3 hc hd⟩
theorem Elim.parts {S : List Nat} (hS : smallS S) {most : Int} {T : Nat} : ∀ (ps : List Nat) (G : Nat), Apart S G ps → (∀ p ∈ ps, (∀ i, p.testBit i = true → T.testBit i = true) ∧ ∃ l, Elim S most p 0 l) → (∀ u, T.testBit u = true → (ps.foldl (· ||| ·) G).testBit u = true) → ∃ l, Elim S most T G l
  | [], G, _, _, hT => ⟨[], hT⟩
  | p :: ps, G, ⟨h1, h2, h3⟩, he, hT => by
    obtain ⟨l2, hl2⟩ := Elim.parts hS ps (G ||| p) h3 (fun q hq => he q (by simp [hq])) hT
    obtain ⟨hpT, l, hl⟩ := he p (by simp)
    have := Elim.join hS h1 hpT h2 hl2 l 0 (fun i hi => by simp at hi) hl
    rw [Nat.or_zero] at this
    exact ⟨l ++ l2, this⟩
theorem growF_closed {S : List Nat} (hS : smallS S) : ∀ (n p : Nat), 33 ≤ (membersN p).length + n → Closed S (growF S n p)
  | 0, p, h => by have := membersN_len p; omega
  | n + 1, p, h => by
    rw [growF]
    cases hf : S.find? (meetsB p) with
    | none =>
      rw [List.find?_eq_none] at hf
      intro e he hne i hi
      have := hf e he
      simp only [meetsB, Bool.and_eq_true, bne_iff_ne, ne_eq, not_and, Decidable.not_not] at this
      have h0 := this hne
      exact sdn_zero.1 h0 i hi
    | some s =>
      have h1 := members_or_len (hS s (List.mem_of_find?_eq_some hf)) (List.find?_some hf)
      exact growF_closed hS n (p ||| s) (by omega)
theorem growF_keeps {S : List Nat} (i : Nat) : ∀ (n p : Nat), p.testBit i = true → (growF S n p).testBit i = true
  | 0, p, h => h
  | n + 1, p, h => by
    rw [growF]
    cases hf : S.find? (meetsB p) with
    | none => exact h
    | some s => exact growF_keeps i n (p ||| s) (by rw [Nat.testBit_or, h]; rfl)
theorem growF_apart {S : List Nat} {M : Nat} (hM : Closed S M) : ∀ (n p : Nat), (∀ i, p.testBit i = true → M.testBit i = false) → ∀ i, (growF S n p).testBit i = true → M.testBit i = false
  | 0, p, h => h
  | n + 1, p, h => by
    rw [growF]
    cases hf : S.find? (meetsB p) with
    | none => exact h
    | some s =>
      refine growF_apart hM n (p ||| s) fun i hi => ?_
      rw [Nat.testBit_or, Bool.or_eq_true] at hi
      rcases hi with hi | hi
      · exact h i hi
      · have hm := List.find?_some hf
        simp only [meetsB, Bool.and_eq_true, bne_iff_ne, ne_eq] at hm
        obtain ⟨j, hj1, hj2⟩ := and_ne.1 hm.1
        rw [Bool.eq_false_iff]
        intro hMi
        have := hM s (List.mem_of_find?_eq_some hf) (and_ne.2 ⟨i, hi, hMi⟩) j hj1
        rw [h j hj2] at this; cases this
theorem closed_or {S : List Nat} {a b : Nat} (ha : Closed S a) (hb : Closed S b) : Closed S (a ||| b) := fun e he hne i hi => by
  obtain ⟨j, hj1, hj2⟩ := and_ne.1 hne
  rw [Nat.testBit_or, Bool.or_eq_true] at hj2
  rw [Nat.testBit_or, Bool.or_eq_true]
  rcases hj2 with hj2 | hj2
  · exact Or.inl (ha e he (and_ne.2 ⟨j, hj1, hj2⟩) i hi)
  · exact Or.inr (hb e he (and_ne.2 ⟨j, hj1, hj2⟩) i hi)
/-- What the parts are. -/
theorem partsF_spec {S : List Nat} (hS : smallS S) : ∀ n, n ≤ 32 → Apart S 0 (partsF S n).1 ∧ (partsF S n).1.foldl (· ||| ·) 0 = (partsF S n).2 ∧ Closed S (partsF S n).2 ∧ (∀ v, v < n → (partsF S n).2.testBit v = true) ∧ ∀ p ∈ (partsF S n).1, Closed S p
  | 0, _ => ⟨trivial, rfl, fun e _ hne => by simp [partsF] at hne, fun v hv => by omega, fun p hp => by simp [partsF] at hp⟩
  | n + 1, hn => by
    obtain ⟨h1, h2, h3, h4, h5⟩ := partsF_spec hS n (by omega)
    rw [partsF_succ]
    by_cases hb : (partsF S n).2.testBit n = true
    · rw [if_pos hb]
      refine ⟨h1, h2, h3, fun v hv => ?_, h5⟩
      by_cases hvn : v = n
      · subst hvn; exact hb
      · exact h4 v (by omega)
    · rw [if_neg hb]
      have hb' : (partsF S n).2.testBit n = false := by simpa using hb
      have hcl : Closed S (growX S (2 ^ n)) := growF_closed hS 32 (2 ^ n) (by have := members_pow_len (v := n) (by omega); omega)
      have hap : ∀ i, (growX S (2 ^ n)).testBit i = true → (partsF S n).2.testBit i = false := growF_apart h3 32 (2 ^ n) (fun i hi => by
        rw [Nat.testBit_two_pow, decide_eq_true_eq] at hi
        subst hi; exact hb')
      refine ⟨Apart.snoc _ 0 h1 hcl (fun i hi => by rw [h2]; exact hap i hi), ?_, closed_or h3 hcl, fun v hv => ?_, fun p hp => ?_⟩
      · rw [List.foldl_append, h2]; rfl
      · rw [Nat.testBit_or, Bool.or_eq_true]
        by_cases hvn : v = n
        · subst hvn; exact Or.inr (growF_keeps v 32 _ (by simp))
        · exact Or.inl (h4 v (by omega))
      · rcases List.mem_append.1 hp with hp | hp
        · exact h5 p hp
        · obtain rfl := List.mem_singleton.1 hp; exact hcl
/-- An order of all is an order of each part. -/
theorem elim_all {S : List Nat} (hS : smallS S) {most : Int} {n : Nat} (hn : n ≤ 32) (hl : ∀ x ∈ S, x < 2 ^ n) : (∃ l, Elim S most (2 ^ n - 1) 0 l) ↔ ∀ p ∈ partsL S n, ∃ l, Elim S most p 0 l := by
  obtain ⟨h1, h2, h3, h4, h5⟩ := partsF_spec hS n hn
  have hsub : ∀ p ∈ partsL S n, ∀ i, p.testBit i = true → (2 ^ n - 1).testBit i = true := fun p hp i hi => by
    rw [Nat.testBit_two_pow_sub_one, decide_eq_true_eq]
    exact Classical.byContradiction fun hh => by
      rw [Nat.testBit_lt_two_pow (Nat.lt_of_lt_of_le (partsL_lt_pow hl n (Nat.le_refl _) p hp) (Nat.pow_le_pow_right (by omega) (by omega)))] at hi
      cases hi
  constructor
  · rintro ⟨l, h⟩ p hp
    have := Elim.part hS (h5 p hp) (hsub p hp) l 0 h
    rw [Nat.zero_and] at this
    exact ⟨_, this⟩
  · intro h
    refine Elim.parts hS (partsL S n) 0 h1 (fun p hp => ⟨hsub p hp, h p hp⟩) (fun u hu => ?_)
    rw [Nat.testBit_two_pow_sub_one, decide_eq_true_eq] at hu
    have := h4 u hu
    rw [← h2] at this
    exact this
end Go.Proofs.YtceiaekkfabeaaaDoor

namespace Go.Proofs.YtceiaekkfabeaaaDoor
open Go.RowKit Pl

/-- A row without a number. -/
def withoutL (l : List Int) (n : Int) : List Int := l.filter (fun x => x != n)
theorem withoutL_keep {l : List Int} {n x : Int} {k : Nat} (hx : l[k]? = some x) (h : (x == n) = false) : withoutL (l.take (k+1)) n = withoutL (l.take k) n ++ [x] := by
  obtain ⟨hk, rfl⟩ := List.getElem?_eq_some_iff.1 hx
  unfold withoutL
  rw [List.take_succ_eq_append_getElem hk, List.filter_append]
  simp [bne, h]
theorem withoutL_skip {l : List Int} {n x : Int} {k : Nat} (hx : l[k]? = some x) (h : (x == n) = true) : withoutL (l.take (k+1)) n = withoutL (l.take k) n := by
  obtain ⟨hk, rfl⟩ := List.getElem?_eq_some_iff.1 hx
  unfold withoutL
  rw [List.take_succ_eq_append_getElem hk, List.filter_append]
  simp [bne, h]
theorem withoutL_len (l : List Int) (n : Int) : (withoutL l n).length ≤ l.length := List.length_filter_le _ _

set_option maxHeartbeats 400000 in
theorem without_any {P : Nat → Prop} (v : Value) (xs : List Int) (n : Int) (w : World) (hv : IntsR .i64 P w v xs) (hb : xs.length ≤ 1000000) :
    Calls Tryd.prog 42 #[v, .int .i64 n] w fun e w' => ∃ v', e = .returned v' ∧ IntsR .i64 (fun k => w.heap.size ≤ k) w' v' (withoutL xs n) ∧ Ext No w w' := by
  obtain ⟨A, c, rfl, hc, hm, hat⟩ := hv.at
  have HAT := Sid.mk hat
  clear hat hv
  go_enter Tryd.func42, Tryd.ntmps42
  go_wp2
  go_loopw [5, 10] (fun v i wr => ∃ k : Nat, k ≤ xs.length ∧ i = .int .i64 k ∧ Sid (Own w.heap.size 3 1 wr v (withoutL (xs.take k) n).length ((withoutL (xs.take k) n).map (.int .i64))) ∧ Sid (Ext No w wr))
    (fun _ i _ => xs.length - (intOf i).toNat)
  case atStart => exact ⟨0, Nat.zero_le _, rfl, ⟨by simpa [withoutL] using Own.nil _ _ _ _⟩, ⟨Ext.refl _ _⟩⟩
  case round =>
    obtain ⟨k, hk, rfl, HO, HX⟩ := hrel
    by_cases hlt : k < xs.length
    · obtain ⟨b, off, x, rfl, _, hcell0, HE⟩ := HAT.out k hlt
      have hcell := HX.out.cell (fun h => h) hcell0
      clear hcell0
      cases he : (x == n) with
      | true =>
        have HN := Sid.mk he
        go_wp2
        go_roundw
        case rel => exact ⟨k+1, by omega, by go_num, ⟨by rw [withoutL_skip HE.out HN.out]; exact HO.out⟩, HX⟩
        case measure => simp [intOf]; omega
      | false =>
        have HN := Sid.mk he
        have hl : (withoutL (xs.take k) n).length ≤ 1000000 := by have := withoutL_len (xs.take k) n; simp at this; omega
        have HL := Sid.mk hl
        clear hl
        go_wp2_with (at_builtin; refine app1 w.heap.size rfl (.tmp 17) (.tmp 19) 28 3 (.int .i64 0) 8 rfl Tryd.underlying28 info3 rfl (by decide) _ _ _ _ rfl rfl (by simp) rfl HO.out HX.out.size (by have := HL.out; omega) ?_; intro v1 w1 ho1 hx1 hb1 hs1; have HO1 := Sid.mk ho1; have HX1 := Sid.mk hx1; have HB1 := Sid.mk hb1; have HS1 := Sid.mk hs1; clear ho1 hx1 hb1 hs1)
        go_roundw
        case rel => exact ⟨k+1, by omega, by go_num, ⟨by rw [withoutL_keep HE.out HN.out]; simpa using HO1.out⟩, ⟨HO.out.step HX.out HX1.out⟩⟩
        case measure => simp [intOf]; omega
    · go_wp2
      go_ret
      have h1 := HO.out
      rw [List.take_of_length_le (by omega)] at h1
      exact ⟨_, rfl, h1.ints (by have := withoutL_len xs n; omega) (fun k hk => (h1.ge k hk).1), HX.out⟩
end Go.Proofs.YtceiaekkfabeaaaDoor

/- The document's Width: vertices taken away, what is around each joined. -/
namespace Go.Proofs.YtceiaekkfabeaaaDoor
open Go.RowKit Pl

/-- Edges behind a vertex that was taken away. -/
def nextL (edges : List (List Int)) (many v : Int) : List (List Int) := (edges ++ [aroundL edges v many]).map fun e => withoutL e v
/-- Can vertices be taken away? -/
def widthB (es : List (List Int)) (many most : Int) : Nat → List (List Int) → List Int → Bool
  | 0, _, left => left.isEmpty
  | n + 1, edges, left => left.isEmpty || left.any fun v => match refCover es (aroundL edges v many) with
    | none => false
    | some row => decide ((row.length : Int) ≤ most) && widthB es many most n (nextL edges many v) (withoutL left v)
/-- Edges, as they stand when vertices are gone. -/
def InvE (S : List Nat) (mm : Nat) (edges : List (List Int)) (gone : Nat) : Prop :=
  (∀ e ∈ edges, ∀ x ∈ e, ∃ u : Nat, x = (u : Int) ∧ u < mm ∧ gone.testBit u = false) ∧
  ∀ u w : Nat, gone.testBit u = false → gone.testBit w = false → ((∃ e ∈ edges, (u : Int) ∈ e ∧ (w : Int) ∈ e) ↔ Con S gone u w)
def InvL (mm : Nat) (left : List Int) (gone : Nat) : Prop := ∀ x : Int, x ∈ left ↔ ∃ u : Nat, x = (u : Int) ∧ u < mm ∧ gone.testBit u = false
theorem mem_around {edges : List (List Int)} {mm v w : Nat} : (w : Int) ∈ aroundL edges (v : Int) (mm : Int) ↔ w < mm ∧ (w = v ∨ ∃ e ∈ edges, (v : Int) ∈ e ∧ (w : Int) ∈ e) := by
  rw [aroundL, List.mem_filter, mem_vertsL, nearB, Bool.or_eq_true, anyB, List.any_eq_true]
  simp only [beq_iff_eq, Bool.and_eq_true, hasB_iff]
  constructor
  · rintro ⟨⟨_, h1⟩, h2⟩
    exact ⟨by omega, h2.elim (fun h2 => Or.inl (by omega)) (fun ⟨e, h3, h4, h5⟩ => Or.inr ⟨e, h3, h4, h5⟩)⟩
  · rintro ⟨h1, h2⟩
    exact ⟨⟨by omega, by omega⟩, h2.elim (fun h2 => Or.inl (by omega)) (fun ⟨e, h3, h4, h5⟩ => Or.inr ⟨e, h3, h4, h5⟩)⟩
theorem around_nat {edges : List (List Int)} {mm : Nat} {v x : Int} (h : x ∈ aroundL edges v (mm : Int)) : ∃ w : Nat, x = (w : Int) ∧ w < mm := by
  rw [aroundL, List.mem_filter, mem_vertsL] at h
  obtain ⟨n, rfl⟩ := Int.eq_ofNat_of_zero_le h.1.1
  exact ⟨n, rfl, by omega⟩
theorem con_below {S : List Nat} {mm : Nat} (hl : ∀ x ∈ S, x < 2 ^ mm) {gone v w : Nat} (h : Con S gone v w) : w < mm := by
  have key : ∀ {u w}, Adj S u w → w < mm := fun ⟨e, he, _, e2⟩ => Classical.byContradiction fun hh => by
    rw [Nat.testBit_lt_two_pow (Nat.lt_of_lt_of_le (hl e he) (Nat.pow_le_pow_right (by omega) (by omega)))] at e2
    cases e2
  cases h with
  | one h => exact key h
  | step _ _ h => exact key h
section
variable {S : List Nat} {mm : Nat} (hS : smallS S) (hm : mm ≤ 32) (hl : ∀ x ∈ S, x < 2 ^ mm)
include hS hm hl
theorem around_arF {edges : List (List Int)} {gone v : Nat} (hE : InvE S mm edges gone) (hv : v < mm) (hg : gone.testBit v = false) : ofTo (aroundL edges (v : Int) (mm : Int)) = arF S v gone ∧ smallL (aroundL edges (v : Int) (mm : Int)) := by
  refine ⟨?_, fun x hx => by obtain ⟨w, rfl, hw⟩ := around_nat hx; omega⟩
  apply Nat.eq_of_testBit_eq
  intro i
  rw [Bool.eq_iff_iff, arF_iff hS (by omega), ofTo_testBit, List.any_eq_true]
  have hmem : (∃ x ∈ aroundL edges (v : Int) (mm : Int), (x.toNat == i) = true) ↔ (i : Int) ∈ aroundL edges (v : Int) (mm : Int) := by
    constructor
    · rintro ⟨x, hx, hxi⟩
      obtain ⟨w, rfl, _⟩ := around_nat hx
      rw [beq_iff_eq, Int.toNat_natCast] at hxi
      subst hxi; exact hx
    · exact fun h => ⟨_, h, by simp⟩
  rw [hmem, mem_around]
  constructor
  · rintro ⟨h1, rfl | ⟨e, h3, h4, h5⟩⟩
    · exact Or.inl rfl
    · obtain ⟨u, hu, _, hug⟩ := hE.1 e h3 _ h5
      obtain rfl : i = u := by omega
      exact Or.inr ⟨hug, (hE.2 v i hg hug).1 ⟨e, h3, h4, h5⟩⟩
  · rintro (rfl | ⟨h1, h2⟩)
    · exact ⟨hv, Or.inl rfl⟩
    · obtain ⟨e, h3, h4, h5⟩ := (hE.2 v i hg h1).2 h2
      exact ⟨con_below hl h2, Or.inr ⟨e, h3, h4, h5⟩⟩
omit hS hm in
theorem invE_next {edges : List (List Int)} {gone v : Nat} (hE : InvE S mm edges gone) (hv : v < mm) (hg : gone.testBit v = false) : InvE S mm (nextL edges (mm : Int) (v : Int)) (gone ||| 2 ^ v) := by
  have hnear : ∀ w : Nat, (w : Int) ∈ aroundL edges (v : Int) (mm : Int) ↔ w = v ∨ (gone.testBit w = false ∧ Con S gone v w) := fun w => by
    rw [mem_around]
    constructor
    · rintro ⟨h1, rfl | ⟨e, h3, h4, h5⟩⟩
      · exact Or.inl rfl
      · obtain ⟨u, hu, _, hug⟩ := hE.1 e h3 _ h5
        obtain rfl : w = u := by omega
        exact Or.inr ⟨hug, (hE.2 v w hg hug).1 ⟨e, h3, h4, h5⟩⟩
    · rintro (rfl | ⟨h1, h2⟩)
      · exact ⟨hv, Or.inl rfl⟩
      · obtain ⟨e, h3, h4, h5⟩ := (hE.2 v w hg h1).2 h2
        exact ⟨con_below hl h2, Or.inr ⟨e, h3, h4, h5⟩⟩
  have hmw : ∀ (e : List Int) (x : Int), x ∈ withoutL e (v : Int) ↔ x ∈ e ∧ x ≠ (v : Int) := fun e x => by
    rw [withoutL, List.mem_filter]; simp
  refine ⟨fun e he x hx => ?_, fun u w hu hw => ?_⟩
  · rw [nextL, List.mem_map] at he
    obtain ⟨e', he', rfl⟩ := he
    obtain ⟨hx1, hx2⟩ := (hmw e' x).1 hx
    have hbit : ∀ u : Nat, x = (u : Int) → gone.testBit u = false → (gone ||| 2 ^ v).testBit u = false := fun u hxu hug => by
      rw [or_pow_bit, hug]
      have : ¬ v = u := fun h => hx2 (by omega)
      simp [this]
    rcases List.mem_append.1 he' with he' | he'
    · obtain ⟨u, hxu, hul, hug⟩ := hE.1 e' he' x hx1
      exact ⟨u, hxu, hul, hbit u hxu hug⟩
    · obtain rfl := List.mem_singleton.1 he'
      obtain ⟨u, hxu, hul⟩ := around_nat hx1
      subst hxu
      rcases (hnear u).1 hx1 with rfl | ⟨h1, _⟩
      · exact absurd rfl hx2
      · exact ⟨u, rfl, hul, hbit u rfl h1⟩
  · rw [or_pow_bit, Bool.or_eq_false_iff, decide_eq_false_iff_not] at hu hw
    rw [Con.add, ← hE.2 u w hu.1 hw.1]
    have hne : ∀ x : Nat, ¬ v = x → (x : Int) ≠ (v : Int) := fun x h hh => h (by omega)
    constructor
    · rintro ⟨e, he, h1, h2⟩
      rw [nextL, List.mem_map] at he
      obtain ⟨e', he', rfl⟩ := he
      have h1' := ((hmw e' _).1 h1).1
      have h2' := ((hmw e' _).1 h2).1
      rcases List.mem_append.1 he' with he' | he'
      · exact Or.inl ⟨e', he', h1', h2'⟩
      · obtain rfl := List.mem_singleton.1 he'
        rcases (hnear u).1 h1' with rfl | ⟨_, c1⟩
        · exact absurd rfl hu.2
        · rcases (hnear w).1 h2' with rfl | ⟨_, c2⟩
          · exact absurd rfl hw.2
          · exact Or.inr ⟨c1.symm, c2⟩
    · rintro (⟨e, he, h1, h2⟩ | ⟨c1, c2⟩)
      · exact ⟨withoutL e (v : Int), List.mem_map.2 ⟨e, List.mem_append_left _ he, rfl⟩, (hmw e _).2 ⟨h1, hne u hu.2⟩, (hmw e _).2 ⟨h2, hne w hw.2⟩⟩
      · exact ⟨withoutL (aroundL edges (v : Int) (mm : Int)) (v : Int), List.mem_map.2 ⟨_, List.mem_append_right _ (List.mem_singleton.2 rfl), rfl⟩, (hmw _ _).2 ⟨(hnear u).2 (Or.inr ⟨hu.1, c1.symm⟩), hne u hu.2⟩, (hmw _ _).2 ⟨(hnear w).2 (Or.inr ⟨hw.1, c2⟩), hne w hw.2⟩⟩
end
theorem invE_start {many : Int} {es : List (List Int)} {mm : Nat} (hmm : many = (mm : Int)) (h : hyperB many es = true) : InvE (es.map ofTo) mm es 0 := by
  subst hmm
  obtain ⟨_, _, _, h4⟩ := hyperB_parts h
  have hnn := hyper_nonneg h
  have hadj : ∀ u w : Nat, Adj (es.map ofTo) u w ↔ ∃ e ∈ es, (u : Int) ∈ e ∧ (w : Int) ∈ e := fun u w => by
    constructor
    · rintro ⟨s, hs, h1, h2⟩
      obtain ⟨e, he, rfl⟩ := List.mem_map.1 hs
      have q := fun x : Nat => ofTo_testBit e x
      rw [q, List.any_eq_true] at h1 h2
      obtain ⟨a, ha, hau⟩ := h1
      obtain ⟨b, hb, hbw⟩ := h2
      rw [beq_iff_eq] at hau hbw
      have := hnn e he a ha
      have := hnn e he b hb
      refine ⟨e, he, ?_, ?_⟩
      · rw [show (u : Int) = a by omega]; exact ha
      · rw [show (w : Int) = b by omega]; exact hb
    · rintro ⟨e, he, h1, h2⟩
      refine ⟨ofTo e, List.mem_map.2 ⟨e, he, rfl⟩, ?_, ?_⟩
      · rw [ofTo_testBit, List.any_eq_true]; exact ⟨_, h1, by simp⟩
      · rw [ofTo_testBit, List.any_eq_true]; exact ⟨_, h2, by simp⟩
  refine ⟨fun e he x hx => ?_, fun u w _ _ => ?_⟩
  · have := inB_of_rises (h4 e he) x hx
    exact ⟨x.toNat, by omega, by omega, by simp⟩
  · rw [← hadj]
    constructor
    · exact fun h => .one h
    · intro h
      cases h with
      | one h => exact h
      | step _ hx _ => simp at hx
/-- THE LAW of Width. -/
theorem width_elim {es : List (List Int)} {mm : Nat} (h : hyperB (mm : Int) es = true) (most : Int) : ∀ (n : Nat) (edges : List (List Int)) (left : List Int) (gone : Nat), left.length ≤ n → InvE (es.map ofTo) mm edges gone → InvL mm left gone → (∀ v, v < mm → (orTo (es.map ofTo)).testBit v = true) →
    (widthB es (mm : Int) most n edges left = true ↔ ∃ l, Elim (es.map ofTo) most (2 ^ mm - 1) gone l) := by
  have hS : smallS (es.map ofTo) := smallS_of (hyperB_small h)
  obtain ⟨_, hm, _, _⟩ := hyperB_parts h
  have hm' : mm ≤ 32 := by omega
  have hl := hyper_lt_pow h
  have htop : ∀ u, (2 ^ mm - 1).testBit u = true ↔ u < mm := fun u => by rw [Nat.testBit_two_pow_sub_one, decide_eq_true_eq]
  have hempty : ∀ (left : List Int) (gone : Nat), InvL mm left gone → (left = [] ↔ ∀ u, (2 ^ mm - 1).testBit u = true → gone.testBit u = true) := fun left gone hL => by
    constructor
    · rintro rfl u hu
      rw [htop] at hu
      cases hg : gone.testBit u with
      | true => rfl
      | false => have := (hL (u : Int)).2 ⟨u, rfl, hu, hg⟩; simp at this
    · intro hu
      rw [List.eq_nil_iff_forall_not_mem]
      intro x hx
      obtain ⟨u, _, h1, h2⟩ := (hL x).1 hx
      rw [hu u ((htop u).2 h1)] at h2; cases h2
  have hone : ∀ (left : List Int) (gone : Nat), InvL mm left gone → left ≠ [] → ¬ Elim (es.map ofTo) most (2 ^ mm - 1) gone [] := fun left gone hL hne he => hne ((hempty left gone hL).2 he)
  intro n
  induction n with
  | zero =>
    intro edges left gone hn _ hL _
    obtain rfl : left = [] := List.eq_nil_of_length_eq_zero (by omega)
    simp only [widthB, List.isEmpty_nil, true_iff]
    exact ⟨[], (hempty [] gone hL).1 rfl⟩
  | succ n ih =>
    intro edges left gone hn hE hL hor
    by_cases hnil : left = []
    · subst hnil
      simp only [widthB, List.isEmpty_nil, Bool.true_or, true_iff]
      exact ⟨[], (hempty [] gone hL).1 rfl⟩
    · have hie : left.isEmpty = false := by cases left with | nil => exact absurd rfl hnil | cons _ _ => rfl
      rw [widthB, hie, Bool.false_or, List.any_eq_true]
      have hstep : ∀ v : Nat, v < mm → gone.testBit v = false → refCover es (aroundL edges (v : Int) (mm : Int)) = covO (es.map ofTo) (arF (es.map ofTo) v gone) ∧ InvE (es.map ofTo) mm (nextL edges (mm : Int) (v : Int)) (gone ||| 2 ^ v) ∧ InvL mm (withoutL left (v : Int)) (gone ||| 2 ^ v) ∧ (withoutL left (v : Int)).length ≤ n := fun v hv hg => by
        obtain ⟨a1, a2⟩ := around_arF hS hm' hl hE hv hg
        refine ⟨by rw [refCover_covO (hyper_nonneg h) a2, a1], invE_next hl hE hv hg, fun x => ?_, ?_⟩
        · rw [withoutL, List.mem_filter, hL x]
          constructor
          · rintro ⟨⟨u, rfl, h1, h2⟩, h3⟩
            refine ⟨u, rfl, h1, ?_⟩
            rw [or_pow_bit, h2]
            have : ¬ v = u := fun hh => by subst hh; simp at h3
            simp [this]
          · rintro ⟨u, rfl, h1, h2⟩
            rw [or_pow_bit, Bool.or_eq_false_iff, decide_eq_false_iff_not] at h2
            refine ⟨⟨u, rfl, h1, h2.1⟩, ?_⟩
            have : (u : Int) ≠ (v : Int) := fun hh => h2.2 (by omega)
            simpa using this
        · have hvm : (v : Int) ∈ left := (hL _).2 ⟨v, rfl, hv, hg⟩
          have : (withoutL left (v : Int)).length < left.length := by
            rw [withoutL]
            exact List.length_filter_lt_length_iff_exists.2 ⟨_, hvm, by simp⟩
          omega
      constructor
      · rintro ⟨x, hx, hb⟩
        obtain ⟨v, rfl, hv, hg⟩ := (hL x).1 hx
        obtain ⟨s1, s2, s3, s4⟩ := hstep v hv hg
        rw [s1] at hb
        cases hc : covO (es.map ofTo) (arF (es.map ofTo) v gone) with
        | none => rw [hc] at hb; cases hb
        | some row =>
          rw [hc] at hb
          simp only [Bool.and_eq_true, decide_eq_true_eq] at hb
          obtain ⟨l, hl'⟩ := (ih _ _ _ s4 s2 s3 hor).1 hb.2
          exact ⟨v :: l, by omega, (htop v).2 hv, hg, by rw [covLen, hc]; exact hb.1, hl'⟩
      · rintro ⟨l, he⟩
        cases l with
        | nil => exact absurd he (hone left gone hL hnil)
        | cons v l =>
          obtain ⟨e1, e2, e3, e4, e5⟩ := he
          have hv := (htop v).1 e2
          obtain ⟨s1, s2, s3, s4⟩ := hstep v hv e3
          refine ⟨(v : Int), (hL _).2 ⟨v, rfl, hv, e3⟩, ?_⟩
          obtain ⟨row, hrow⟩ := arF_cov (S := es.map ofTo) (v := v) (gone := gone) (hor v hv)
          rw [s1, hrow]
          rw [covLen, hrow] at e4
          simp only [Bool.and_eq_true, decide_eq_true_eq]
          exact ⟨e4, (ih _ _ _ s4 s2 s3 hor).2 ⟨l, e5⟩⟩
end Go.Proofs.YtceiaekkfabeaaaDoor

/- Edges that are reduced: nothing is left just if vertices can be taken away, what is around each within one edge. -/
namespace Go.Proofs.YtceiaekkfabeaaaDoor
open Go.RowKit Pl

theorem mem_of_without {l : List Int} {v x : Int} (h : x ∈ withoutL l v) : x ∈ l := (List.mem_filter.1 h).1
/-- Whatever is in a is in b. -/
def SubN (a b : Nat) : Prop := ∀ u, a.testBit u = true → b.testBit u = true
def SubL (f : List Int) (s : Nat) : Prop := ∀ x ∈ f, ∃ u : Nat, x = (u : Int) ∧ s.testBit u = true
/-- A row's place takes another value. -/
def setG (g : Nat → Option Nat) (i : Nat) (o : Option Nat) : Nat → Option Nat := fun j => if j = i then o else g j
theorem setG_eq (g : Nat → Option Nat) (i : Nat) (o : Option Nat) : setG g i o i = o := if_pos rfl
theorem setG_ne {g : Nat → Option Nat} {i j : Nat} {o : Option Nat} (h : j ≠ i) : setG g i o j = g j := if_neg h
/-- One step of the reduction. -/
inductive GStep : (Nat → Option Nat) → (Nat → Option Nat) → Prop
  | trim {g : Nat → Option Nat} {i s t : Nat} : g i = some s → (∀ u, s.testBit u = true → t.testBit u = false → ∀ j s', j ≠ i → g j = some s' → s'.testBit u = false) → GStep g (setG g i (some (s &&& t)))
  | empty {g : Nat → Option Nat} {i : Nat} : g i = some 0 → GStep g (setG g i none)
  | sub {g : Nat → Option Nat} {i k s t : Nat} : g i = some s → g k = some t → k ≠ i → SubN s t → GStep g (setG g i none)
inductive Reach : (Nat → Option Nat) → (Nat → Option Nat) → Prop
  | refl {g : Nat → Option Nat} : Reach g g
  | step {g g' g'' : Nat → Option Nat} : GStep g g' → Reach g' g'' → Reach g g''
theorem Reach.tail {g g' g'' : Nat → Option Nat} (h : Reach g g') (k : GStep g' g'') : Reach g g'' := by
  induction h with
  | refl => exact .step k .refl
  | step h _ ih => exact .step h (ih k)
/-- A vertex stands in what is left. -/
def VerG (g : Nat → Option Nat) (u : Nat) : Prop := ∃ i s, g i = some s ∧ s.testBit u = true
/-- Nothing more can be reduced. -/
def Stuck (g : Nat → Option Nat) : Prop := ∀ i s, g i = some s → s ≠ 0 ∧ (∀ u, s.testBit u = true → ∃ j s', j ≠ i ∧ g j = some s' ∧ s'.testBit u = true) ∧ ∀ k t, k ≠ i → g k = some t → ¬ SubN s t

theorem cov_one {S : List Nat} {x k s : Nat} (hs : S[k]? = some s) (h : SubN x s) : ∃ row, covO S x = some row ∧ row.length ≤ 1 := by
  have hkl := (List.getElem?_eq_some_iff.1 hs).1
  have hp : covP S x [(k : Int)] = true := covP_iff.2 fun i hi => by
    simp only [List.any_cons, List.any_nil, Bool.or_false, Int.toNat_natCast, List.getD_eq_getElem?_getD, hs, Option.getD_some]
    exact h i hi
  have hm : [(k : Int)] ∈ rowsL (S.length : Int) 1 0 := by
    simp only [rowsL, List.mem_flatMap, List.mem_map]
    exact ⟨(k : Int), rangeL_mem.2 ⟨by omega, by omega⟩, [], by simp, rfl⟩
  have hne : (rowsL (S.length : Int) 1 0).find? (covP S x) ≠ none := fun hh => by
    rw [List.find?_eq_none] at hh
    exact hh _ hm hp
  obtain ⟨m, row, hm1, hrow, hmin⟩ := min_some (b := fun m => (rowsL (S.length : Int) m 0).find? (covP S x)) 1 hne
  refine ⟨row, ?_, ?_⟩
  · rw [covO_rows]; exact first_at hrow hmin (S.length + 1) (by omega)
  · rw [rowsL_row_len _ m 0 row (List.mem_of_find?_eq_some hrow)]; exact hm1

section
variable {mm : Nat} {es : List (List Int)} (hh : hyperB (mm : Int) es = true)
include hh
theorem verts_lt {e : List Int} (he : e ∈ es) {x : Int} (hx : x ∈ e) : ∃ u : Nat, x = (u : Int) ∧ u < mm := by
  obtain ⟨_, _, _, h4⟩ := hyperB_parts hh
  have := inB_of_rises (h4 e he) x hx
  exact ⟨x.toNat, by omega, by omega⟩
theorem ofTo_mem {e : List Int} (he : e ∈ es) {u : Nat} : (ofTo e).testBit u = true ↔ (u : Int) ∈ e := by
  rw [ofTo_testBit, List.any_eq_true]
  constructor
  · rintro ⟨x, hx, hxu⟩
    obtain ⟨v, rfl, _⟩ := verts_lt hh he hx
    rw [beq_iff_eq, Int.toNat_natCast] at hxu
    subst hxu; exact hx
  · exact fun h => ⟨_, h, by simp⟩
/-- What lies within an edge is covered by one. -/
theorem refCover_one {near : List Int} (hn : smallL near) {e : List Int} (he : e ∈ es) (h : SubL near (ofTo e)) : ∃ row, refCover es near = some row ∧ row.length ≤ 1 := by
  obtain ⟨k, hk⟩ := List.mem_iff_getElem?.1 he
  rw [refCover_covO (hyper_nonneg hh) hn]
  refine cov_one (k := k) (s := ofTo e) (by rw [List.getElem?_map, hk]; rfl) fun u hu => ?_
  rw [ofTo_testBit, List.any_eq_true] at hu
  obtain ⟨x, hx, hxu⟩ := hu
  obtain ⟨v, rfl, hv⟩ := h x hx
  rw [beq_iff_eq, Int.toNat_natCast] at hxu
  subst hxu; exact hv
theorem around_small {F : List (List Int)} {v : Int} : smallL (aroundL F v (mm : Int)) := fun x hx => by
  obtain ⟨_, h2, _, _⟩ := hyperB_parts hh
  obtain ⟨w, rfl, hw⟩ := around_nat hx
  omega
/-- From what is left all that is left can be taken away. -/
def GoodG (mm : Nat) (es : List (List Int)) (g : Nat → Option Nat) : Prop := ∀ (n : Nat) (F : List (List Int)) (left : List Int), left.length ≤ n → (∀ x ∈ left, ∃ u : Nat, x = (u : Int) ∧ u < mm ∧ VerG g u) → (∀ f ∈ F, ∀ x ∈ f, x ∈ left) →
  (∀ f ∈ F, f = [] ∨ ∃ i s, g i = some s ∧ SubL f s) → widthB es (mm : Int) 1 n F left = true
omit hh in
theorem good_none {g : Nat → Option Nat} (h : ∀ i, g i = none) : GoodG mm es g := fun n F left _ h1 _ _ => by
  have : left = [] := List.eq_nil_iff_forall_not_mem.2 fun x hx => by
    obtain ⟨u, _, _, i, s, hi, _⟩ := h1 x hx
    rw [h i] at hi; cases hi
  subst this
  cases n <;> rfl
theorem good_trim {g : Nat → Option Nat} {i s t : Nat} (hi : g i = some s) (hp : ∀ u, s.testBit u = true → t.testBit u = false → ∀ j s', j ≠ i → g j = some s' → s'.testBit u = false) (he : ∃ e ∈ es, SubN s (ofTo e)) (hG : GoodG mm es (setG g i (some (s &&& t)))) : GoodG mm es g := by
  intro n
  induction n with
  | zero =>
    intro F left hl _ _ _
    obtain rfl : left = [] := List.eq_nil_of_length_eq_zero (by omega)
    rfl
  | succ n ih =>
    intro F left hl h1 h2 h3
    by_cases hv : ∃ u : Nat, (u : Int) ∈ left ∧ s.testBit u = true ∧ t.testBit u = false
    · obtain ⟨u, hul, hus, hut⟩ := hv
      have hum : u < mm := by obtain ⟨u', h, h', _⟩ := h1 _ hul; omega
      have hone : ∀ f ∈ F, (u : Int) ∈ f → SubL f s := fun f hf hu => by
        rcases h3 f hf with rfl | ⟨j, s', hj, hsub⟩
        · simp at hu
        · by_cases hji : j = i
          · subst hji; rw [hi] at hj; cases hj; exact hsub
          · obtain ⟨u', he', hb⟩ := hsub _ hu
            obtain rfl : u = u' := by omega
            rw [hp u hus hut j s' hji hj] at hb; cases hb
      have hnear : SubL (aroundL F (u : Int) (mm : Int)) s := fun x hx => by
        obtain ⟨w, rfl, _⟩ := around_nat hx
        rcases (mem_around.1 hx).2 with rfl | ⟨f, hf, hu, hw⟩
        · exact ⟨w, rfl, hus⟩
        · exact hone f hf hu _ hw
      obtain ⟨e, hee, hse⟩ := he
      obtain ⟨row, hr1, hr2⟩ := refCover_one hh (around_small hh) hee (fun x hx => by
        obtain ⟨w, rfl, hw⟩ := hnear x hx
        exact ⟨w, rfl, hse w hw⟩)
      have hrec : widthB es (mm : Int) 1 n (nextL F (mm : Int) (u : Int)) (withoutL left (u : Int)) = true := by
        refine ih _ _ ?_ (fun x hx => h1 x (mem_of_without hx)) ?_ ?_
        · have : (withoutL left (u : Int)).length < left.length := by
            rw [withoutL, ← List.countP_eq_length_filter, Nat.lt_iff_le_and_ne]
            refine ⟨List.countP_le_length, fun hc => ?_⟩
            have := List.countP_eq_length.1 hc _ hul
            simp at this
          omega
        · intro f hf x hx
          rw [nextL, List.mem_map] at hf
          obtain ⟨f', hf', rfl⟩ := hf
          rw [withoutL, List.mem_filter] at hx ⊢
          refine ⟨?_, hx.2⟩
          rcases List.mem_append.1 hf' with hf' | hf'
          · exact h2 f' hf' x hx.1
          · obtain rfl := List.mem_singleton.1 hf'
            obtain ⟨w, rfl, _⟩ := around_nat hx.1
            rcases (mem_around.1 hx.1).2 with rfl | ⟨f, hf, _, hw⟩
            · exact hul
            · exact h2 f hf _ hw
        · intro f hf
          rw [nextL, List.mem_map] at hf
          obtain ⟨f', hf', rfl⟩ := hf
          rcases List.mem_append.1 hf' with hf' | hf'
          · rcases h3 f' hf' with rfl | ⟨j, s', hj, hsub⟩
            · exact Or.inl rfl
            · exact Or.inr ⟨j, s', hj, fun x hx => hsub x (mem_of_without hx)⟩
          · obtain rfl := List.mem_singleton.1 hf'
            exact Or.inr ⟨i, s, hi, fun x hx => hnear x (mem_of_without hx)⟩
      rw [widthB, Bool.or_eq_true, List.any_eq_true]
      refine Or.inr ⟨(u : Int), hul, ?_⟩
      rw [hr1]
      simp only [Bool.and_eq_true, decide_eq_true_eq]
      exact ⟨by omega, hrec⟩
    · have hnot : ∀ u : Nat, (u : Int) ∈ left → s.testBit u = true → t.testBit u = true := fun u h h' => by
        cases hb : t.testBit u with
        | true => rfl
        | false => exact absurd ⟨u, h, h', hb⟩ hv
      refine hG (n + 1) F left hl (fun x hx => ?_) h2 (fun f hf => ?_)
      · obtain ⟨u, rfl, hum, j, s', hj, hb⟩ := h1 x hx
        refine ⟨u, rfl, hum, ?_⟩
        by_cases hji : j = i
        · subst hji
          rw [hi] at hj; cases hj
          exact ⟨j, s &&& t, setG_eq _ _ _, by rw [Nat.testBit_and, hb, hnot u hx hb]; rfl⟩
        · exact ⟨j, s', by rw [setG_ne hji]; exact hj, hb⟩
      · rcases h3 f hf with h | ⟨j, s', hj, hsub⟩
        · exact Or.inl h
        · refine Or.inr ?_
          by_cases hji : j = i
          · subst hji
            rw [hi] at hj; cases hj
            refine ⟨j, s &&& t, setG_eq _ _ _, fun x hx => ?_⟩
            obtain ⟨u, rfl, hu⟩ := hsub x hx
            exact ⟨u, rfl, by rw [Nat.testBit_and, hu, hnot u (h2 f hf _ hx) hu]; rfl⟩
          · exact ⟨j, s', by rw [setG_ne hji]; exact hj, hsub⟩
omit hh in
theorem good_empty {g : Nat → Option Nat} {i : Nat} (hi : g i = some 0) (hG : GoodG mm es (setG g i none)) : GoodG mm es g := fun n F left hl h1 h2 h3 => by
  refine hG n F left hl (fun x hx => ?_) h2 (fun f hf => ?_)
  · obtain ⟨u, rfl, hum, j, s', hj, hb⟩ := h1 x hx
    refine ⟨u, rfl, hum, j, s', ?_, hb⟩
    rw [setG_ne]; exact hj
    intro hji; subst hji; rw [hi] at hj; cases hj; simp at hb
  · rcases h3 f hf with h | ⟨j, s', hj, hsub⟩
    · exact Or.inl h
    · by_cases hji : j = i
      · subst hji
        rw [hi] at hj; cases hj
        refine Or.inl (List.eq_nil_iff_forall_not_mem.2 fun x hx => ?_)
        obtain ⟨u, _, hu⟩ := hsub x hx
        simp at hu
      · exact Or.inr ⟨j, s', by rw [setG_ne hji]; exact hj, hsub⟩
omit hh in
theorem good_sub {g : Nat → Option Nat} {i k s t : Nat} (hi : g i = some s) (hk : g k = some t) (hki : k ≠ i) (hst : SubN s t) (hG : GoodG mm es (setG g i none)) : GoodG mm es g := fun n F left hl h1 h2 h3 => by
  refine hG n F left hl (fun x hx => ?_) h2 (fun f hf => ?_)
  · obtain ⟨u, rfl, hum, j, s', hj, hb⟩ := h1 x hx
    refine ⟨u, rfl, hum, ?_⟩
    by_cases hji : j = i
    · subst hji; rw [hi] at hj; cases hj
      exact ⟨k, t, by rw [setG_ne hki]; exact hk, hst u hb⟩
    · exact ⟨j, s', by rw [setG_ne hji]; exact hj, hb⟩
  · rcases h3 f hf with h | ⟨j, s', hj, hsub⟩
    · exact Or.inl h
    · refine Or.inr ?_
      by_cases hji : j = i
      · subst hji; rw [hi] at hj; cases hj
        refine ⟨k, t, by rw [setG_ne hki]; exact hk, fun x hx => ?_⟩
        obtain ⟨u, rfl, hu⟩ := hsub x hx
        exact ⟨u, rfl, hst u hu⟩
      · exact ⟨j, s', by rw [setG_ne hji]; exact hj, hsub⟩
/-- What is left lies within edges. -/
def InG (es : List (List Int)) (g : Nat → Option Nat) : Prop := ∀ i s, g i = some s → ∃ e ∈ es, SubN s (ofTo e)
omit hh in
theorem in_step {g g' : Nat → Option Nat} (h : GStep g g') (hI : InG es g) : InG es g' := by
  cases h with
  | @trim i s t hi hp =>
    intro j s' hj
    by_cases hji : j = i
    · subst hji
      rw [setG_eq] at hj; cases hj
      obtain ⟨e, he, hs⟩ := hI _ _ hi
      exact ⟨e, he, fun u hu => hs u (by rw [Nat.testBit_and, Bool.and_eq_true] at hu; exact hu.1)⟩
    · rw [setG_ne hji] at hj; exact hI j s' hj
  | @empty i hi =>
    intro j s' hj
    by_cases hji : j = i
    · subst hji; rw [setG_eq] at hj; cases hj
    · rw [setG_ne hji] at hj; exact hI j s' hj
  | @sub i k s t hi hk hki hst =>
    intro j s' hj
    by_cases hji : j = i
    · subst hji; rw [setG_eq] at hj; cases hj
    · rw [setG_ne hji] at hj; exact hI j s' hj
theorem good_reach {g g' : Nat → Option Nat} (h : Reach g g') (hI : InG es g) (hn : ∀ i, g' i = none) : GoodG mm es g := by
  induction h with
  | refl => exact good_none hn
  | step h k ih =>
    have hG := ih (in_step h hI) hn
    cases h with
    | trim hi hp => exact good_trim hh hi hp (hI _ _ hi) hG
    | empty hi => exact good_empty hi hG
    | sub hi hk hki hst => exact good_sub hi hk hki hst hG

/-- Each edge, as far as its vertices are left, lies within one that is left. -/
def WithinG (es : List (List Int)) (g : Nat → Option Nat) : Prop := ∀ e ∈ es, (∀ u, (ofTo e).testBit u = true → ¬ VerG g u) ∨ ∃ k t, g k = some t ∧ ∀ u, (ofTo e).testBit u = true → VerG g u → t.testBit u = true
omit hh in
theorem ver_less {g : Nat → Option Nat} {i s s' : Nat} (hi : g i = some s) (hss : SubN s' s) {u : Nat} (h : VerG (setG g i (some s')) u) : VerG g u := by
  obtain ⟨j, r, hj, hb⟩ := h
  by_cases hji : j = i
  · subst hji; rw [setG_eq] at hj; cases hj; exact ⟨j, s, hi, hss u hb⟩
  · rw [setG_ne hji] at hj; exact ⟨j, r, hj, hb⟩
omit hh in
theorem ver_none {g : Nat → Option Nat} {i : Nat} {u : Nat} (h : VerG (setG g i none) u) : VerG g u := by
  obtain ⟨j, r, hj, hb⟩ := h
  by_cases hji : j = i
  · subst hji; rw [setG_eq] at hj; cases hj
  · rw [setG_ne hji] at hj; exact ⟨j, r, hj, hb⟩
omit hh in
theorem within_step {g g' : Nat → Option Nat} (h : GStep g g') (hW : WithinG es g) : WithinG es g' := by
  cases h with
  | @trim i s t hi hp =>
    intro e he
    have hsub : SubN (s &&& t) s := fun u hu => by rw [Nat.testBit_and, Bool.and_eq_true] at hu; exact hu.1
    rcases hW e he with h | ⟨k, r, hk, h⟩
    · exact Or.inl fun u hu hv => h u hu (ver_less hi hsub hv)
    · refine Or.inr ?_
      by_cases hki : k = i
      · subst hki
        rw [hi] at hk; cases hk
        refine ⟨k, s &&& t, setG_eq _ _ _, fun u hu hv => ?_⟩
        have hsu := h u hu (ver_less hi hsub hv)
        rw [Nat.testBit_and, hsu, Bool.true_and]
        cases htu : t.testBit u with
        | true => rfl
        | false =>
          obtain ⟨j, r, hj, hb⟩ := hv
          by_cases hji : j = k
          · subst hji; rw [setG_eq] at hj; cases hj
            rw [Nat.testBit_and, htu, Bool.and_false] at hb; cases hb
          · rw [setG_ne hji] at hj
            rw [hp u hsu htu j r hji hj] at hb; cases hb
      · exact ⟨k, r, by rw [setG_ne hki]; exact hk, fun u hu hv => h u hu (ver_less hi hsub hv)⟩
  | @empty i hi =>
    intro e he
    rcases hW e he with h | ⟨k, r, hk, h⟩
    · exact Or.inl fun u hu hv => h u hu (ver_none hv)
    · by_cases hki : k = i
      · subst hki
        rw [hi] at hk; cases hk
        exact Or.inl fun u hu hv => by have := h u hu (ver_none hv); simp at this
      · exact Or.inr ⟨k, r, by rw [setG_ne hki]; exact hk, fun u hu hv => h u hu (ver_none hv)⟩
  | @sub i k s t hi hk hki hst =>
    intro e he
    rcases hW e he with h | ⟨m, r, hm, h⟩
    · exact Or.inl fun u hu hv => h u hu (ver_none hv)
    · refine Or.inr ?_
      by_cases hmi : m = i
      · subst hmi
        rw [hi] at hm; cases hm
        exact ⟨k, t, by rw [setG_ne hki]; exact hk, fun u hu hv => hst u (h u hu (ver_none hv))⟩
      · exact ⟨m, r, by rw [setG_ne hmi]; exact hm, fun u hu hv => h u hu (ver_none hv)⟩
omit hh in
theorem reach_within {g g' : Nat → Option Nat} (h : Reach g g') (hW : WithinG es g) : WithinG es g' := by
  induction h with
  | refl => exact hW
  | step h _ ih => exact ih (within_step h hW)
omit hh in
theorem reach_in {g g' : Nat → Option Nat} (h : Reach g g') (hW : InG es g) : InG es g' := by
  induction h with
  | refl => exact hW
  | step h _ ih => exact ih (in_step h hW)
/-- What cannot be reduced cannot be taken away. -/
theorem stuck_no {g : Nat → Option Nat} (hI : InG es g) (hW : WithinG es g) (hS : Stuck g) {i0 s0 : Nat} (h0 : g i0 = some s0) : ∀ (n : Nat) (F : List (List Int)) (left : List Int), (∀ u, VerG g u → (u : Int) ∈ left) →
    (∀ i s, g i = some s → ∃ f ∈ F, ∀ u : Nat, s.testBit u = true → (u : Int) ∈ f) → widthB es (mm : Int) 1 n F left = false := by
  have hne : ∃ u, VerG g u := by
    obtain ⟨u, hu⟩ := Nat.exists_testBit_of_ne_zero (hS i0 s0 h0).1
    exact ⟨u, i0, s0, h0, hu⟩
  have hlt : ∀ u, VerG g u → u < mm := fun u ⟨i, s, hi, hb⟩ => by
    obtain ⟨e, he, hs⟩ := hI i s hi
    obtain ⟨v, hv, hl⟩ := verts_lt hh he ((ofTo_mem hh he).1 (hs u hb))
    omega
  intro n
  induction n with
  | zero =>
    intro F left h1 _
    obtain ⟨u, hu⟩ := hne
    have := h1 u hu
    cases left with
    | nil => simp at this
    | cons a l => rfl
  | succ n ih =>
    intro F left h1 h2
    rw [widthB, Bool.or_eq_false_iff]
    refine ⟨?_, ?_⟩
    · obtain ⟨u, hu⟩ := hne
      have := h1 u hu
      cases left with
      | nil => simp at this
      | cons a l => rfl
    · rw [List.any_eq_false]
      intro v hv
      cases hr : refCover es (aroundL F v (mm : Int)) with
      | none => simp
      | some row =>
        simp only [Bool.and_eq_true, decide_eq_true_eq, not_and, Bool.not_eq_true]
        intro hlen
        by_cases hver : ∃ u : Nat, v = (u : Int) ∧ VerG g u
        · exfalso
          obtain ⟨u, rfl, hvu⟩ := hver
          have hum := hlt u hvu
          have hcov : coversB es row (aroundL F (u : Int) (mm : Int)) = true := by
            rw [refCover] at hr
            exact List.find?_some (p := fun row => coversB es row (aroundL F (u : Int) (mm : Int))) hr
          have hself : (u : Int) ∈ aroundL F (u : Int) (mm : Int) := mem_around.2 ⟨hum, Or.inl rfl⟩
          have hall : ∀ x ∈ aroundL F (u : Int) (mm : Int), ∃ k ∈ row, x ∈ edgeAt es k := fun x hx => by
            rw [coversB, allB, List.all_eq_true] at hcov
            have := hcov x hx
            rw [anyB, List.any_eq_true] at this
            obtain ⟨k, hk, hb⟩ := this
            exact ⟨k, hk, hasB_iff.1 hb⟩
          obtain ⟨k0, hk0, hk0u⟩ := hall _ hself
          have hrow : ∀ k ∈ row, k = k0 := by
            cases row with
            | nil => simp at hk0
            | cons a l =>
              cases l with
              | nil => intro k hk; rw [List.mem_singleton.1 hk, List.mem_singleton.1 hk0]
              | cons b l => simp at hlen; omega
          have hem : edgeAt es k0 ∈ es := by
            rw [edgeAt, List.getD_eq_getElem?_getD] at hk0u ⊢
            cases hg : es[k0.toNat]? with
            | none => rw [hg] at hk0u; simp at hk0u
            | some e => exact List.mem_of_getElem? hg
          rcases hW _ hem with hno | ⟨m, t, hm, hmt⟩
          · exact hno u ((ofTo_mem hh hem).2 hk0u) hvu
          · have hsub : ∀ j s', g j = some s' → s'.testBit u = true → SubN s' t := fun j s' hj hb w hw => by
              obtain ⟨f, hf, hfs⟩ := h2 j s' hj
              have hwv : VerG g w := ⟨j, s', hj, hw⟩
              have hwn : (w : Int) ∈ aroundL F (u : Int) (mm : Int) := mem_around.2 ⟨hlt w hwv, Or.inr ⟨f, hf, hfs u hb, hfs w hw⟩⟩
              obtain ⟨k, hk, hwk⟩ := hall _ hwn
              rw [hrow k hk] at hwk
              exact hmt w ((ofTo_mem hh hem).2 hwk) hwv
            have hut : t.testBit u = true := hmt u ((ofTo_mem hh hem).2 hk0u) hvu
            obtain ⟨_, h4, _⟩ := hS m t hm
            obtain ⟨j, s', hjm, hj, hb⟩ := h4 u hut
            obtain ⟨_, _, h5⟩ := hS j s' hj
            exact h5 m t (Ne.symm hjm) hm (hsub j s' hj hb)
        · refine ih _ _ (fun u hu => ?_) (fun i s hi => ?_)
          · rw [withoutL, List.mem_filter]
            exact ⟨h1 u hu, by simp only [bne_iff_ne, ne_eq]; exact fun hh => hver ⟨u, hh.symm, hu⟩⟩
          · obtain ⟨f, hf, hfs⟩ := h2 i s hi
            refine ⟨withoutL f v, List.mem_map.2 ⟨f, List.mem_append_left _ hf, rfl⟩, fun u hu => ?_⟩
            rw [withoutL, List.mem_filter]
            exact ⟨hfs u hu, by simp only [bne_iff_ne, ne_eq]; exact fun hh => hver ⟨u, hh.symm, ⟨i, s, hi, hu⟩⟩⟩
/-- The edges, as they begin. -/
def startG (es : List (List Int)) : Nat → Option Nat := fun i => (es[i]?).map ofTo
omit hh in
theorem start_in : InG es (startG es) := fun i s hi => by
  rw [startG, Option.map_eq_some_iff] at hi
  obtain ⟨e, he, rfl⟩ := hi
  exact ⟨e, List.mem_of_getElem? he, fun u hu => hu⟩
omit hh in
theorem start_within : WithinG es (startG es) := fun e he => by
  obtain ⟨k, hk⟩ := List.mem_iff_getElem?.1 he
  exact Or.inr ⟨k, ofTo e, by rw [startG, hk]; rfl, fun u hu _ => hu⟩
/-- THE STAGE's THEOREM, plainly: reduced to nothing just if all can be taken away, what is around each within one edge. -/
theorem gyo_law (hb : bareB (mm : Int) es = false) {g : Nat → Option Nat} (hR : Reach (startG es) g) (hS : Stuck g) : (∀ i, g i = none) ↔ widthB es (mm : Int) 1 mm es (vertsL (mm : Int)) = true := by
  constructor
  · intro hn
    refine good_reach hh hR start_in hn mm es (vertsL (mm : Int)) (by rw [vertsL_len]; omega) (fun x hx => ?_) (fun f hf x hx => ?_) (fun f hf => ?_)
    · obtain ⟨h0, h1⟩ := mem_vertsL.1 hx
      obtain ⟨u, rfl⟩ := Int.eq_ofNat_of_zero_le h0
      refine ⟨u, rfl, by omega, ?_⟩
      rw [bareB, Bool.not_eq_false', allB, List.all_eq_true] at hb
      have := hb _ hx
      rw [anyB, List.any_eq_true] at this
      obtain ⟨e, he, hbe⟩ := this
      obtain ⟨k, hk⟩ := List.mem_iff_getElem?.1 he
      exact ⟨k, ofTo e, by rw [startG, hk]; rfl, (ofTo_mem hh he).2 (hasB_iff.1 hbe)⟩
    · obtain ⟨u, rfl, hu⟩ := verts_lt hh hf hx
      exact mem_vertsL.2 ⟨by omega, by omega⟩
    · obtain ⟨k, hk⟩ := List.mem_iff_getElem?.1 hf
      exact Or.inr ⟨k, ofTo f, by rw [startG, hk]; rfl, fun x hx => by
        obtain ⟨u, rfl, hu⟩ := verts_lt hh hf hx
        exact ⟨u, rfl, (ofTo_mem hh hf).2 hx⟩⟩
  · intro hw i
    cases hi : g i with
    | none => rfl
    | some s =>
      exfalso
      have hI := reach_in hR (start_in (es := es))
      have hno := stuck_no hh hI (reach_within hR start_within) hS hi mm es (vertsL (mm : Int)) (fun u ⟨j, s', hj, hb'⟩ => by
        obtain ⟨e, he, hs⟩ := hI j s' hj
        obtain ⟨v, hv, hl⟩ := verts_lt hh he ((ofTo_mem hh he).1 (hs u hb'))
        exact mem_vertsL.2 ⟨by omega, by omega⟩) (fun j s' hj => by
        obtain ⟨e, he, hs⟩ := hI j s' hj
        exact ⟨e, he, fun u hu => (ofTo_mem hh he).1 (hs u hu)⟩)
      rw [hw] at hno; cases hno
end
end Go.Proofs.YtceiaekkfabeaaaDoor

/- Which bags may be: what decomp's Check says is what the document says. -/
namespace Go.Proofs.YtceiaekkfabeaaaDoor
open Go.RowKit Pl

theorem all_congr2 {α : Type} {p q : α → Bool} : ∀ {l : List α}, (∀ x ∈ l, p x = q x) → l.all p = l.all q
  | [], _ => rfl
  | x :: l, h => by rw [List.all_cons, List.all_cons, h x (by simp), all_congr2 (fun y hy => h y (by simp [hy]))]
theorem any_congr2 {α : Type} {p q : α → Bool} : ∀ {l : List α}, (∀ x ∈ l, p x = q x) → l.any p = l.any q
  | [], _ => rfl
  | x :: l, h => by rw [List.any_cons, List.any_cons, h x (by simp), any_congr2 (fun y hy => h y (by simp [hy]))]
theorem ofTo_has {l : List Int} (h : ∀ v ∈ l, 0 ≤ v) {v : Int} (hv : 0 ≤ v) : (ofTo l).testBit v.toNat = hasB l v := by
  rw [ofTo_testBit, Bool.eq_iff_iff, hasB_iff, List.any_eq_true]
  constructor
  · rintro ⟨x, hx, hxe⟩
    rw [beq_iff_eq] at hxe
    have := h x hx
    obtain rfl : x = v := by omega
    exact hx
  · exact fun hm => ⟨v, hm, by simp⟩
theorem sub_within {e m : List Int} (he : ∀ v ∈ e, 0 ≤ v) (hm : ∀ v ∈ m, 0 ≤ v) : (sdn (ofTo e) (ofTo m) == 0) = withinB e m := by
  rw [Bool.eq_iff_iff, beq_iff_eq, sdn_zero, withinB, allB, List.all_eq_true]
  constructor
  · intro h v hv
    rw [← ofTo_has hm (he v hv)]
    exact h _ (by rw [ofTo_has he (he v hv), hasB_iff]; exact hv)
  · intro h i hi
    rw [ofTo_testBit, List.any_eq_true] at hi
    obtain ⟨v, hv, hvi⟩ := hi
    rw [beq_iff_eq] at hvi
    subst hvi
    rw [ofTo_has hm (he v hv)]
    exact h v hv
theorem rises_nonneg {l : List Int} {m : Int} (h : risesB l m = true) : ∀ v ∈ l, 0 ≤ v := fun v hv => by
  obtain ⟨i, hi⟩ := List.mem_iff_getElem?.1 hv
  exact (risesB_iff.1 h i v hi).1
/-- What shaped bags are. -/
theorem shaped_bags {many : Int} {n : Nat} {bs : List Bag} (h : shapedB many n bs = true) : bs.length ≤ 64 ∧ ∀ (i : Nat) (b : Bag), bs[i]? = some b → risesB b.vs many = true ∧ risesB b.es n = true ∧ -1 ≤ b.parent ∧ b.parent < i := by
  simp only [shapedB, Bool.and_eq_true, decide_eq_true_eq] at h
  refine ⟨h.1, fun i b hb => ?_⟩
  have := allI_iff.1 h.2 i b hb
  simp only [bagFormB, Bool.and_eq_true, decide_eq_true_eq, Nat.zero_add] at this
  exact ⟨this.1.1.1, this.1.1.2, this.1.2, this.2⟩
theorem length_filter_idx {bs : List Bag} {f : Bag → Bool} {g : Nat → Bool} (h : ∀ (i : Nat) (b : Bag), bs[i]? = some b → f b = g i) : ((List.range bs.length).filter g).length = (bs.filter f).length := by
  have hb : bs = (List.range bs.length).map fun i => (bs[i]?).getD ⟨[], [], 0⟩ := by
    apply List.ext_getElem?
    intro i
    rw [List.getElem?_map]
    by_cases hi : i < bs.length
    · rw [List.getElem?_range hi]; simp [hi]
    · rw [List.getElem?_eq_none (by omega), List.getElem?_eq_none (by simpa using hi)]; rfl
  conv => rhs; rw [hb]
  rw [List.filter_map, List.length_map]
  congr 1
  apply List.filter_congr
  intro i hi
  have hi' := List.mem_range.1 hi
  have hg := List.getElem?_eq_getElem hi'
  simp only [Function.comp]
  rw [hg]
  exact (h i _ hg).symm
theorem tops_eq {many : Int} {n : Nat} {bs : List Bag} (h : shapedB many n bs = true) {v : Nat} : (topsC bs (bs.map fun b => ofTo b.vs) v bs.length : Int) = topsN bs (v : Int) bs := by
  obtain ⟨_, hs⟩ := shaped_bags h
  have hT : ∀ i : Nat, (bs.map fun b => ofTo b.vs).getD i 0 = ofTo ((bs[i]?).getD ⟨[], [], 0⟩).vs := fun i => by
    rw [List.getD_eq_getElem?_getD, List.getElem?_map]
    cases bs[i]? <;> rfl
  have hV : ∀ i : Nat, (ofTo ((bs[i]?).getD ⟨[], [], 0⟩).vs).testBit v = hasB ((bs[i]?).getD ⟨[], [], 0⟩).vs (v : Int) := fun i => by
    have := ofTo_has (l := ((bs[i]?).getD ⟨[], [], 0⟩).vs) (v := (v : Int)) (fun x hx => by
      cases hb : bs[i]? with
      | none => rw [hb] at hx; simp at hx
      | some b => rw [hb] at hx; exact rises_nonneg (hs i b hb).1 x hx) (by omega)
    rwa [Int.toNat_natCast] at this
  rw [topsC, topsN, length_filter_idx (f := topB bs (v : Int)) (g := fun i => topC (bs.map fun b => ofTo b.vs) v (i, (bs[i]?).getD ⟨[], [], 0⟩)) (fun i b hb => ?_)]
  rw [topC, hT, hV, hT, hV, topB]
  simp only [hb, Option.getD_some]
theorem check_law {many : Int} {es : List (List Int)} {bs : List Bag} (h : hyperB many es = true) : checkE many es bs = if rightB many es bs then 0 else 310 := by
  obtain ⟨hp1, hp2, hp3, hp4⟩ := hyperB_parts h
  obtain ⟨mm, rfl⟩ := Int.eq_ofNat_of_zero_le hp1
  rw [checkE, if_neg (by simp [h])]
  cases hsh : shapedB (mm : Int) es.length bs with
  | false =>
    rw [if_pos rfl]
    have : rightB (mm : Int) es bs = false := by
      rw [Bool.eq_false_iff]
      intro hr
      simp only [rightB, Bool.and_eq_true, decide_eq_true_eq] at hr
      have : shapedB (mm : Int) es.length bs = true := by
        simp only [shapedB, Bool.and_eq_true, decide_eq_true_eq]
        refine ⟨hr.1.1.1, allI_iff.2 fun i b hb => ?_⟩
        have := allI_iff.1 hr.1.1.2 i b hb
        simp only [Bool.and_eq_true] at this
        exact this.1
      rw [hsh] at this; cases this
    rw [this]; rfl
  | true =>
    rw [if_neg (by simp)]
    obtain ⟨h64, hs⟩ := shaped_bags hsh
    have hnn := hyper_nonneg h
    have e1 : allB (okByB (es.map ofTo)) bs = allI (fun i b => bagFormB (mm : Int) es.length i b && coversB es b.es b.vs) 0 bs := by
      rw [Bool.eq_iff_iff, allB, List.all_eq_true, allI_iff]
      constructor
      · intro hh i b hb
        have h1 := hh b (List.mem_of_getElem? hb)
        have h2 : bagFormB (mm : Int) es.length (0 + i) b = true := by
          simp only [shapedB, Bool.and_eq_true] at hsh
          exact allI_iff.1 hsh.2 i b hb
        have h3 : coversB es b.es b.vs = true := by rw [covers_covP hnn (rises_nonneg (hs i b hb).1)]; exact h1
        rw [h2, h3]; rfl
      · intro hh b hb
        obtain ⟨i, hi⟩ := List.mem_iff_getElem?.1 hb
        have := hh i b hi
        simp only [Bool.and_eq_true] at this
        have h3 := this.2
        rw [covers_covP hnn (rises_nonneg (hs i b hi).1)] at h3
        exact h3
    have e2 : allB (okInB (bs.map fun b => ofTo b.vs)) (es.map ofTo) = allB (fun e => anyB (fun b => withinB e b.vs) bs) es := by
      rw [allB, allB, List.all_map]
      refine all_congr2 fun e he => ?_
      simp only [Function.comp]
      rw [okInB, anyB, List.any_map]
      refine any_congr2 fun b hb => ?_
      obtain ⟨i, hi⟩ := List.mem_iff_getElem?.1 hb
      exact sub_within (hnn e he) (rises_nonneg (hs i b hi).1)
    have e3 : allB (fun v => topsC bs (bs.map fun b => ofTo b.vs) v bs.length == 1) (List.range (mm : Int).toNat) = allB (fun v => decide (topsN bs v bs = 1)) (vertsL (mm : Int)) := by
      rw [allB, allB, vertsL, List.all_map]
      refine all_congr2 fun v hv => ?_
      simp only [Function.comp]
      have := tops_eq hsh (v := v)
      rw [show (Int.ofNat v) = (v : Int) from rfl, ← this]
      rw [Bool.eq_iff_iff, beq_iff_eq, decide_eq_true_eq]
      omega
    rw [e1, e2, e3, rightB, decide_eq_true h64, Bool.true_and]
end Go.Proofs.YtceiaekkfabeaaaDoor
