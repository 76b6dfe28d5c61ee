/- Words and contracts for: DecompOf: for every hypergraph, and row of widths, the law answers true, and its arguments read as before. No condition; the library's table math/bits.deBruijn64tab is laid by its text. -/
import Derived.Test.YtceiaekkfabeaaaDoorZol
/- The document's Width (18): walked. -/
namespace Go.Proofs.YtceiaekkfabeaaaDoor
open Go.RowKit Go.Shelf Pl
attribute [local go_sem] Oper.semAt_some

/-- Within a region whose calls let all that was there be: each value that is there is known of. -/
structure PhX (W0 : World) (Fact : Nat → Value → World → Prop) (s : Nat → Value) (l : Nat → Bool) (w : World) : Prop where
  ext : Ext No W0 w
  get : ∀ i, l i = true → Fact i (s i) w
theorem PhX.start {W0 : World} {Fact : Nat → Value → World → Prop} {s : Nat → Value} : PhX W0 Fact s (fun _ => false) W0 := ⟨Ext.refl _ _, by simp⟩
theorem PhX.step {W0 w w' : World} {Fact : Nat → Value → World → Prop} {s : Nat → Value} {l : Nat → Bool} (h : PhX W0 Fact s l w) (hst : ∀ i v w w', Ext No w w' → Fact i v w → Fact i v w') (i : Nat) {v : Value} (hx : Ext No w w') (hf : Fact i v w') : PhX W0 Fact (setS s i v) (setL l i) w' := by
  refine ⟨h.ext.trans hx, fun j hj => ?_⟩
  by_cases hji : j = i
  · subst hji; rw [setS, if_pos rfl]; exact hf
  · rw [setS, if_neg hji]; rw [setL, if_neg hji] at hj; exact hst _ _ _ _ hx (h.get j hj)

theorem aroundL_le (edges : List (List Int)) (v many : Int) (h : many ≤ 900) : (aroundL edges v many).length ≤ 900 := by
  have h1 : (aroundL edges v many).length ≤ (vertsL many).length := List.length_filter_le _ _
  have h2 : (vertsL many).length ≤ 900 := by rw [vertsL]; simp; omega
  omega
theorem withoutL_lt {l : List Int} {x : Int} (h : x ∈ l) : (withoutL l x).length < l.length := by
  rw [withoutL]
  exact List.length_filter_lt_length_iff_exists.2 ⟨x, h, by simp⟩
/-- May a vertex be taken away here? -/
def stepB (es : List (List Int)) (many most : Int) (n : Nat) (edges : List (List Int)) (left : List Int) (v : Int) : Bool := match refCover es (aroundL edges v many) with
    | none => false
    | some row => decide ((row.length : Int) ≤ most) && widthB es many most n (nextL edges many v) (withoutL left v)
theorem widthB_succ (es : List (List Int)) (many most : Int) (n : Nat) (edges : List (List Int)) (left : List Int) : widthB es many most (n + 1) edges left = (left.isEmpty || left.any (stepB es many most n edges left)) := rfl
theorem any_no {f : Int → Bool} {l : List Int} (h : ∀ (i : Nat) x, i < l.length → l[i]? = some x → f x = false) : l.any f = false := by
  rw [List.any_eq_false]
  intro x hx
  obtain ⟨i, hi⟩ := List.mem_iff_getElem?.1 hx
  rw [h i x (List.getElem?_eq_some_iff.1 hi).1 hi]; simp
theorem any_yes {f : Int → Bool} {l : List Int} {i : Nat} {x : Int} (hi : l[i]? = some x) (h : f x = true) : l.any f = true := List.any_eq_true.2 ⟨x, List.mem_of_getElem? hi, h⟩

theorem rows_lit {P : Nat → Prop} {w : World} {v : Value} {xs : List (List Int)} (h : RowsR P w v xs) : RowsR (fun k => k < w.heap.size ∧ some k ≠ (Value.slice (some ⟨w.heap.size, 0, none⟩) 0 0).ownBlock) (w.alloc (.cells #[] 28)) v xs :=
  ((h.imp (P' := fun k => k < w.heap.size) (fun _ hk _ => hk)).no ((Ext.refl _ _).alloc _)).imp (fun k _ hk => ⟨hk, fun he => by simp only [Value.ownBlock, Option.some.injEq] at he; omega⟩)
theorem ints_lit {P : Nat → Prop} {base : Nat} {w w3 : World} {v v3 : Value} {xs : List Int} {xss : List (List Int)} {Q : Nat → Prop} (h : IntsR .i64 P w v xs) (hx : Ext (fun k => some k = (Value.slice (some ⟨w.heap.size, 0, none⟩) 0 0).ownBlock) (w.alloc (.cells #[] 28)) w3)
    (ho : OwnRows Q base w3 v3 xss) (hb : base = w.heap.size) : IntsR .i64 (fun k => k < w.heap.size ∧ some k ≠ v3.ownBlock) w3 v xs :=
  (((h.imp (P' := fun k => k < w.heap.size) (fun _ hk _ => hk)).no ((Ext.refl _ _).alloc _)).ext hx (fun k hk he => by simp only [Value.ownBlock, Option.some.injEq] at he; omega)).imp (fun k _ hk => ⟨hk, fun he => by have := (ho.ge k he.symm).1; omega⟩)

set_option maxRecDepth 100000 in
set_option maxHeartbeats 4000000 in
theorem refWidth_any (many most : Int) (es : List (List Int)) (hes : es.length ≤ 20) (hmany : many ≤ 900) : ∀ (n : Nat) {P P1 P2 : Nat → Prop} (ev dv lv : Value) (edges : List (List Int)) (left : List Int) (w : World) (_ : RowsR P w ev es) (_ : RowsR P1 w dv edges) (_ : IntsR .i64 P2 w lv left)
    (_ : left.length ≤ n) (_ : n ≤ 1000) (_ : edges.length + n ≤ 100000) (_ : ∀ e ∈ edges, e.length ≤ 1000),
    Calls Tryd.prog 18 #[.agg #[.int .i64 many, ev], dv, lv, .int .i64 most] w fun e w' => e = .returned (.bool (widthB es many most n edges left)) ∧ Ext No w w' := by
  intro n
  induction n with
  | zero =>
    intro P P1 P2 ev dv lv edges left w he hd hl hln _ _ _
    obtain ⟨Ae, ce, rfl, _⟩ := he.at
    obtain ⟨Ad, cd, rfl, _⟩ := hd.at
    obtain ⟨Al, cl, rfl, _⟩ := hl.at
    obtain rfl : left = [] := List.eq_nil_of_length_eq_zero (by omega)
    clear he hd hl
    go_enter Tryd.func18, Tryd.ntmps18
    go_wp2
    go_ret
    exact ⟨rfl, ext_box _⟩
  | succ n ih =>
    intro P P1 P2 ev dv lv edges left w he hd hl hln hn1 hn2 hrow
    obtain ⟨Ae, ce, rfl, _⟩ := he.at
    obtain ⟨Ad, cd, rfl, _⟩ := hd.at
    obtain ⟨Al, cl, rfl, _, hml, hatl⟩ := hl.at
    have HE := Sid.mk he
    have HD := Sid.mk hd
    have HL := Sid.mk hl
    have HATL := Sid.mk hatl
    have HROW := Sid.mk hrow
    have HLN := Sid.mk hln
    have HN2 := Sid.mk hn2
    clear he hd hl hatl hrow hln hn2
    by_cases hl0 : left.length = 0
    · obtain rfl : left = [] := List.eq_nil_of_length_eq_zero hl0
      go_enter Tryd.func18, Tryd.ntmps18
      go_wp2
      go_ret
      exact ⟨rfl, ext_box _⟩
    · have HB0 : Sid (∀ w', Ext No (w.alloc (.cells #[.int .i64 many, .slice Ae es.length ce] 24)) w' → w'.cell? ⟨w.heap.size, 0, none⟩ = some (.int .i64 many) ∧ w'.cell? ⟨w.heap.size, 1, none⟩ = some (.slice Ae es.length ce)) := ⟨fun w' hx => ⟨hx.no (by simp), hx.no (by simp)⟩⟩
      have hl1 : ((left.length : Int) == 0) = false := by simpa using hl0
      have HEMP : Sid (left.isEmpty = false) := ⟨by cases left with | nil => simp at hl0 | cons a l => rfl⟩
      have HXB : Sid (Ext No w (w.alloc (.cells #[.int .i64 many, .slice Ae es.length ce] 24))) := ⟨ext_box _⟩
      go_enter Tryd.func18, Tryd.ntmps18
      go_wp2
      go_loopw [22] (fun tv wr => ∃ k : Nat, k ≤ left.length ∧ tv = .int .i64 (k : Int) ∧ Sid (∀ (i : Nat) x, i < k → left[i]? = some x → stepB es many most n edges left x = false) ∧ Sid (Ext No (w.alloc (.cells #[.int .i64 many, .slice Ae es.length ce] 24)) wr)) (fun tv _ => left.length - (intOf tv).toNat)
      case atStart => exact ⟨0, Nat.zero_le _, rfl, ⟨fun i x hi => by omega⟩, ⟨Ext.refl _ _⟩⟩
      case round =>
        obtain ⟨k, hk, rfl, HNO, HX⟩ := hrel
        have hb0 := (HB0.out _ HX.out).1
        have hb1 := (HB0.out _ HX.out).2
        by_cases hkl : k < left.length
        · obtain ⟨bl, offl, x, rfl, hPl, hcl0, HXK⟩ := HATL.out k hkl
          have hcl := ((ext_box (w := w) (.cells #[.int .i64 many, .slice Ae es.length ce] 24)).trans HX.out).no hcl0
          obtain ⟨near, hnear⟩ : ∃ near, near = aroundL edges x many := ⟨_, rfl⟩
          have HNEAR := Sid.mk hnear
          have HNL : Sid (near.length ≤ 900) := ⟨by rw [hnear]; exact aroundL_le _ _ _ hmany⟩
          clear hnear hcl0
          obtain ⟨wo, hwo⟩ : ∃ wo : World, wo = wr := ⟨_, rfl⟩
          cases hrc : refCover es near with
          | none =>
            have HRC := Sid.mk hrc
            clear hrc
            have HSB : Sid (stepB es many most n edges left x = false) := ⟨by rw [stepB, ← HNEAR.out, HRC.out]⟩
            go_wp2_with (first
              | (go_at_call 41; refine (around_any _ edges x many _ (HD.out.no (HXB.out.trans HX.out)) (by omega)).mono ?_; rintro e w1 ⟨v1, rfl, hr1, hx1⟩; rw [← HNEAR.out] at hr1; obtain ⟨A1, c1, rfl, _⟩ := hr1.at; have hb2 := hx1.no hb0; have hb3 := hx1.no hb1; have HR1 := Sid.mk hr1; have HX1 := Sid.mk hx1; clear hr1 hx1)
              | (go_at_call 14; refine (refCover_any many _ _ es near _ (HE.out.no ((HXB.out.trans HX.out).trans HX1.out)) HR1.out hes HNL.out).mono ?_; rintro e w2 ⟨v2, b2, rfl, ho2, hx2⟩; rw [HRC.out] at ho2; obtain ⟨rfl, rfl⟩ := ho2; have HX2 := Sid.mk hx2; clear hx2))
            go_roundw
            case rel => exact ⟨k + 1, by omega, by go_num, ⟨fun i y hi hy => by
              by_cases hik : i = k
              · subst hik; rw [HXK.out] at hy; cases hy; exact HSB.out
              · exact HNO.out i y (by omega) hy⟩, ⟨(HX.out.trans HX1.out).trans HX2.out⟩⟩
            case measure => simp [intOf]; omega
          | some row =>
            have HRC := Sid.mk hrc
            clear hrc
            by_cases hmost : (row.length : Int) ≤ most
            · have hgt : decide (most < (row.length : Int)) = false := by simp; omega
              have HSB : Sid (stepB es many most n edges left x = widthB es many most n (nextL edges many x) (withoutL left x)) := ⟨by rw [stepB, ← HNEAR.out, HRC.out]; simp [hmost]⟩
              obtain ⟨all, hall⟩ : ∃ all, edges ++ [near] = all := ⟨_, rfl⟩
              have HALL := Sid.mk hall
              have HALL2 : Sid (edges.length + 1 = all.length) := ⟨by rw [← hall]; simp⟩
              clear hall
              have HSZ : Sid (w.heap.size ≤ wo.heap.size) := ⟨by rw [hwo]; exact (HXB.out.trans HX.out).size⟩
              go_wp2_with (first
                | (go_at_call 41; refine (around_any _ edges x many _ (HD.out.no (HXB.out.trans HX.out)) (by omega)).mono ?_; rintro e w1 ⟨v1, rfl, hr1, hx1⟩; rw [← HNEAR.out] at hr1; obtain ⟨A1, c1, rfl, _⟩ := hr1.at; have hb2 := hx1.no hb0; have hb3 := hx1.no hb1; have HR1 := Sid.mk hr1; have HX1 := Sid.mk hx1; clear hr1 hx1)
                | (go_at_call 14; refine (refCover_any many _ _ es near _ (HE.out.no ((HXB.out.trans HX.out).trans HX1.out)) HR1.out hes HNL.out).mono ?_; rintro e w2 ⟨v2, b2, rfl, ho2, hx2⟩; rw [HRC.out] at ho2; obtain ⟨rfl, ho2⟩ := ho2; obtain ⟨A2, c2, rfl, _⟩ := ho2.at; have hb4 := hx2.no hb2; have hb5 := hx2.no hb3; have HX2 := Sid.mk hx2; clear hx2 ho2)
                | (at_builtin; refine appRows (P := fun k => k < w2.heap.size) w2.heap.size rfl (.tmp 45) (.tmp 46) 22 rfl Tryd.underlying22 info28 _ [] edges _ rfl rfl (OwnRows.lit _ _) (rows_lit (HD.out.no (((HXB.out.trans HX.out).trans HX1.out).trans HX2.out))) (by simp) (by have := HN2.out; simp; omega) ?_; intro v3 w3 ho3 hx3 hb3 hs3; rw [List.nil_append] at ho3; rw [List.length_nil, Nat.zero_add] at hs3; obtain ⟨A3, c3, rfl⟩ := hs3; have HO3 := Sid.mk ho3; have HX3 := Sid.mk hx3; have HN3 : Sid (IntsR .i64 (fun k => k < w2.heap.size ∧ some k ≠ (Value.slice A3 edges.length c3).ownBlock) w3 (.slice A1 near.length c1) near) := ⟨ints_lit (HR1.out.no HX2.out) HX3.out HO3.out rfl⟩; clear ho3 hx3 hb3)
                | (at_builtin; refine appRow (P := fun k => k < w2.heap.size) w2.heap.size rfl (.tmp 47) (.tmp 49) 22 rfl Tryd.underlying22 info28 _ edges _ near rfl rfl (by simp) HO3.out HN3.out (by have := HX3.out.size; simp at this; omega) (by have := HN2.out; omega) ?_; intro v4 w4 ho4 hx4 hb4 hs4; rw [HALL.out] at ho4; rw [HALL2.out] at hs4; obtain ⟨A4, c4, rfl⟩ := hs4; have HO4 := Sid.mk ho4; have HX4 := Sid.mk hx4; clear ho4 hx4 hb4))
              have HR4 := Sid.mk (HO4.out.rows (P' := fun _ => True) (by have := HALL2.out; have := HN2.out; omega) (fun _ _ => trivial) (fun _ _ => trivial))
              obtain ⟨_, _, eq4, _, _, hat4⟩ := HR4.out.at
              simp only [Value.slice.injEq, true_and] at eq4
              obtain ⟨rfl, rfl⟩ := eq4
              have HAT4 := Sid.mk hat4
              clear hat4
              have HX24 : Sid (Ext No w2 w4) := ⟨HO3.out.step ((OwnRows.lit (fun k => k < w2.heap.size) w2).step (ext_box _) HX3.out) HX4.out⟩
              have HXT : Sid (Ext No (w.alloc (.cells #[.int .i64 many, .slice Ae es.length ce] 24)) w4) := ⟨((HX.out.trans HX1.out).trans HX2.out).trans HX24.out⟩
              have HALR : Sid (∀ r ∈ all, r.length ≤ 1000) := ⟨fun r hr => by
                rw [← HALL.out, List.mem_append, List.mem_singleton] at hr
                rcases hr with hr | rfl
                · exact HROW.out r hr
                · have := HNL.out; omega⟩
              have hb6 := (HB0.out w4 HXT.out).1
              have hb7 := (HB0.out w4 HXT.out).2
              go_loopw [14, 52] (fun v i ws => ∃ j : Nat, j ≤ all.length ∧ i = .int .i64 (j : Int) ∧ Sid (OwnRows (fun k => w4.heap.size ≤ k) w4.heap.size ws v ((all.take j).map (withoutL · x))) ∧ Sid (Ext No w4 ws)) (fun _ i _ => all.length - (intOf i).toNat)
              case atStart => exact ⟨0, Nat.zero_le _, rfl, ⟨by simpa using OwnRows.nil _ _ _⟩, ⟨Ext.refl _ _⟩⟩
              case round =>
                obtain ⟨j, hj, rfl, HO, HXa⟩ := hrel
                by_cases hjl : j < all.length
                · obtain ⟨b4, off4, A5, c5, r, rfl, _, hcr0, HRJ, HIJ⟩ := HAT4.out j hjl
                  have hcr := HXa.out.no hcr0
                  have HIR := Sid.mk (HIJ.out.no HXa.out)
                  have HRL : Sid (r.length ≤ 1000) := ⟨HALR.out r (List.mem_of_getElem? HRJ.out)⟩
                  obtain ⟨wz, hwz⟩ : ∃ wz : World, wz = wr := ⟨_, rfl⟩
                  clear hcr0
                  go_wp2_with (first
                    | (go_at_call 42; refine (without_any _ r x _ HIR.out (by have := HRL.out; omega)).mono ?_; rintro e w5 ⟨v5, rfl, hr5, hx5⟩; obtain ⟨A6, c6, rfl, _⟩ := hr5.at; have HR5 := Sid.mk hr5; have HX5 := Sid.mk hx5; clear hr5 hx5)
                    | (at_builtin; refine appRow (P := fun k => w4.heap.size ≤ k) w4.heap.size rfl (.tmp 56) (.tmp 60) 22 rfl Tryd.underlying22 info28 _ _ _ (withoutL r x) rfl rfl (by simp) (HO.out.no HX5.out) ?c1 ?c2 ?c3 ?_; (case c1 => exact HR5.out.imp (fun k _ hk => ⟨by have := HXa.out.size; omega, fun he => by have := (HO.out.ge k he.symm).2; omega⟩)); (case c2 => have h1 := HXa.out.size; have h2 := HX5.out.size; omega); (case c3 => have := HALL2.out; have := HN2.out; rw [List.length_map, List.length_take]; omega); intro v6 w6 ho6 hx6 hb6 hs6; have HO6 := Sid.mk ho6; have HX6 := Sid.mk hx6; clear ho6 hx6 hb6 hs6))
                  go_roundw
                  case rel => exact ⟨j + 1, by omega, by go_num, ⟨by rw [take_map_succ HRJ.out]; exact HO6.out⟩, ⟨(HO.out.no HX5.out).step (HXa.out.trans HX5.out) HX6.out⟩⟩
                  case measure => simp [intOf]; omega
                · obtain rfl : j = all.length := by omega
                  have HNX : Sid (RowsR (fun k => w4.heap.size ≤ k) wr u14 (nextL edges many x)) := ⟨by
                    have h := HO.out
                    rw [List.take_length, ← HALL.out, HNEAR.out] at h
                    exact h.rows (by have := HALL2.out; have := HN2.out; rw [List.length_map, List.length_append, List.length_singleton]; omega) (fun k hk => (h.ge k hk).1) (fun k hk => hk)⟩
                  clear HO
                  have HXW : Sid (Ext No (w.alloc (.cells #[.int .i64 many, .slice Ae es.length ce] 24)) wr) := ⟨HXT.out.trans HXa.out⟩
                  have hxm : x ∈ left := List.mem_of_getElem? HXK.out
                  have HWL : Sid ((withoutL left x).length ≤ n) := ⟨by
                    have h1 := HLN.out
                    have h2 : (withoutL left x).length < left.length := withoutL_lt hxm
                    omega⟩
                  clear hxm
                  obtain ⟨L2, hL2⟩ : ∃ L2, L2 = withoutL left x := ⟨_, rfl⟩
                  obtain ⟨N2, hN2⟩ : ∃ N2, N2 = nextL edges many x := ⟨_, rfl⟩
                  obtain ⟨R, hR⟩ : ∃ R, R = widthB es many most n N2 L2 := ⟨_, rfl⟩
                  rw [← hL2, ← hN2, ← hR] at HSB
                  rw [← hL2] at HWL
                  rw [← hN2] at HNX
                  have HNR : Sid (N2.length + n ≤ 100000 ∧ ∀ e ∈ N2, e.length ≤ 1000) := ⟨by
                    rw [hN2, nextL, ← HNEAR.out, HALL.out]
                    refine ⟨by have := HALL2.out; have := HN2.out; rw [List.length_map]; omega, fun e he => ?_⟩
                    obtain ⟨r, hr, rfl⟩ := List.mem_map.1 he
                    exact Nat.le_trans (withoutL_len r x) (HALR.out r hr)⟩
                  have HRR := Sid.mk hR
                  have HL2 := Sid.mk hL2
                  clear hR hL2 hN2
                  obtain ⟨Fact, hFact⟩ : ∃ Fact : Nat → Value → World → Prop, Fact = fun i u X => (i = 0 → u = .agg #[.int .i64 many, .slice Ae es.length ce]) ∧ (i = 1 → u = u14) ∧ (i = 2 → u = .slice (some ⟨bl, offl, none⟩) left.length cl) ∧ (i = 3 → u = .int .i64 x) ∧ (i = 4 → IntsR .i64 (fun k => wr.heap.size ≤ k) X u L2) ∧ (i = 5 → u = .int .i64 most) ∧ (i = 6 → u = .bool R) := ⟨_, rfl⟩
                  have HST : Sid (∀ i u X X', Ext No X X' → Fact i u X → Fact i u X') := ⟨fun i u X X' hx hf => by
                    rw [hFact] at hf ⊢
                    obtain ⟨h0, h1, h2, h3, h4, h5, h6⟩ := hf
                    exact ⟨h0, h1, h2, h3, fun h => (h4 h).no hx, h5, h6⟩⟩
                  have HF0 : Sid (∀ u X, Fact 0 u X = (u = .agg #[.int .i64 many, .slice Ae es.length ce])) := ⟨fun u X => by rw [hFact]; simp⟩
                  have HF1 : Sid (∀ u X, Fact 1 u X = (u = u14)) := ⟨fun u X => by rw [hFact]; simp⟩
                  have HF2 : Sid (∀ u X, Fact 2 u X = (u = .slice (some ⟨bl, offl, none⟩) left.length cl)) := ⟨fun u X => by rw [hFact]; simp⟩
                  have HF3 : Sid (∀ u X, Fact 3 u X = (u = .int .i64 x)) := ⟨fun u X => by rw [hFact]; simp⟩
                  have HF5 : Sid (∀ u X, Fact 5 u X = (u = .int .i64 most)) := ⟨fun u X => by rw [hFact]; simp⟩
                  have HF6 : Sid (∀ u X, Fact 6 u X = (u = .bool R)) := ⟨fun u X => by rw [hFact]; simp⟩
                  have HF4 : Sid (∀ u X, Fact 4 u X = IntsR .i64 (fun k => wr.heap.size ≤ k) X u L2) := ⟨fun u X => by rw [hFact]; simp⟩
                  obtain ⟨s0, hs0⟩ : ∃ s0 : Nat → Value, s0 = fun i => #[u63, u64, u65, u66, u67, u68, u69].getD i undef := ⟨_, rfl⟩
                  have HS0 := Sid.mk hs0
                  clear hFact hs0
                  go_wp2
                  refine (wpIn_wide (n := 0)).1 ?_
                  refine wpIn_slots (fun s => { tmps := #[.agg #[.int .i64 many, .slice Ae es.length ce], .slice Ad edges.length cd, .slice (some ⟨bl, offl, none⟩) left.length cl, .int .i64 most, .pointer (some ⟨w.heap.size, 0, none⟩), undef, undef, undef, u8, undef, .int .i64 x, .slice A1 near.length c1, .slice A2 row.length c2, .bool true, u14, undef, u16, .slice (some ⟨bl, offl, none⟩) left.length cl, .int .i64 left.length, .bool false, .slice (some ⟨bl, offl, none⟩) left.length cl, .int .i64 left.length, .int .i64 k, .bool true, .pointer (some ⟨bl, offl + k, none⟩), .int .i64 x, .slice Ad edges.length cd, .int .i64 x, .pointer (some ⟨w.heap.size, 0, none⟩), .int .i64 many, .slice A1 near.length c1, .tuple #[.slice A2 row.length c2, .bool true], .agg #[.int .i64 many, .slice Ae es.length ce], .slice A1 near.length c1, .tuple #[.slice A2 row.length c2, .bool true], .slice A2 row.length c2, .bool true, .bool true, .bool false, .bool false, .slice A2 row.length c2, .int .i64 row.length, .int .i64 most, .bool false, .bool false, .slice (some ⟨w2.heap.size, 0, none⟩) 0 0, .slice Ad edges.length cd, .slice A3 edges.length c3, .slice A1 near.length c1, .slice (some ⟨w3.heap.size, 0, none⟩) 1 1, .slice A4 all.length c4, .int .i64 all.length, .int .i64 all.length, .bool false, u54, u55, u56, u57, u58, u59, u60, u61, u62, s 0, s 1, s 2, s 3, s 4, s 5, s 6, u70], defers := [] })
                    (PhX wr.drew Fact) s0 (by kernel_rfl) (by kernel_rfl) ⟨fun _ _ => rfl, fun _ _ => rfl, fun _ _ => rfl, fun _ _ => rfl, fun _ _ => rfl, fun _ _ => rfl, fun _ _ => rfl, trivial⟩ ?ha PhX.start ⟨?s0, ?s1, ?s2, ?s3, ?s4, ?s5, ?s6, trivial⟩ ?hend
                  case ha => rw [HS0.out]; rfl
                  case s0 =>
                    intro s l X K hl hd hp hK
                    obtain ⟨hc0, hc1⟩ := HB0.out X (HXW.out.trans ((Ext.refl No wr).drew.trans hp.ext))
                    have HP := Sid.mk (hp.step HST.out 0 (v := .agg #[.int .i64 many, .slice Ae es.length ce]) (Ext.refl _ _) (by rw [HF0.out]))
                    clear hp hd
                    gi_wp2
                    exact HP.out
                  case s1 =>
                    intro s l X K hl hd hp hK
                    skip
                    have HP := Sid.mk (hp.step HST.out 1 (v := u14) (Ext.refl _ _) (by rw [HF1.out]))
                    clear hp hd
                    gi_wp2
                    exact HP.out
                  case s2 =>
                    intro s l X K hl hd hp hK
                    skip
                    have HP := Sid.mk (hp.step HST.out 2 (v := .slice (some ⟨bl, offl, none⟩) left.length cl) (Ext.refl _ _) (by rw [HF2.out]))
                    clear hp hd
                    gi_wp2
                    exact HP.out
                  case s3 =>
                    intro s l X K hl hd hp hK
                    skip
                    have HP := Sid.mk (hp.step HST.out 3 (v := .int .i64 x) (Ext.refl _ _) (by rw [HF3.out]))
                    clear hp hd
                    gi_wp2
                    exact HP.out
                  case s4 =>
                    intro s l X K hl hd hp hK
                    have e2 : s 2 = .slice (some ⟨bl, offl, none⟩) left.length cl := by have h := hp.get 2 (hd { on := 2, ground := .data } (by simp) rfl); rwa [HF2.out] at h
                    have e3 : s 3 = .int .i64 x := by have h := hp.get 3 (hd { on := 3, ground := .data } (by simp) rfl); rwa [HF3.out] at h
                    simp only [e2, e3] at hK
                    have HIW := Sid.mk (HL.out.no ((HXB.out.trans HXW.out).trans ((Ext.refl No wr).drew.trans hp.ext)))
                    have HSW : Sid (wr.heap.size ≤ X.heap.size) := ⟨by have := hp.ext.size; simpa using this⟩
                    have HP := Sid.mk hp
                    clear hp hd
                    gi_wp2_with (refine ⟨trivial, rfl, ?_⟩; gi_at_call 42; refine (callsIn_wide.2 (without_any _ left x _ HIW.out (by have := HLN.out; omega))).mono ?_; rintro e wa ⟨va, rfl, hra, hxa⟩; rw [← HL2.out] at hra; have HRA := Sid.mk hra; have HXA := Sid.mk hxa; clear hra hxa)
                    exact HP.out.step HST.out 4 HXA.out (by rw [HF4.out]; exact HRA.out.imp (fun j _ hj => by have := HSW.out; omega))
                  case s5 =>
                    intro s l X K hl hd hp hK
                    skip
                    have HP := Sid.mk (hp.step HST.out 5 (v := .int .i64 most) (Ext.refl _ _) (by rw [HF5.out]))
                    clear hp hd
                    gi_wp2
                    exact HP.out
                  case s6 =>
                    intro s l X K hl hd hp hK
                    have e0 : s 0 = .agg #[.int .i64 many, .slice Ae es.length ce] := by have h := hp.get 0 (hd { on := 0, ground := .data } (by simp) rfl); rwa [HF0.out] at h
                    have e1 : s 1 = u14 := by have h := hp.get 1 (hd { on := 1, ground := .data } (by simp) rfl); rwa [HF1.out] at h
                    have e5 : s 5 = .int .i64 most := by have h := hp.get 5 (hd { on := 5, ground := .data } (by simp) rfl); rwa [HF5.out] at h
                    have h4 : IntsR .i64 (fun k => wr.heap.size ≤ k) X (s 4) L2 := by have h := hp.get 4 (hd { on := 4, ground := .data } (by simp) rfl); rwa [HF4.out] at h
                    obtain ⟨A7, c7, e4, _⟩ := h4.at
                    rw [e4] at h4
                    simp only [e0, e1, e4, e5] at hK
                    have H4 := Sid.mk h4
                    have HXX : Sid (Ext No wr X) := ⟨(Ext.refl No wr).drew.trans hp.ext⟩
                    have HP := Sid.mk hp
                    clear hp hd h4
                    gi_wp2_with (refine ⟨trivial, rfl, ?_⟩; gi_at_call 18; refine (callsIn_wide.2 (ih _ _ _ N2 L2 _ (HE.out.no ((HXB.out.trans HXW.out).trans HXX.out)) (HNX.out.no HXX.out) H4.out HWL.out (by omega) HNR.out.1 HNR.out.2)).mono ?_; rintro e wa ⟨rfl, hxa⟩; rw [← HRR.out]; have HXA := Sid.mk hxa; clear hxa)
                    exact HP.out.step HST.out 6 HXA.out (by rw [HF6.out])
                  case hend =>
                    intro s l X hl hp
                    have e6 : s 6 = .bool R := by have h := hp.get 6 (hl 6 (by decide)); rwa [HF6.out] at h
                    have HXX : Sid (Ext No wr X) := ⟨(Ext.refl No wr).drew.trans hp.ext⟩
                    clear hp hl
                    dsimp only
                    simp only [e6]
                    clear e6
                    cases R with
                    | true =>
                      have HW : Sid (widthB es many most (n + 1) edges left = true) := ⟨by rw [widthB_succ, HEMP.out, any_yes HXK.out HSB.out]; rfl⟩
                      go_wp2
                      go_ret
                      exact ⟨by rw [HW.out]; rfl, (HXB.out.trans HXW.out).trans HXX.out⟩
                    | false =>
                      go_wp2
                      go_roundw
                      case rel => exact ⟨k + 1, by omega, by go_num, ⟨fun i y hi hy => by
                        by_cases hik : i = k
                        · subst hik; rw [HXK.out] at hy; cases hy; exact HSB.out
                        · exact HNO.out i y (by omega) hy⟩, ⟨HXW.out.trans HXX.out⟩⟩
                      case measure => simp [intOf]; omega
            · have hgt : decide (most < (row.length : Int)) = true := by simp; omega
              have HSB : Sid (stepB es many most n edges left x = false) := ⟨by rw [stepB, ← HNEAR.out, HRC.out]; simp [hmost]⟩
              go_wp2_with (first
                | (go_at_call 41; refine (around_any _ edges x many _ (HD.out.no (HXB.out.trans HX.out)) (by omega)).mono ?_; rintro e w1 ⟨v1, rfl, hr1, hx1⟩; rw [← HNEAR.out] at hr1; obtain ⟨A1, c1, rfl, _⟩ := hr1.at; have hb2 := hx1.no hb0; have hb3 := hx1.no hb1; have HR1 := Sid.mk hr1; have HX1 := Sid.mk hx1; clear hr1 hx1)
                | (go_at_call 14; refine (refCover_any many _ _ es near _ (HE.out.no ((HXB.out.trans HX.out).trans HX1.out)) HR1.out hes HNL.out).mono ?_; rintro e w2 ⟨v2, b2, rfl, ho2, hx2⟩; rw [HRC.out] at ho2; obtain ⟨rfl, ho2⟩ := ho2; obtain ⟨A2, c2, rfl, _⟩ := ho2.at; have hb4 := hx2.no hb2; have hb5 := hx2.no hb3; have HX2 := Sid.mk hx2; clear hx2 ho2))
              go_roundw
              case rel => exact ⟨k + 1, by omega, by go_num, ⟨fun i y hi hy => by
                by_cases hik : i = k
                · subst hik; rw [HXK.out] at hy; cases hy; exact HSB.out
                · exact HNO.out i y (by omega) hy⟩, ⟨(HX.out.trans HX1.out).trans HX2.out⟩⟩
              case measure => simp [intOf]; omega
        · obtain rfl : k = left.length := by omega
          have HW : Sid (widthB es many most (n + 1) edges left = false) := ⟨by rw [widthB_succ, HEMP.out, any_no HNO.out]; rfl⟩
          go_wp2
          go_ret
          exact ⟨by rw [HW.out]; rfl, HXB.out.trans HX.out⟩
end Go.Proofs.YtceiaekkfabeaaaDoor

/- The law's own copy of a hypergraph. -/
namespace Go.Proofs.YtceiaekkfabeaaaDoor
open Go.RowKit Go.Shelf Pl
attribute [local go_sem] Oper.semAt_some

theorem take_succ_of {α : Type} {l : List α} {k : Nat} {x : α} (h : l[k]? = some x) : l.take (k + 1) = l.take k ++ [x] := by
  obtain ⟨hk, rfl⟩ := List.getElem?_eq_some_iff.1 h
  exact List.take_succ_eq_append_getElem hk
/-- A hypergraph that can be gone through. -/
def ownB (many : Int) (es : List (List Int)) : Bool := decide (es.length ≤ 7) && decide (many ≤ 6) && allB (fun e => decide (e.length ≤ 8)) es

/-- What own answers. -/
def OwnPost (many : Int) (es : List (List Int)) (w : World) (e : Ending) (w' : World) : Prop :=
  Ext No w w' ∧ if ownB many es then ∃ v', e = .returned (.tuple #[.agg #[.int .i64 many, v'], .bool true]) ∧ RowsR (fun k => w.heap.size ≤ k) w' v' es else e = .returned (.tuple #[.agg #[.int .i64 0, .slice none 0 0], .bool false])
theorem OwnPost.no {many : Int} {es : List (List Int)} {w w' : World} (h : ownB many es = false) (hx : Ext No w w') : OwnPost many es w (.returned (.tuple #[.agg #[.int .i64 0, .slice none 0 0], .bool false])) w' := ⟨hx, by rw [h]; simp⟩
theorem OwnPost.yes {many : Int} {es : List (List Int)} {w w' : World} {v : Value} (h : ownB many es = true) (hx : Ext No w w') (hr : RowsR (fun k => w.heap.size ≤ k) w' v es) : OwnPost many es w (.returned (.tuple #[.agg #[.int .i64 many, v], .bool true])) w' := ⟨hx, by rw [h]; exact ⟨v, rfl, hr⟩⟩

set_option maxHeartbeats 4000000 in
set_option maxRecDepth 100000 in
theorem own_any {P : Nat → Prop} (many : Int) (ev : Value) (es : List (List Int)) (w : World) (he : RowsR P w ev es) :
    Calls Tryd.prog 9 #[.agg #[.int .i64 many, ev]] w (OwnPost many es w) := by
  obtain ⟨A, c, rfl, hc, hm, hat⟩ := he.at
  have HE := Sid.mk he
  have HAT := Sid.mk hat
  clear he hat
  by_cases h7 : es.length ≤ 7
  · by_cases h6 : many ≤ 6
    · have h7' : ¬ ((7 : Int) < (es.length : Int)) := by omega
      have h6' : ¬ ((6 : Int) < many) := by omega
      have HOK : Sid ((∀ e ∈ es, e.length ≤ 8) → ownB many es = true) := ⟨fun h => by simp only [ownB, Bool.and_eq_true, decide_eq_true_eq]; exact ⟨⟨h7, h6⟩, by rw [allB, List.all_eq_true]; exact fun e he => by simpa using h e he⟩⟩
      have HNO : Sid (∀ (k : Nat) (e : List Int), es[k]? = some e → ¬ e.length ≤ 8 → ownB many es = false) := ⟨fun k e hk h => by rw [ownB, allB_false hk (by simpa using h), Bool.and_false]⟩
      go_enter Tryd.func9, Tryd.ntmps9
      go_wp2
      obtain ⟨W0, hW0⟩ : ∃ W0, W0 = ((w.alloc (.cells #[.int .i64 many, .slice A es.length c] 24)).alloc (.cells #[.int .i64 0, .slice none 0 0] 24)).alloc (.cells #[.int .i64 many, .slice none 0 0] 24) := ⟨_, rfl⟩
      have HX0 : Sid (Ext No w W0) := ⟨by rw [hW0]; exact (((Ext.refl No w).alloc _).alloc _).alloc _⟩
      have HSZ0 : Sid (W0.heap.size = w.heap.size + 3) := ⟨by rw [hW0]; simp⟩
      have HC0 : Sid (W0.cell? ⟨w.heap.size + 1 + 1, 0, none⟩ = some (.int .i64 many) ∧ W0.cell? ⟨w.heap.size + 1 + 1, 1, none⟩ = some (.slice none 0 0) ∧ W0.frozen? ⟨w.heap.size + 1 + 1, 1, none⟩ = false) := ⟨by rw [hW0]; simp [go_sem]⟩
      have HC1 : Sid (W0.cell? ⟨w.heap.size + 1, 0, none⟩ = some (.int .i64 0) ∧ W0.cell? ⟨w.heap.size + 1, 1, none⟩ = some (.slice none 0 0) ∧ W0.frozen? ⟨w.heap.size + 1, 0, none⟩ = false ∧ W0.frozen? ⟨w.heap.size + 1, 1, none⟩ = false) := ⟨by rw [hW0]; simp [go_sem]⟩
      rw [← hW0]
      clear hW0
      go_loopw [23] (fun i wr => ∃ (k : Nat) (v : Value), k ≤ es.length ∧ i = .int .i64 (k : Int) ∧ Sid (∀ j e, j < k → es[j]? = some e → e.length ≤ 8) ∧ wr.cell? ⟨w.heap.size + 1 + 1, 1, none⟩ = some v ∧ wr.frozen? ⟨w.heap.size + 1 + 1, 1, none⟩ = false ∧ Sid (wr.cell? ⟨w.heap.size + 1 + 1, 0, none⟩ = some (.int .i64 many)) ∧ Sid (OwnRows (fun j => w.heap.size + 3 ≤ j) (w.heap.size + 3) wr v (es.take k)) ∧ Sid (Ext (fun j => j = w.heap.size + 1 + 1) W0 wr)) (fun i _ => es.length - (intOf i).toNat)
      case atStart => exact ⟨0, _, Nat.zero_le _, rfl, ⟨fun j e hj => by omega⟩, HC0.out.2.1, HC0.out.2.2, ⟨HC0.out.1⟩, ⟨OwnRows.nil _ _ _⟩, ⟨Ext.refl _ _⟩⟩
      case round =>
        obtain ⟨k, v, hk, rfl, HL, hcv, hfv, HCM, HO, HX⟩ := hrel
        obtain ⟨wo, rfl⟩ : ∃ wo : World, wo = wr := ⟨_, rfl⟩
        have hr0 := HX.out.cell (p := ⟨w.heap.size + 1, 0, none⟩) (by simp) HC1.out.1
        have hr1 := HX.out.cell (p := ⟨w.heap.size + 1, 1, none⟩) (by simp) HC1.out.2.1
        have hf0 : wo.frozen? ⟨w.heap.size + 1, 0, none⟩ = false := (HX.out.frozen (p := ⟨w.heap.size + 1, 0, none⟩) (by simp) (by rw [HSZ0.out]; simp)).trans HC1.out.2.2.1
        have hf1 : wo.frozen? ⟨w.heap.size + 1, 1, none⟩ = false := (HX.out.frozen (p := ⟨w.heap.size + 1, 1, none⟩) (by simp) (by rw [HSZ0.out]; simp)).trans HC1.out.2.2.2
        have HXF : Sid (Ext No w wo) := ⟨HX0.out.step HX.out (fun i hi he => by omega)⟩
        by_cases hlt : k < es.length
        · obtain ⟨b, off, A', c', r, rfl, hPb, hcell0, HR', HI'⟩ := HAT.out k hlt
          have hcell := HXF.out.no hcell0
          have HI2 : Sid (IntsR .i64 P wo (.slice A' r.length c') r) := ⟨HI'.out.no HXF.out⟩
          clear hcell0 HI'
          by_cases h8 : r.length ≤ 8
          · have h8' : ¬ ((8 : Int) < (r.length : Int)) := by omega
            have HRL : Sid (r.length ≤ 1000000) := ⟨by omega⟩
            obtain ⟨Fact, hFact⟩ : ∃ Fact : Nat → Value → World → Prop, Fact = fun i u W => (i = 3 → IntsR .i64 (fun j => wo.heap.size ≤ j) W u r) ∧ (i = 4 → ∃ g, u = .slice (some ⟨g, 0, none⟩) 1 1 ∧ RowsR (fun j => wo.heap.size ≤ j) W u [r]) := ⟨_, rfl⟩
            obtain ⟨Pure, hPure⟩ : ∃ Pure : Nat → Value → Prop, Pure = fun i u => (i = 0 → u = .pointer (some ⟨w.heap.size + 1 + 1, 1, none⟩)) ∧ (i = 1 → u = v) ∧ (i = 2 → u = .slice A' r.length c') ∧ (i = 6 → u = .pointer (some ⟨w.heap.size + 1 + 1, 1, none⟩)) := ⟨_, rfl⟩
            obtain ⟨Aft, hAft⟩ : ∃ Aft : (Nat → Value) → (Nat → Bool) → World → Prop, Aft = fun s l W =>
              (l 7 = false → OwnRows (fun j => w.heap.size + 3 ≤ j) (w.heap.size + 3) W (s 5) (es.take k ++ [r]) ∧ Ext (fun j => some j = v.ownBlock) wo W) ∧
              (l 7 = true → ∃ v1, W.cell? ⟨w.heap.size + 1 + 1, 1, none⟩ = some v1 ∧ W.frozen? ⟨w.heap.size + 1 + 1, 1, none⟩ = false ∧ W.cell? ⟨w.heap.size + 1 + 1, 0, none⟩ = some (.int .i64 many) ∧ OwnRows (fun j => w.heap.size + 3 ≤ j) (w.heap.size + 3) W v1 (es.take k ++ [r]) ∧ Ext (fun j => j = w.heap.size + 1 + 1 ∨ some j = v.ownBlock) wo W) := ⟨_, rfl⟩
            have HFA := Sid.mk hFact
            have HPU := Sid.mk hPure
            have HAF := Sid.mk hAft
            have HST : Sid (∀ i u W W', Ext No W W' → Fact i u W → Fact i u W') := ⟨fun i u W W' hx hf => by
              rw [hFact] at hf ⊢
              exact ⟨fun h => (hf.1 h).no hx, fun h => by obtain ⟨g, h1, h2⟩ := hf.2 h; exact ⟨g, h1, h2.no hx⟩⟩⟩
            have HF3 : Sid (∀ u W, Fact 3 u W = IntsR .i64 (fun j => wo.heap.size ≤ j) W u r) := ⟨fun u W => by rw [hFact]; simp⟩
            have HF4 : Sid (∀ u W, Fact 4 u W = ∃ g, u = .slice (some ⟨g, 0, none⟩) 1 1 ∧ RowsR (fun j => wo.heap.size ≤ j) W u [r]) := ⟨fun u W => by rw [hFact]; simp⟩
            have HFT : Sid (∀ i u W, i ≠ 3 → i ≠ 4 → Fact i u W) := ⟨fun i u W h3 h4 => by
              rw [hFact]; exact ⟨fun h => absurd h h3, fun h => absurd h h4⟩⟩
            have HP0 : Sid (∀ u, Pure 0 u = (u = .pointer (some ⟨w.heap.size + 1 + 1, 1, none⟩))) := ⟨fun u => by rw [hPure]; simp⟩
            have HP1 : Sid (∀ u, Pure 1 u = (u = v)) := ⟨fun u => by rw [hPure]; simp⟩
            have HP2 : Sid (∀ u, Pure 2 u = (u = .slice A' r.length c')) := ⟨fun u => by rw [hPure]; simp⟩
            have HP6 : Sid (∀ u, Pure 6 u = (u = .pointer (some ⟨w.heap.size + 1 + 1, 1, none⟩))) := ⟨fun u => by rw [hPure]; simp⟩
            have HPT : Sid (∀ i u, i = 3 ∨ i = 4 ∨ i = 5 ∨ i = 7 → Pure i u) := ⟨fun i u h => by rw [hPure]; rcases h with rfl | rfl | rfl | rfl <;> simp⟩
            clear hFact hPure hAft
            go_wp2
            refine (wpIn_wide (n := 0)).1 ?_
            refine wpIn_slots (fun s => { tmps := #[.agg #[.int .i64 many, .slice (some ⟨b, off, none⟩) es.length c], .pointer (some ⟨w.heap.size, 0, none⟩), .pointer (some ⟨w.heap.size + 1, 0, none⟩), u3, .pointer (some ⟨w.heap.size + 1 + 1, 0, none⟩), undef, .slice A' r.length c', .pointer (some ⟨w.heap.size, 1, none⟩), .slice (some ⟨b, off, none⟩) es.length c, .int .i64 (es.length : Int), .bool false, .bool false, .pointer (some ⟨w.heap.size, 0, none⟩), .int .i64 many, .bool false, .bool false, undef, .pointer (some ⟨w.heap.size, 0, none⟩), .int .i64 many, .agg #[.int .i64 many, .slice none 0 0], .pointer (some ⟨w.heap.size, 1, none⟩), .slice (some ⟨b, off, none⟩) es.length c, .int .i64 (es.length : Int), .int .i64 (k : Int), .bool true, .pointer (some ⟨b, off + k, none⟩), .slice A' r.length c', .slice A' r.length c', .int .i64 (r.length : Int), .bool false, u30, s 0, s 1, s 2, s 3, s 4, s 5, s 6, u38, undef], defers := [] })
              (PhA [(1, 0), (3, 2), (4, 3), (5, 1), (5, 4), (7, 5), (7, 6)] 5 wo.drew Fact Pure Aft) (fun i => #[u31, u32, u33, u34, u35, u36, u37].getD i undef) (by kernel_rfl) (by kernel_rfl) ⟨fun _ _ => rfl, fun _ _ => rfl, fun _ _ => rfl, fun _ _ => rfl, fun _ _ => rfl, fun _ _ => rfl, fun _ _ => rfl, fun _ _ => rfl, trivial⟩ ?ha ?h0
              ⟨?s0, ?s1, ?s2, ?s3, ?s4, ?s5, ?s6, ?s7, trivial⟩ ?hend
            case ha => rfl
            case h0 => exact PhA.start
            case s0 =>
              rintro s l w' K hl hd hp hK
              have hc : l 5 = false := by
                cases h5 : l 5 with
                | false => rfl
                | true =>
                  have h1 := hp.dep 5 1 (by simp) h5
                  have h0 := hp.dep 1 0 (by simp) h1
                  rw [hl] at h0; cases h0
              have hdp : ∀ j, (0, j) ∈ [(1, 0), (3, 2), (4, 3), (5, 1), (5, 4), (7, 5), (7, 6)] → l j = true := (by intro j hj; simp at hj)
              have HP := Sid.mk (hp.step HST.out (i := 0) (v := .pointer (some ⟨w.heap.size + 1 + 1, 1, none⟩)) (by decide) hdp hc (Ext.refl _ _) (HFT.out _ _ _ (by decide) (by decide)) (by rw [HP0.out]))
              clear hp hd hdp
              gi_wp2
              exact HP.out
            case s1 =>
              rintro s l w' K hl hd hp hK
              have hc : l 5 = false := by
                cases h5 : l 5 with
                | false => rfl
                | true =>
                  have h1 := hp.dep 5 1 (by simp) h5
                  rw [hl] at h1; cases h1
              have hdp : ∀ j, (1, j) ∈ [(1, 0), (3, 2), (4, 3), (5, 1), (5, 4), (7, 5), (7, 6)] → l j = true := (by intro j hj; simp at hj; subst hj; exact hd { on := 0, ground := .data } (by simp) rfl)
              have e0 : s 0 = .pointer (some ⟨w.heap.size + 1 + 1, 1, none⟩) := by have h := hp.pur 0 (hd { on := 0, ground := .data } (by simp) rfl); rwa [HP0.out] at h
              simp only [e0] at hK
              have hcw := (hp.bef hc).1.no (p := ⟨w.heap.size + 1 + 1, 1, none⟩) hcv
              have HP := Sid.mk (hp.step HST.out (i := 1) (v := v) (by decide) hdp hc (Ext.refl _ _) (HFT.out _ _ _ (by decide) (by decide)) (by rw [HP1.out]))
              clear hp hd hdp
              gi_wp2
              exact HP.out
            case s2 =>
              rintro s l w' K hl hd hp hK
              have hc : l 5 = false := by
                cases h5 : l 5 with
                | false => rfl
                | true =>
                  have h4 := hp.dep 5 4 (by simp) h5
                  have h3 := hp.dep 4 3 (by simp) h4
                  have h2 := hp.dep 3 2 (by simp) h3
                  rw [hl] at h2; cases h2
              have hdp : ∀ j, (2, j) ∈ [(1, 0), (3, 2), (4, 3), (5, 1), (5, 4), (7, 5), (7, 6)] → l j = true := (by intro j hj; simp at hj)
              have HP := Sid.mk (hp.step HST.out (i := 2) (v := .slice A' r.length c') (by decide) hdp hc (Ext.refl _ _) (HFT.out _ _ _ (by decide) (by decide)) (by rw [HP2.out]))
              clear hp hd hdp
              gi_wp2
              exact HP.out
            case s3 =>
              rintro s l w' K hl hd hp hK
              have hc : l 5 = false := by
                cases h5 : l 5 with
                | false => rfl
                | true =>
                  have h4 := hp.dep 5 4 (by simp) h5
                  have h3 := hp.dep 4 3 (by simp) h4
                  rw [hl] at h3; cases h3
              have hdp : ∀ j, (3, j) ∈ [(1, 0), (3, 2), (4, 3), (5, 1), (5, 4), (7, 5), (7, 6)] → l j = true := (by intro j hj; simp at hj; subst hj; exact hd { on := 2, ground := .data } (by simp) rfl)
              have e2 : s 2 = .slice A' r.length c' := by have h := hp.pur 2 (hd { on := 2, ground := .data } (by simp) rfl); rwa [HP2.out] at h
              simp only [e2] at hK
              have hx := (hp.bef hc).1
              have HIW : Sid (IntsR .i64 P w' (.slice A' r.length c') r) := ⟨HI2.out.no ((Ext.refl No wo).drew.trans hx)⟩
              have HSW : Sid (wo.heap.size ≤ w'.heap.size) := ⟨by have := hx.size; simpa using this⟩
              have HPP := Sid.mk hp
              have HC := Sid.mk hc
              have HDP := Sid.mk hdp
              clear hp hd hx hc hdp
              gi_wp2_with (refine ⟨trivial, rfl, ?_⟩; gi_at_call 10; refine (callsIn_wide.2 (Clone_any _ r _ HIW.out HRL.out)).mono ?_; rintro e w2 ⟨v2, rfl, hr2, hx2⟩; have HR2 := Sid.mk hr2; have HX2 := Sid.mk hx2; clear hr2 hx2)
              exact HPP.out.step HST.out (i := 3) (by decide) HDP.out HC.out HX2.out (by rw [HF3.out]; exact HR2.out.imp (fun j _ hj => by have := HSW.out; omega)) (HPT.out _ _ (by simp))
            case s4 =>
              rintro s l w' K hl hd hp hK
              have hc : l 5 = false := by
                cases h5 : l 5 with
                | false => rfl
                | true =>
                  have h4 := hp.dep 5 4 (by simp) h5
                  rw [hl] at h4; cases h4
              have hdp : ∀ j, (4, j) ∈ [(1, 0), (3, 2), (4, 3), (5, 1), (5, 4), (7, 5), (7, 6)] → l j = true := (by intro j hj; simp at hj; subst hj; exact hd { on := 3, ground := .data } (by simp) rfl)
              have hl3 := hd { on := 3, ground := .data } (by simp) rfl
              have hf3 := (hp.bef hc).2 3 hl3
              rw [HF3.out] at hf3
              obtain ⟨A3, c3, e3, _⟩ := hf3.at
              rw [e3] at hf3
              simp only [e3] at hK
              have HF := Sid.mk hf3
              have HSW : Sid (wo.heap.size ≤ w'.heap.size) := ⟨by have := (hp.bef hc).1.size; simpa using this⟩
              have HPP := Sid.mk hp
              have HC := Sid.mk hc
              have HDP := Sid.mk hdp
              clear hp hd hc hdp hf3
              gi_wp2
              exact HPP.out.step HST.out (i := 4) (by decide) HDP.out HC.out (ext_box _) (by
                rw [HF4.out]
                refine ⟨_, rfl, (Own.lit1 w' w'.heap.size 28 (.slice A3 r.length c3) (Nat.le_refl _)).rows (xss := [r]) (by simp) (fun j hj => by simp [Value.ownBlock] at hj; have := HSW.out; omega) (fun j u xs hu hxs => ?_)⟩
                rcases j with _ | j
                · simp at hu hxs; subst hu; subst hxs; exact HF.out.no (ext_box _)
                · simp at hu) (HPT.out _ _ (by simp))
            case s5 =>
              rintro s l w' K hl hd hp hK
              have hdp : ∀ j, (5, j) ∈ [(1, 0), (3, 2), (4, 3), (5, 1), (5, 4), (7, 5), (7, 6)] → l j = true := (by intro j hj; simp at hj; rcases hj with rfl | rfl; all_goals (first | exact hd { on := 1, ground := .data } (by simp) rfl | exact hd { on := 4, ground := .data } (by simp) rfl))
              have e1 : s 1 = v := by have h := hp.pur 1 (hd { on := 1, ground := .data } (by simp) rfl); rwa [HP1.out] at h
              have hl4 := hd { on := 4, ground := .data } (by simp) rfl
              obtain ⟨hx, hfs⟩ := hp.bef hl
              have hf4 := hfs 4 hl4
              rw [HF4.out] at hf4
              obtain ⟨g, e4, hr4⟩ := hf4
              rw [e4] at hr4
              have hxw : Ext No wo w' := (Ext.refl No wo).drew.trans hx
              refine appRowIn (P := fun j => w.heap.size + 3 ≤ j) (w.heap.size + 3) (.tmp 32) (.tmp 35) 22 rfl Tryd.underlying22 info28 v (es.take k) r e1 ⟨g, 0, none⟩ 1 e4 (HO.out.no hxw) (hr4.imp (fun j _ hj => ⟨by have := HX.out.size; have := HSZ0.out; omega, fun he => by have := (HO.out.ge j he.symm).2; omega⟩)) (by have := hxw.size; have := HX.out.size; have := HSZ0.out; omega) (by rw [List.length_take]; omega) ?_
              intro v1 w1 ho1 hx1 hb1 hs1
              refine hK v1 w1 (hp.after hdp setL_eq (HPT.out _ _ (by simp)) ?_)
              rw [HAF.out]
              refine ⟨fun _ => ⟨by rw [setS_eq]; exact ho1, (hxw.mono (Y := fun j => some j = v.ownBlock) (fun _ h => h.elim)).trans hx1⟩, fun h7 => ?_⟩
              rw [setL_ne (by decide)] at h7
              have := hp.dep 7 5 (by simp) h7
              rw [hl] at this; cases this
            case s6 =>
              rintro s l w' K hl hd hp hK
              have hdp : ∀ j, (6, j) ∈ [(1, 0), (3, 2), (4, 3), (5, 1), (5, 4), (7, 5), (7, 6)] → l j = true := (by intro j hj; simp at hj)
              have HP := Sid.mk (hp.pure (i := 6) (v := .pointer (some ⟨w.heap.size + 1 + 1, 1, none⟩)) (by decide) hdp (fun _ => HFT.out _ _ _ (by decide) (by decide)) (by rw [HP6.out]) (fun h => by
                rw [HAF.out] at h ⊢
                refine ⟨?_, ?_⟩
                · rw [setL_ne (by omega), setS_ne (by omega)]; exact h.1
                · rw [setL_ne (by omega)]; exact h.2))
              clear hp hd hdp
              gi_wp2
              exact HP.out
            case s7 =>
              rintro s l w' K hl hd hp hK
              have hdp : ∀ j, (7, j) ∈ [(1, 0), (3, 2), (4, 3), (5, 1), (5, 4), (7, 5), (7, 6)] → l j = true := (by intro j hj; simp at hj; rcases hj with rfl | rfl; all_goals (first | exact hd { on := 5, ground := .data } (by simp) rfl | exact hd { on := 6, ground := .data } (by simp) rfl))
              have e6 : s 6 = .pointer (some ⟨w.heap.size + 1 + 1, 1, none⟩) := by have h := hp.pur 6 (hd { on := 6, ground := .data } (by simp) rfl); rwa [HP6.out] at h
              have hl5 := hd { on := 5, ground := .data } (by simp) rfl
              have ha := hp.aft hl5
              rw [HAF.out] at ha
              obtain ⟨ho1, hx1⟩ := ha.1 hl
              obtain ⟨A5, c5, e5⟩ := ho1.slice
              have hlen : (es.take k ++ [r]).length = k + 1 := by rw [List.length_append, List.length_take]; simp; omega
              rw [hlen] at e5
              have hne : ¬ some (w.heap.size + 1 + 1) = v.ownBlock := fun he => by have := (HO.out.ge _ he.symm).1; omega
              have hcw := hx1.cell (p := ⟨w.heap.size + 1 + 1, 1, none⟩) hne hcv
              have hfw : w'.frozen? ⟨w.heap.size + 1 + 1, 1, none⟩ = false := (hx1.frozen (p := ⟨w.heap.size + 1 + 1, 1, none⟩) hne (World.block_lt_of_cell? wo _ hcv)).trans hfv
              have hcm := hx1.cell (p := ⟨w.heap.size + 1 + 1, 0, none⟩) hne HCM.out
              obtain ⟨v5, hv5⟩ : ∃ v5, s 5 = v5 := ⟨_, rfl⟩
              rw [hv5] at ho1 e5
              simp only [e6, hv5] at hK
              have HPP := Sid.mk hp
              have HO1 := Sid.mk ho1
              have HX1 := Sid.mk hx1
              have HDP := Sid.mk hdp
              have HCW := Sid.mk hcw
              have HFW := Sid.mk hfw
              have HCM2 := Sid.mk hcm
              clear hp hd hdp ho1 hx1 hcm ha
              subst e5
              have hxs : Ext (fun j => j = w.heap.size + 1 + 1) w' (w'.setCell ⟨w.heap.size + 1 + 1, 1, none⟩ (.slice A5 (k + 1) c5)) := (Ext.refl (fun j => j = w.heap.size + 1 + 1) w').setCell (p := ⟨w.heap.size + 1 + 1, 1, none⟩) (Or.inl rfl) _
              have HXS := Sid.mk hxs
              clear hxs
              gi_wp2
              refine hK undef _ ?_
              refine HPP.out.after HDP.out (by rw [setL_ne (by decide)]; exact hl5) (HPT.out _ _ (by simp)) ?_
              rw [HAF.out]
              refine ⟨fun h7 => (by rw [setL_eq] at h7; cases h7), fun _ => ⟨.slice A5 (k + 1) c5, World.cell?_setCell_same' _ _ _ (by rw [HCW.out]; rfl), by simp [HFW.out], ?_, HO1.out.ext HXS.out (fun j hj he => by have := (HO1.out.ge j hj).1; omega) (fun j hj he => by omega), ?_⟩⟩
              · have hcm2 := HCM2.out; have hcw2 := HCW.out; simp [go_sem, hcm2, hcw2]
              · exact (HX1.out.mono (fun _ h => Or.inr h)).trans (HXS.out.mono (fun _ h => Or.inl h))
            case hend =>
              rintro s l w' hl hp
              have ha := hp.aft (hl 5 (by decide))
              rw [HAF.out] at ha
              obtain ⟨v1, hc1, hf1', hcm1, ho1, hx1⟩ := ha.2 (hl 7 (by decide))
              have HO1 := Sid.mk ho1
              have HX1 := Sid.mk hx1
              have HCM1 := Sid.mk hcm1
              clear hp ho1 hx1 hcm1 ha hl
              dsimp only
              go_wp2
              go_roundw
              case rel => exact ⟨k + 1, v1, by omega, by go_num, ⟨fun j e hj he => by
                by_cases hjk : j = k
                · subst hjk; rw [HR'.out] at he; cases he; exact h8
                · exact HL.out j e (by omega) he⟩, hc1, hf1', HCM1, ⟨by rw [take_succ_of HR'.out]; exact HO1.out⟩, ⟨HX.out.step HX1.out (fun i hi he => by
                  rcases he with he | he
                  · exact he
                  · have := (HO.out.ge i he.symm).1; have := HSZ0.out; omega)⟩⟩
              case measure => simp [intOf]; omega
          · have h8' : ((8 : Int) < (r.length : Int)) := by omega
            have HA : Sid (ownB many es = false) := ⟨HNO.out k r HR'.out h8⟩
            go_wp2
            refine bodyPost_ret (v := .tuple #[.agg #[.int .i64 0, .slice none 0 0], .bool false]) (by simp [results, Tryd.results9, go_sem, hr0, hr1]) rfl (OwnPost.no HA.out ?_)
            exact HXF.out.step (((Ext.refl (fun j => j = w.heap.size + 1) wo).setCell (p := ⟨w.heap.size + 1, 0, none⟩) (Or.inl rfl) _).setCell (p := ⟨w.heap.size + 1, 1, none⟩) (Or.inl rfl) _) (fun i hi he => by omega)
        · obtain rfl : k = es.length := by omega
          have hcm := HCM.out
          have HA : Sid (ownB many es = true) := ⟨HOK.out (fun e he => by
            obtain ⟨j, hj⟩ := List.mem_iff_getElem?.1 he
            exact HL.out j e (List.getElem?_eq_some_iff.1 hj).1 hj)⟩
          have HO2 : Sid (OwnRows (fun j => w.heap.size + 3 ≤ j) (w.heap.size + 3) wo v es) := ⟨by have := HO.out; rwa [List.take_length] at this⟩
          obtain ⟨Av, cv, rfl⟩ := HO2.out.slice
          go_wp2
          obtain ⟨v9, hv9⟩ : ∃ v9 : Value, Value.slice Av es.length cv = v9 := ⟨_, rfl⟩
          obtain ⟨W9, hW9⟩ : ∃ W9, W9 = ((wo.setCell ⟨w.heap.size + 1, 0, none⟩ (.int .i64 many)).setCell ⟨w.heap.size + 1, 1, none⟩ (.slice Av es.length cv)) := ⟨_, rfl⟩
          have hx9 : Ext (fun j => j = w.heap.size + 1) wo W9 := by rw [hW9]; exact (((Ext.refl (fun j => j = w.heap.size + 1) wo).setCell (p := ⟨w.heap.size + 1, 0, none⟩) (Or.inl rfl) _).setCell (p := ⟨w.heap.size + 1, 1, none⟩) (Or.inl rfl) _)
          have g0 : W9.cell? ⟨w.heap.size + 1, 0, none⟩ = some (.int .i64 many) := by rw [hW9]; simp [go_sem, hr0, hr1, hf0, hf1]
          have g1 : W9.cell? ⟨w.heap.size + 1, 1, none⟩ = some (.slice Av es.length cv) := by rw [hW9]; simp [go_sem, hr0, hr1, hf0, hf1]
          rw [← hW9]
          refine bodyPost_ret (v := .tuple #[.agg #[.int .i64 many, .slice Av es.length cv], .bool true]) (by simp [results, Tryd.results9, go_sem, g0, g1]) rfl (OwnPost.yes HA.out (HXF.out.step hx9 (fun i hi he => by omega)) ?_)
          exact ((HO2.out.ext hx9 (fun j hj he => by have := (HO2.out.ge j hj).1; omega) (fun j hj he => by omega)).rows (by omega) (fun j hj => by have := (HO2.out.ge j hj).1; omega) (fun j hj => by omega))
    · have HA : Sid (ownB many es = false) := ⟨by simp [ownB, h6]⟩
      have h7' : ¬ ((7 : Int) < (es.length : Int)) := by omega
      have h6' : ((6 : Int) < many) := by omega
      go_enter Tryd.func9, Tryd.ntmps9
      go_wp2
      exact bodyPost_ret (v := .tuple #[.agg #[.int .i64 0, .slice none 0 0], .bool false]) (by simp [results, Tryd.results9, go_sem]) rfl (OwnPost.no HA.out (((Ext.refl No w).alloc _).alloc _))
  · have HA : Sid (ownB many es = false) := ⟨by simp [ownB, h7]⟩
    have h7' : ((7 : Int) < (es.length : Int)) := by omega
    go_enter Tryd.func9, Tryd.ntmps9
    go_wp2
    exact bodyPost_ret (v := .tuple #[.agg #[.int .i64 0, .slice none 0 0], .bool false]) (by simp [results, Tryd.results9, go_sem]) rfl (OwnPost.no HA.out (((Ext.refl No w).alloc _).alloc _))
end Go.Proofs.YtceiaekkfabeaaaDoor
