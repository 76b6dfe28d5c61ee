/- Words and contracts for: DecompAcyclic: for every hypergraph the law answers true, and its arguments read as before. No condition; the library's table math/bits.deBruijn64tab is laid by its text. -/
import Derived.Deep.QuietTactic
import Derived.BigQuiet
import Derived.Test.YtceiaekkfabeaaaDoorZyf
/- The walk over begin: why nothing is searched. -/
namespace Go.Proofs.YtceiaekkfabeaaaDoor
open Go.RowKit Go.Shelf Pl

theorem or_lt_pow {n a b : Nat} (ha : a < 2 ^ n) (hb : b < 2 ^ n) : a ||| b < 2 ^ n := Nat.or_lt_two_pow ha hb
theorem ofTo_lt_pow {n : Nat} {l : List Int} (h : ∀ x ∈ l, 0 ≤ x ∧ x < (n : Int)) : ofTo l < 2 ^ n := by
  have : ∀ (l : List Int) (s : Nat), (∀ x ∈ l, 0 ≤ x ∧ x < (n : Int)) → s < 2 ^ n → l.foldl (fun s v => s ||| 2 ^ v.toNat) s < 2 ^ n := by
    intro l
    induction l with
    | nil => intro s _ hs; exact hs
    | cons x l ih =>
      intro s hl hs
      have hx := hl x (by simp)
      exact ih _ (fun y hy => hl y (by simp [hy])) (or_lt_pow hs (Nat.pow_lt_pow_right (by omega) (by omega)))
  exact this l 0 h (Nat.two_pow_pos n)
theorem orTo_lt_pow {n : Nat} {S : List Nat} (h : ∀ x ∈ S, x < 2 ^ n) : orTo S < 2 ^ n := by
  have : ∀ (l : List Nat) (s : Nat), (∀ x ∈ l, x < 2 ^ n) → s < 2 ^ n → l.foldl (· ||| ·) s < 2 ^ n := by
    intro l
    induction l with
    | nil => intro s _ hs; exact hs
    | cons x l ih => exact fun s hl hs => ih _ (fun y hy => hl y (by simp [hy])) (or_lt_pow hs (hl x (by simp)))
  exact this S 0 h (Nat.two_pow_pos n)
theorem growF_lt_pow {m : Nat} {S : List Nat} (hS : ∀ x ∈ S, x < 2 ^ m) : ∀ n p, p < 2 ^ m → growF S n p < 2 ^ m
  | 0, p, h => h
  | n + 1, p, h => by
    rw [growF]
    cases hf : S.find? (meetsB p) with
    | none => exact h
    | some s => exact growF_lt_pow hS n _ (or_lt_pow h (hS s (List.mem_of_find?_eq_some hf)))
theorem partsL_lt_pow {m : Nat} {S : List Nat} (hS : ∀ x ∈ S, x < 2 ^ m) : ∀ n, n ≤ m → ∀ p ∈ partsL S n, p < 2 ^ m
  | 0, _, p, hp => by simp [partsL, partsF] at hp
  | n + 1, hn, p, hp => by
    rw [partsL, partsF_succ] at hp
    split at hp
    · exact partsL_lt_pow hS n (by omega) p hp
    · rcases List.mem_append.1 hp with hp | hp
      · exact partsL_lt_pow hS n (by omega) p hp
      · obtain rfl := List.mem_singleton.1 hp
        exact growF_lt_pow hS _ _ (Nat.pow_lt_pow_right (by omega) (by omega))
/-- The sets of edges lie below. -/
theorem hyper_lt_pow {mm : Nat} {es : List (List Int)} (h : hyperB (mm : Int) es = true) : ∀ x ∈ es.map ofTo, x < 2 ^ mm := by
  obtain ⟨_, _, _, h4⟩ := hyperB_parts h
  intro x hx
  obtain ⟨e, he, rfl⟩ := List.mem_map.1 hx
  exact ofTo_lt_pow (inB_of_rises (h4 e he))
theorem members_len_64 : ∀ n : Fin 64, (membersN n.val).length ≤ 6 := by decide +kernel

/-- Why nothing is searched. -/
def beginE (many : Int) (es : List (List Int)) (most : Int) : Int :=
  if hyperB many es = false then 300 else if most < 1 then 2 else if ((membersN (orTo (es.map ofTo))).length : Int) < many then 4 else 0

set_option maxHeartbeats 4000000 in
set_option maxRecDepth 100000 in
theorem begin_any {P : Nat → Prop} (many : Int) (ev : Value) (es : List (List Int)) (most : Int) (w : World) (he : RowsR P w ev es) (h6 : many ≤ 6) (hT : TabW w) :
    Calls Tryd.prog 39 #[.agg #[.int .i64 many, ev], .int .i64 most] w fun e w' => ∃ sv, e = .returned (.tuple #[sv, .int .i64 (beginE many es most)]) ∧ Ext No w w' ∧
      (beginE many es most = 0 → ∃ B M, sv = .pointer (some ⟨B, 0, none⟩) ∧ SearchR (SP P w.heap.size M) w' B M many es (es.map ofTo) ∧ KnownR (SP P w.heap.size M) w' M (es.map ofTo) ∧ w.heap.size ≤ B ∧ w.heap.size ≤ M) := by
  obtain ⟨A, c, rfl, _⟩ := he.at
  have HE := Sid.mk he
  have HT := Sid.mk hT
  clear he hT
  have HB0 : Sid (∀ w', Ext No (w.alloc (.cells #[.int .i64 many, .slice A es.length c] 24)) w' → w'.cell? ⟨w.heap.size, 0, none⟩ = some (.int .i64 many) ∧ w'.cell? ⟨w.heap.size, 1, none⟩ = some (.slice A es.length c)) := ⟨fun w' hx => ⟨hx.no (by simp), hx.no (by simp)⟩⟩
  cases hg1 : hyperB many es with
  | false =>
    have hce1 : hyperE many es = 300 := by simp [hyperE, hg1]
    have HA : Sid (beginE many es most = 300) := ⟨by simp [beginE, hg1]⟩
    clear hg1
    go_enter Tryd.func39, Tryd.ntmps39
    go_wp2_with (go_at_call 27; refine (hyperCheck_any many _ es _ (HE.out.no (ext_box _))).mono ?_; rintro e w1 ⟨rfl, hx1⟩; rw [hce1]; have HX1 := Sid.mk hx1; clear hx1)
    go_ret2
    exact ⟨_, ret_pair rfl (by simp only [HA.out]; rfl), (ext_box _).trans HX1.out, fun h => by rw [HA.out] at h; cases h⟩
  | true =>
    obtain ⟨hp1, hp2, hp3, hp4⟩ := hyperB_parts hg1
    have hce1 : hyperE many es = 0 := by simp [hyperE, hg1]
    have HSM : Sid (smallE es) := ⟨hyperB_small hg1⟩
    have G1 := Sid.mk hg1
    clear hp4
    by_cases hmost : most < 1
    · have HA : Sid (beginE many es most = 2) := ⟨by simp [beginE, hg1, hmost]⟩
      clear hg1
      go_enter Tryd.func39, Tryd.ntmps39
      go_wp2_with (first
        | (go_at_call 27; refine (hyperCheck_any many _ es _ (HE.out.no (ext_box _))).mono ?_; rintro e w1 ⟨rfl, hx1⟩; rw [hce1]; have h0 := (HB0.out _ hx1).1; have h1 := (HB0.out _ hx1).2; have HX1 := Sid.mk hx1; clear hx1)
        | (go_at_call 33; refine (searching_any many _ es _ (HE.out.no ((ext_box _).trans HX1.out)) HSM.out (by omega)).mono ?_; rintro e w2 ⟨B, M, rfl, hs2, hk2, hB, hM, hx2⟩; have HX2 := Sid.mk hx2; clear hs2 hk2 hx2))
      go_ret2
      exact ⟨_, ret_pair rfl (by simp only [HA.out]; rfl), ((ext_box _).trans HX1.out).trans HX2.out, fun h => by rw [HA.out] at h; cases h⟩
    · obtain ⟨mm, rfl⟩ := Int.eq_ofNat_of_zero_le hp1
      have HLP : Sid (∀ x ∈ es.map ofTo, x < 2 ^ 6) := ⟨fun x hx => Nat.lt_of_lt_of_le (hyper_lt_pow hg1 x hx) (Nat.pow_le_pow_right (by omega) (by omega))⟩
      have hones : onesE (orTo (es.map ofTo) : Int) = ((membersN (orTo (es.map ofTo))).length : Int) := ones_small ⟨orTo (es.map ofTo), orTo_lt_pow HLP.out⟩
      have HON := Sid.mk hones
      clear hones
      go_enter Tryd.func39, Tryd.ntmps39
      go_wp2_with (first
        | (go_at_call 27; refine (hyperCheck_any _ _ es _ (HE.out.no (ext_box _))).mono ?_; rintro e w1 ⟨rfl, hx1⟩; rw [hce1]; have h0 := (HB0.out _ hx1).1; have h1 := (HB0.out _ hx1).2; have HX1 := Sid.mk hx1; clear hx1)
        | (go_at_call 33; refine (searching_any _ _ es _ (HE.out.no ((ext_box _).trans HX1.out)) HSM.out (by omega)).mono ?_; rintro e w2 ⟨B, M, rfl, hs2, hk2, hB, hM, hx2⟩; have h0' := hx2.no h0; have h1' := hx2.no h1; have HS2 := Sid.mk hs2; have HK2 := Sid.mk hk2; have HX2 := Sid.mk hx2; clear hs2 hk2 hx2))
      go_quiet ((first
        | (go_at_call 35; exact Calls.quiet_of_same ((covered_any B M _ es (es.map ofTo) _ (HS2.out.no ((Ext.refl _ _).drewN _)) (smallS_of HSM.out)).mono (fun _ _ h => ⟨h.1, h.2.symm⟩)))
        | (go_at_call 71; exact Calls.quiet_of_same ((ones_any _ _).mono (fun _ _ h => ⟨h.1, h.2.symm⟩)))))
      obtain ⟨W, hW⟩ : ∃ W : World, W = w2.drewN nq := ⟨_, rfl⟩
      have HXW : Sid (Ext No w W) := ⟨by rw [hW]; exact (((ext_box _).trans HX1.out).trans HX2.out).drewN _⟩
      have HSW : Sid (SearchR (SP P w1.heap.size M) W B M (mm : Int) es (es.map ofTo)) := ⟨by rw [hW]; exact HS2.out.no ((Ext.refl _ _).drewN _)⟩
      have HKW : Sid (KnownR (SP P w1.heap.size M) W M (es.map ofTo)) := ⟨by rw [hW]; exact HK2.out.no ((Ext.refl _ _).drewN _)⟩
      have HSZ : Sid (w.heap.size ≤ w1.heap.size) := ⟨((ext_box (w := w) _).trans HX1.out).size⟩
      have h0' : W.cell? ⟨w.heap.size, 0, none⟩ = some (.int .i64 (mm : Int)) := by rw [hW]; exact h0'
      have h1' : W.cell? ⟨w.heap.size, 1, none⟩ = some (.slice A es.length c) := by rw [hW]; exact h1'
      rw [← hW]
      clear hW HS2 HK2 h0 h1
      have himp : ∀ k, SP P w1.heap.size M k → SP P w.heap.size M k := fun k hk => ⟨hk.1, hk.2.imp (fun h => by have := HSZ.out; omega) id⟩
      have HIMP := Sid.mk himp
      clear himp
      by_cases hbare : ((membersN (orTo (es.map ofTo))).length : Int) < (mm : Int)
      · have hlt : onesE (orTo (es.map ofTo) : Int) < (mm : Int) := by rw [HON.out]; exact hbare
        have HA : Sid (beginE mm es most = 4) := ⟨by rw [beginE, if_neg (by simp [hg1]), if_neg (by omega), if_pos hbare]⟩
        clear hg1 hbare
        go_wp2
        go_ret2
        exact ⟨_, ret_pair rfl (by simp only [HA.out]; rfl), HXW.out, fun h => by rw [HA.out] at h; cases h⟩
      · have hlt : ¬ onesE (orTo (es.map ofTo) : Int) < (mm : Int) := by rw [HON.out]; exact hbare
        have HA : Sid (beginE mm es most = 0) := ⟨by rw [beginE, if_neg (by simp [hg1]), if_neg (by omega), if_neg hbare]⟩
        obtain ⟨R, hR⟩ : ∃ R, R = (partsL (es.map ofTo) (mm : Int).toNat).map membersL := ⟨_, rfl⟩
        have HNL : Sid (R.any (fun p => decide (10 < p.length)) = false) := ⟨by
          rw [hR, List.any_eq_false]
          intro p hp
          obtain ⟨q, hq, rfl⟩ := List.mem_map.1 hp
          have h1 := partsL_lt_pow HLP.out _ (by rw [Int.toNat_natCast]; omega) q hq
          have h2 : (membersL q).length ≤ 6 := by rw [membersL, List.length_map]; exact members_len_64 ⟨q, h1⟩
          simp only [decide_eq_true_eq, Nat.not_lt]
          omega⟩
        have HRQ := Sid.mk hR
        clear hg1 hbare hR
        go_wp2_with (first
          | (go_at_call 43; refine (parts_any (mm : Int) _ es _ (HE.out.no HXW.out) G1.out (HT.out.no HXW.out)).mono ?_; rintro e w3 ⟨v3, rfl, hr3, hx3⟩; rw [← HRQ.out] at hr3; obtain ⟨A3, c3, rfl, _⟩ := hr3.at; have HR3 := Sid.mk hr3; have HX3 := Sid.mk hx3; clear hr3 hx3)
          | (go_at_call 72; go_loud (refine (hasRows_any 73 enters73 #[] (fun p => decide (10 < p.length)) _ _ _ HR3.out (fun u s wx _ _ hi => long_any u s wx hi)).mono ?_; rintro e w4 ⟨rfl, hx4⟩; rw [HNL.out]; have HX4 := Sid.mk hx4; clear hx4)))
        go_ret2
        have hx := HX3.out.trans HX4.out
        exact ⟨_, ret_pair rfl (by simp only [HA.out]; rfl), HXW.out.trans hx, fun _ => ⟨B, M, rfl, (HSW.out.no hx).imp (fun k _ hk => HIMP.out k hk), (HKW.out.no hx).imp (fun k _ hk => HIMP.out k hk), by have := HSZ.out; omega, by have := HSZ.out; omega⟩⟩
end Go.Proofs.YtceiaekkfabeaaaDoor

/- Rows of bags of one's own. -/
namespace Go.Proofs.YtceiaekkfabeaaaDoor
open Go.RowKit Pl

def bagCells (t : Value × Value × Bag) : List Value := [t.1, t.2.1, .int .i64 t.2.2.parent]
/-- A row of bags of the call's own, their rows in blocks of P. -/
def OwnBags (P : Nat → Prop) (base : Nat) (w : World) (v : Value) (bs : List Bag) : Prop :=
  ∃ us : List (Value × Value × Bag), us.map (·.2.2) = bs ∧ Own base 51 3 w v us.length (us.flatMap bagCells) ∧ ∀ t ∈ us, IntsR .i64 (fun k => P k ∧ some k ≠ v.ownBlock) w t.1 t.2.2.vs ∧ IntsR .i64 (fun k => P k ∧ some k ≠ v.ownBlock) w t.2.1 t.2.2.es
theorem OwnBags.nil (P : Nat → Prop) (base : Nat) (w : World) : OwnBags P base w (.slice none 0 0) [] := ⟨[], rfl, Own.nil _ _ _ _, by simp⟩
theorem OwnBags.ge {P : Nat → Prop} {base : Nat} {w : World} {v : Value} {bs : List Bag} (h : OwnBags P base w v bs) : ∀ k, v.ownBlock = some k → base ≤ k ∧ k < w.heap.size := by obtain ⟨us, _, h, _⟩ := h; exact h.ge
theorem OwnBags.slice {P : Nat → Prop} {base : Nat} {w : World} {v : Value} {bs : List Bag} (h : OwnBags P base w v bs) : ∃ A c, v = .slice A bs.length c := by
  obtain ⟨us, rfl, h, _⟩ := h
  rw [List.length_map]; exact Own.slice h
theorem OwnBags.ext {P X : Nat → Prop} {base : Nat} {w w' : World} {v : Value} {bs : List Bag} (h : OwnBags P base w v bs) (hx : Ext X w w') (h1 : ∀ k, v.ownBlock = some k → ¬ X k) (h2 : ∀ k, P k → ¬ X k) : OwnBags P base w' v bs := by
  obtain ⟨us, g0, g1, g2⟩ := h
  exact ⟨us, g0, g1.ext hx h1, fun t ht => ⟨(g2 t ht).1.ext hx (fun k hk => h2 k hk.1), (g2 t ht).2.ext hx (fun k hk => h2 k hk.1)⟩⟩
theorem OwnBags.no {P : Nat → Prop} {base : Nat} {w w' : World} {v : Value} {bs : List Bag} (h : OwnBags P base w v bs) (hx : Ext No w w') : OwnBags P base w' v bs := h.ext hx (fun _ _ h => h) (fun _ _ h => h)
theorem flat3_at {us : List (Value × Value × Bag)} : ∀ {j i : Nat}, i < 3 → ∀ (h : j < us.length), (us.flatMap bagCells)[j * 3 + i]? = (bagCells us[j])[i]? := by
  induction us with
  | nil => intro j i _ h; simp at h
  | cons t us ih =>
    intro j i hi h
    rw [List.flatMap_cons]
    cases j with
    | zero =>
      rw [Nat.zero_mul, Nat.zero_add, List.getElem?_append_left (by simp [bagCells]; omega)]; rfl
    | succ j =>
      rw [List.getElem?_append_right (by simp [bagCells]; omega)]
      have : (j + 1) * 3 + i - (bagCells t).length = j * 3 + i := by simp [bagCells]; omega
      rw [this, ih hi (by simpa using h)]; rfl
theorem OwnBags.bags {P P' : Nat → Prop} {base : Nat} {w : World} {v : Value} {bs : List Bag} (h : OwnBags P base w v bs) (hb : bs.length ≤ 140737488355328) (h1 : ∀ k, v.ownBlock = some k → P' k) (h2 : ∀ k, P k → P' k) : BagsR P' w v bs := by
  obtain ⟨us, rfl, g1, g2⟩ := h
  rw [List.length_map] at hb
  obtain ⟨hl, hh⟩ := g1
  rcases hh with ⟨rfl, hn⟩ | ⟨g, cap, cur, rfl, hbg, hc, hn, hm, hs, ht⟩
  · obtain rfl : us = [] := List.eq_nil_of_length_eq_zero hn
    exact ⟨none, 0, rfl, ⟨Nat.le_refl _, fun _ => rfl⟩, by simp, fun hp => by simp at hp⟩
  · refine ⟨some ⟨g, 0, none⟩, cap, by simp, ⟨by simpa using hn, fun hh => by cases hh⟩, by simpa using hb, fun hp => ⟨_, rfl, h1 g rfl, rfl, fun j hj => ?_⟩⟩
    have hj' : j < us.length := by simpa using hj
    obtain ⟨g3, g4⟩ := g2 us[j] (List.getElem_mem _)
    refine ⟨bagCells us[j], ⟨us[j].1, us[j].2.1, by simp [bagCells], by simpa using g3.imp (fun k _ hk => h2 k hk.1), by simpa using g4.imp (fun k _ hk => h2 k hk.1)⟩, rfl, fun i u hu => ?_⟩
    have hi : i < 3 := by have := (List.getElem?_eq_some_iff.1 hu).1; simpa [bagCells] using this
    have hcur : cur.toList[j * 3 + i]? = some u := by
      have h3 := flat3_at hi hj'
      rw [hu, ← ht, List.getElem?_take_of_lt (by omega)] at h3
      exact h3
    simp only [Nat.zero_add, World.cell?, hc]
    simpa using hcur
section
variable {Pg : Program} {ops : Array Oper} {rest : List Oper} {o : Oper} {a : Act} {Q : Exit → Act → World → Prop}
theorem appBag {P : Nat → Prop} {W : World} (base : Nat) (hgd : o.guard = none) (s x : Operand) (t : TypeId)
    (ho : o.op = .call { callee := .builtin .append, args := #[s, x], argTypes := #[t, t] })
    (ht : Pg.underlying t = some (.slice 51)) (hinfo : (Pg.info? 51).map (fun i => (i.zero, i.size, i.bytes)) = some (some (.agg #[.slice none 0 0, .slice none 0 0, .int .i64 0]), 3, 56))
    (v : Value) (bs : List Bag) (u1 u2 : Value) (b : Bag) (hs : a.eval s = v) {bk : Nat} (hx : a.eval x = .slice (some ⟨bk, 0, none⟩) 1 1) (hbk : bk = W.heap.size)
    (HO : OwnBags P base W v bs) (hy1 : IntsR .i64 (fun k => P k ∧ some k ≠ v.ownBlock) W u1 b.vs) (hy2 : IntsR .i64 (fun k => P k ∧ some k ≠ v.ownBlock) W u2 b.es) (hbase : base ≤ W.heap.size) (hl : bs.length ≤ 1000000000)
    (h : ∀ v1 w1, OwnBags P base w1 v1 (bs ++ [b]) → Ext (fun k => some k = v.ownBlock) W w1 → (v1.ownBlock = v.ownBlock ∨ ∃ b, v1.ownBlock = some b ∧ W.heap.size ≤ b) → (∃ A c, v1 = .slice A (bs.length + 1) c) → wpList Pg ops Q rest (a.put o.dst v1) w1) :
    wpList Pg ops Q (o :: rest) a (W.alloc (.cells #[u1, u2, .int .i64 b.parent] 51)) := by
  subst hbk
  obtain ⟨us, rfl, g1, g2⟩ := HO
  obtain ⟨A1, c1, rfl, _⟩ := hy1.at
  obtain ⟨A2, c2, rfl, _⟩ := hy2.at
  obtain ⟨i0, hi, hzz⟩ := Option.map_eq_some_iff.1 hinfo
  simp only [Prod.mk.injEq] at hzz
  obtain ⟨hz0, hz1, hz2⟩ := hzz
  rw [List.length_map] at hl h
  refine wpList_append_own_at (w := W.alloc (.cells #[.slice A1 b.vs.length c1, .slice A2 b.es.length c2, .int .i64 b.parent] 51)) hgd s x t ho base 51 i0 _ 3 56 ht hi hz0 hz1 hz2 rfl (by omega) v us.length (us.flatMap bagCells) hs (World.ownsRow.alloc g1 _) ⟨W.heap.size, 0, none⟩ 1 1 [.slice A1 b.vs.length c1, .slice A2 b.es.length c2, .int .i64 b.parent] hx rfl
    (fun j u hu => ?_) (by simp [Value.oneCell']) (by simp only [maxLen]; omega) (by omega) (by simp; omega) ?_
  · rw [addr_add, Nat.zero_add]
    have hj : j < 3 := by have := (List.getElem?_eq_some_iff.1 hu).1; simpa using this
    rw [World.cell?_of_block (w := W.alloc (.cells #[.slice A1 b.vs.length c1, .slice A2 b.es.length c2, .int .i64 b.parent] 51)) rfl]
    have hh := (MapKept.heap_alloc W (.cells #[.slice A1 b.vs.length c1, .slice A2 b.es.length c2, .int .i64 b.parent] 51)).1
    simp only [World.cell?, hh]
    simpa using hu
  · intro v1 w1 hown hg _ hat
    have hx1 : Ext (fun k => some k = v.ownBlock) W w1 := ⟨hg.os, hg.tape, hg.output, Nat.le_trans (by simp) hg.size, fun k hk hx => (hg.block k (by simp; omega) hx).trans (Below.heap_alloc _ _ _ hk)⟩
    have hat' : v1.ownBlock = v.ownBlock ∨ ∃ b, v1.ownBlock = some b ∧ W.heap.size ≤ b := by
      rcases hat with hat | hat
      · exact .inl hat
      · exact .inr ⟨_, hat, by simp⟩
    have hfix : ∀ (u : Value) (xs : List Int), IntsR .i64 (fun k => P k ∧ some k ≠ v.ownBlock) W u xs → IntsR .i64 (fun k => P k ∧ some k ≠ v1.ownBlock) w1 u xs := by
      intro u xs hu
      refine IntsR.ext (X := fun k => some k = v.ownBlock) (IntsR.imp (P' := fun k => (P k ∧ some k ≠ v1.ownBlock) ∧ some k ≠ v.ownBlock) hu ?_) hx1 (fun k hk => hk.2) |>.imp (fun k _ hk => hk.1)
      rintro k hk ⟨hp, hne⟩
      refine ⟨⟨hp, ?_⟩, hne⟩
      rcases hat' with h3 | ⟨b, h3, hb⟩
      · rw [h3]; exact hne
      · rw [h3]; intro he; cases he; omega
    refine h v1 w1 ⟨us ++ [(.slice A1 b.vs.length c1, .slice A2 b.es.length c2, b)], by simp, ?_, fun t ht => ?_⟩ hx1 hat' (Own.slice hown)
    · have : (us ++ [(Value.slice A1 b.vs.length c1, Value.slice A2 b.es.length c2, b)]).flatMap bagCells = us.flatMap bagCells ++ [.slice A1 b.vs.length c1, .slice A2 b.es.length c2, .int .i64 b.parent] := by simp [bagCells]
      rw [this, List.length_append]; exact hown
    · rcases List.mem_append.1 ht with ht | ht
      · exact ⟨hfix _ _ (g2 t ht).1, hfix _ _ (g2 t ht).2⟩
      · obtain rfl := List.mem_singleton.1 ht
        exact ⟨hfix _ _ hy1, hfix _ _ hy2⟩
end
end Go.Proofs.YtceiaekkfabeaaaDoor

/- append of a row of bags to a row of bags of one's own. -/
namespace Go.Proofs.YtceiaekkfabeaaaDoor
open Go.RowKit Pl

/-- The bags that are read, with their rows. -/
theorem BagsR.us {P : Nat → Prop} {w : World} {ad : Addr} {n c : Nat} {bs : List Bag} (h : BagsR P w (.slice (some ad) n c) bs) (hp : 0 < bs.length) : ad.spot = none ∧
    ∃ us : List (Value × Value × Bag), us.map (·.2.2) = bs ∧ (∀ j u, (us.flatMap bagCells)[j]? = some u → w.cell? (ad.add j) = some u) ∧ ∀ t ∈ us, IntsR .i64 P w t.1 t.2.2.vs ∧ IntsR .i64 P w t.2.1 t.2.2.es := by
  obtain ⟨A, c', hv, hc, hm, hn⟩ := h
  simp only [Value.slice.injEq] at hv
  obtain ⟨rfl, rfl, rfl⟩ := hv
  obtain ⟨ad', ha, hpa, hs, hj⟩ := hn hp
  cases ha
  refine ⟨hs, ?_⟩
  have hch : ∀ j : Nat, ∃ p : Value × Value, ∀ (hjl : j < bs.length), IntsR .i64 P w p.1 bs[j].vs ∧ IntsR .i64 P w p.2 bs[j].es ∧ ∀ i u, [p.1, p.2, Value.int .i64 bs[j].parent][i]? = some u → w.cell? ⟨ad.block, ad.off + (j * 3 + i), none⟩ = some u := by
    intro j
    by_cases hjl : j < bs.length
    · obtain ⟨cs, ⟨u1, u2, rfl, h1, h2⟩, _, hcell⟩ := hj j hjl
      exact ⟨(u1, u2), fun _ => ⟨h1, h2, hcell⟩⟩
    · exact ⟨(.bool false, .bool false), fun h => absurd h hjl⟩
  obtain ⟨f, hf⟩ := Classical.axiomOfChoice hch
  refine ⟨bs.mapIdx fun j b => ((f j).1, (f j).2, b), ?_, ?_, ?_⟩
  · apply List.ext_getElem?
    intro j
    simp [List.getElem?_map, List.getElem?_mapIdx]
    cases bs[j]? <;> rfl
  · intro j u hu
    have hj3 : j = j / 3 * 3 + j % 3 := by omega
    have hl : (List.flatMap bagCells (bs.mapIdx fun j b => ((f j).1, (f j).2, b))).length = bs.length * 3 := by
      rw [List.length_flatMap]
      have : ∀ l : List (Value × Value × Bag), (l.map fun a => (bagCells a).length).sum = l.length * 3 := by
        intro l
        induction l with
        | nil => rfl
        | cons a l ih => rw [List.map_cons, List.sum_cons, ih]; simp [bagCells]; omega
      rw [this, List.length_mapIdx]
    have hjl : j < bs.length * 3 := by have := (List.getElem?_eq_some_iff.1 hu).1; omega
    have hq : j / 3 < bs.length := by omega
    rw [hj3, flat3_at (by omega) (by simpa using hq)] at hu
    simp only [List.getElem_mapIdx, bagCells] at hu
    have h1 := (hf (j / 3) hq).2.2 _ _ hu
    rw [show j / 3 * 3 + j % 3 = j by omega] at h1
    obtain ⟨b, o, sp⟩ := ad
    simp only at hs
    subst hs
    rw [addr_add]
    exact h1
  · intro t ht
    obtain ⟨j, hj2⟩ := List.mem_iff_getElem?.1 ht
    rw [List.getElem?_mapIdx, Option.map_eq_some_iff] at hj2
    obtain ⟨b, hb, rfl⟩ := hj2
    obtain ⟨hjl, rfl⟩ := List.getElem?_eq_some_iff.1 hb
    exact ⟨(hf j hjl).1, (hf j hjl).2.1⟩
section
variable {Pg : Program} {ops : Array Oper} {rest : List Oper} {o : Oper} {a : Act} {Q : Exit → Act → World → Prop}
theorem appBags {P : Nat → Prop} {W : World} (base : Nat) (hgd : o.guard = none) (s x : Operand) (t : TypeId)
    (ho : o.op = .call { callee := .builtin .append, args := #[s, x], argTypes := #[t, t] })
    (ht : Pg.underlying t = some (.slice 51)) (hinfo : (Pg.info? 51).map (fun i => (i.zero, i.size, i.bytes)) = some (some (.agg #[.slice none 0 0, .slice none 0 0, .int .i64 0]), 3, 56))
    (v : Value) (bs news : List Bag) (hs : a.eval s = v) (ad : Addr) (c : Nat) (hx : a.eval x = .slice (some ad) news.length c)
    (HO : OwnBags P base W v bs) (hy : BagsR (fun k => P k ∧ some k ≠ v.ownBlock) W (.slice (some ad) news.length c) news) (hp : 0 < news.length) (hbase : base ≤ W.heap.size) (hl : bs.length + news.length ≤ 1000000000)
    (h : ∀ v1 w1, OwnBags P base w1 v1 (bs ++ news) → Ext (fun k => some k = v.ownBlock) W w1 → (v1.ownBlock = v.ownBlock ∨ ∃ b, v1.ownBlock = some b ∧ W.heap.size ≤ b) → (∃ A c, v1 = .slice A (bs.length + news.length) c) → wpList Pg ops Q rest (a.put o.dst v1) w1) :
    wpList Pg ops Q (o :: rest) a W := by
  obtain ⟨us, rfl, g1, g2⟩ := HO
  obtain ⟨hspot, us', hus, hcell, hint⟩ := hy.us hp
  have hlen : us'.length = news.length := by rw [← hus, List.length_map]
  obtain ⟨i0, hi, hzz⟩ := Option.map_eq_some_iff.1 hinfo
  simp only [Prod.mk.injEq] at hzz
  obtain ⟨hz0, hz1, hz2⟩ := hzz
  rw [List.length_map] at hl h
  have hfl : ∀ l : List (Value × Value × Bag), (l.flatMap bagCells).length = l.length * 3 := by
    intro l
    induction l with
    | nil => rfl
    | cons a l ih => rw [List.flatMap_cons, List.length_append, ih]; simp [bagCells]; omega
  refine wpList_append_own_at (w := W) hgd s x t ho base 51 i0 _ 3 56 ht hi hz0 hz1 hz2 rfl (by omega) v us.length (us.flatMap bagCells) hs g1 ad news.length c (us'.flatMap bagCells) hx (by rw [hfl, hlen])
    hcell ?_ (by simp only [maxLen]; omega) (by omega) hbase ?_
  · intro u hu
    obtain ⟨t', ht', hu⟩ := List.mem_flatMap.1 hu
    obtain ⟨h1, h2⟩ := hint t' ht'
    obtain ⟨A1, c1, e1, _⟩ := h1.at
    obtain ⟨A2, c2, e2, _⟩ := h2.at
    simp only [bagCells, List.mem_cons, List.not_mem_nil, or_false] at hu
    rcases hu with rfl | rfl | rfl
    · rw [e1]; rfl
    · rw [e2]; rfl
    · rfl
  · intro v1 w1 hown hg _ hat
    have hx1 : Ext (fun k => some k = v.ownBlock) W w1 := ⟨hg.os, hg.tape, hg.output, hg.size, fun k hk hx => hg.block k hk hx⟩
    have hat' : v1.ownBlock = v.ownBlock ∨ ∃ b, v1.ownBlock = some b ∧ W.heap.size ≤ b := by
      rcases hat with hat | hat
      · exact .inl hat
      · exact .inr ⟨_, hat, by simp⟩
    have hfix : ∀ (u : Value) (xs : List Int), IntsR .i64 (fun k => P k ∧ some k ≠ v.ownBlock) W u xs → IntsR .i64 (fun k => P k ∧ some k ≠ v1.ownBlock) w1 u xs := by
      intro u xs hu
      refine IntsR.ext (X := fun k => some k = v.ownBlock) (IntsR.imp (P' := fun k => (P k ∧ some k ≠ v1.ownBlock) ∧ some k ≠ v.ownBlock) hu ?_) hx1 (fun k hk => hk.2) |>.imp (fun k _ hk => hk.1)
      rintro k hk ⟨hp, hne⟩
      refine ⟨⟨hp, ?_⟩, hne⟩
      rcases hat' with h3 | ⟨b, h3, hb⟩
      · rw [h3]; exact hne
      · rw [h3]; intro he; cases he; omega
    refine h v1 w1 ⟨us ++ us', by simp [hus], ?_, fun t ht => ?_⟩ hx1 hat' (Own.slice hown)
    · rw [List.flatMap_append, List.length_append, hlen]; exact hown
    · rcases List.mem_append.1 ht with ht | ht
      · exact ⟨hfix _ _ (g2 t ht).1, hfix _ _ (g2 t ht).2⟩
      · exact ⟨hfix _ _ (hint t ht).1, hfix _ _ (hint t ht).2⟩
end
end Go.Proofs.YtceiaekkfabeaaaDoor

/- What is known within the region that makes a bag. -/
namespace Go.Proofs.YtceiaekkfabeaaaDoor
open Go.RowKit Pl

structure BgP (W0 : World) (M : Nat) (S : List Nat) (P Pf : Nat → Prop) (vals : Nat → Value) (vs es : List Int) (bo : Option Nat) (s : Nat → Value) (l : Nat → Bool) (w : World) : Prop where
  get : ∀ i, i < 10 → i ≠ 4 → l i = true → s i = vals i
  ext : Ext (fun k => k = M) W0 w
  known : KnownR (fun k => P k ∧ bo ≠ some k) w M S
  r4 : l 4 = true → IntsR .i64 (fun k => Pf k ∧ bo ≠ some k) w (s 4) vs
  r10 : l 10 = true → IntsR .i64 (fun k => P k ∧ bo ≠ some k) w (s 10) es
  r11 : l 11 = true → IntsR .i64 (fun k => Pf k ∧ bo ≠ some k) w (s 11) es
  r12 : l 12 = true → s 12 = .agg #[s 4, s 11, .int .i64 (-1)] ∧ l 4 = true ∧ l 11 = true
  r13 : l 13 = false → bo = none
  r13' : l 13 = true → ∃ b, bo = some b ∧ s 13 = .pointer (some ⟨b, 0, none⟩) ∧ W0.heap.size ≤ b ∧ b < w.heap.size ∧ ∀ i, i < 3 → w.frozen? ⟨b, i, none⟩ = false ∧ (w.cell? ⟨b, i, none⟩).isSome = true
  r14 : l 14 = true → ∃ b, bo = some b ∧ w.cell? ⟨b, 0, none⟩ = some (s 4) ∧ w.cell? ⟨b, 1, none⟩ = some (s 11) ∧ w.cell? ⟨b, 2, none⟩ = some (.int .i64 (-1)) ∧ l 4 = true ∧ l 11 = true ∧ l 13 = true
variable {W0 : World} {M : Nat} {S : List Nat} {P Pf : Nat → Prop} {vals : Nat → Value} {vs es : List Int} {bo : Option Nat} {s : Nat → Value} {l : Nat → Bool} {w w' : World}

theorem setS_ne {s : Nat → Value} {i j : Nat} {v : Value} (h : j ≠ i) : setS s i v j = s j := if_neg h
theorem setS_eq {s : Nat → Value} {i : Nat} {v : Value} : setS s i v i = v := if_pos rfl
theorem setL_ne {l : Nat → Bool} {i j : Nat} (h : j ≠ i) : setL l i j = l j := if_neg h
theorem setL_eq {l : Nat → Bool} {i : Nat} : setL l i i = true := if_pos rfl

/-- Nothing but the map and what is new turns. -/
theorem BgP.grow (h : BgP W0 M S P Pf vals vs es bo s l w) (hx : Ext (fun k => k = M) w w') (hk : KnownR (fun k => P k ∧ bo ≠ some k) w' M S) (hP : ¬ P M) (hPf : ¬ Pf M) (hM : M < W0.heap.size) : BgP W0 M S P Pf vals vs es bo s l w' where
  get := h.get
  ext := h.ext.trans hx
  known := hk
  r4 := fun hl => (h.r4 hl).ext hx (fun k hk hh => hPf (hh ▸ hk.1))
  r10 := fun hl => (h.r10 hl).ext hx (fun k hk hh => hP (hh ▸ hk.1))
  r11 := fun hl => (h.r11 hl).ext hx (fun k hk hh => hPf (hh ▸ hk.1))
  r12 := h.r12
  r13 := h.r13
  r13' := fun hl => by
    obtain ⟨b, h1, h2, h3, h4, h5⟩ := h.r13' hl
    refine ⟨b, h1, h2, h3, Nat.lt_of_lt_of_le h4 hx.size, fun i hi => ⟨(hx.frozen (p := ⟨b, i, none⟩) (by simp; omega) h4).trans (h5 i hi).1, ?_⟩⟩
    obtain ⟨u, hu⟩ := Option.isSome_iff_exists.1 (h5 i hi).2
    rw [hx.cell (p := ⟨b, i, none⟩) (by simp; omega) hu]; rfl
  r14 := fun hl => by
    obtain ⟨b, h1, h2, h3, h4, h5, h6, h7⟩ := h.r14 hl
    obtain ⟨b', h1', _, h3', _⟩ := h.r13' h7
    obtain rfl : b' = b := by rw [h1] at h1'; exact (Option.some.inj h1').symm
    exact ⟨b', h1, hx.cell (p := ⟨b', 0, none⟩) (by simp; omega) h2, hx.cell (p := ⟨b', 1, none⟩) (by simp; omega) h3, hx.cell (p := ⟨b', 2, none⟩) (by simp; omega) h4, h5, h6, h7⟩
/-- A value that was known beforehand. -/
theorem BgP.val (h : BgP W0 M S P Pf vals vs es bo s l w) (i : Nat) (hi : i < 10) (h4 : i ≠ 4) : BgP W0 M S P Pf vals vs es bo (setS s i (vals i)) (setL l i) w where
  get := fun j hj hj4 hl => by
    by_cases hji : j = i
    · subst hji; rw [setS_eq]
    · rw [setS_ne hji]; rw [setL_ne hji] at hl; exact h.get j hj hj4 hl
  ext := h.ext
  known := h.known
  r4 := fun hl => by rw [setS_ne (Ne.symm h4)]; rw [setL_ne (Ne.symm h4)] at hl; exact h.r4 hl
  r10 := fun hl => by rw [setS_ne (by omega)]; rw [setL_ne (by omega)] at hl; exact h.r10 hl
  r11 := fun hl => by rw [setS_ne (by omega)]; rw [setL_ne (by omega)] at hl; exact h.r11 hl
  r12 := fun hl => by rw [setL_ne (by omega)] at hl; rw [setS_ne (by omega), setS_ne (Ne.symm h4), setS_ne (by omega), setL_ne (Ne.symm h4), setL_ne (by omega)]; exact h.r12 hl
  r13 := fun hl => by rw [setL_ne (by omega)] at hl; exact h.r13 hl
  r13' := fun hl => by rw [setL_ne (by omega)] at hl; rw [setS_ne (by omega)]; exact h.r13' hl
  r14 := fun hl => by rw [setL_ne (by omega)] at hl; rw [setS_ne (Ne.symm h4), setS_ne (by omega), setL_ne (Ne.symm h4), setL_ne (by omega), setL_ne (by omega)]; exact h.r14 hl
/-- The vertices are made. -/
theorem BgP.vert (h : BgP W0 M S P Pf vals vs es bo s l w) (h12 : l 4 = false) {v : Value} (hv : IntsR .i64 (fun k => Pf k ∧ bo ≠ some k) w v vs) : BgP W0 M S P Pf vals vs es bo (setS s 4 v) (setL l 4) w where
  get := fun j hj hj4 hl => by rw [setS_ne hj4]; rw [setL_ne hj4] at hl; exact h.get j hj hj4 hl
  ext := h.ext
  known := h.known
  r4 := fun _ => by rw [setS_eq]; exact hv
  r10 := fun hl => by rw [setS_ne (by omega)]; rw [setL_ne (by omega)] at hl; exact h.r10 hl
  r11 := fun hl => by rw [setS_ne (by omega)]; rw [setL_ne (by omega)] at hl; exact h.r11 hl
  r12 := fun hl => by
    rw [setL_ne (by omega)] at hl
    have := (h.r12 hl).2.1
    rw [h12] at this; cases this
  r13 := fun hl => by rw [setL_ne (by omega)] at hl; exact h.r13 hl
  r13' := fun hl => by rw [setL_ne (by omega)] at hl; rw [setS_ne (by omega)]; exact h.r13' hl
  r14 := fun hl => by
    rw [setL_ne (by omega)] at hl
    obtain ⟨_, _, _, _, _, h4, _⟩ := h.r14 hl
    rw [h12] at h4; cases h4
/-- The edges are found. -/
theorem BgP.edges (h : BgP W0 M S P Pf vals vs es bo s l w) {v : Value} (hv : IntsR .i64 (fun k => P k ∧ bo ≠ some k) w v es) : BgP W0 M S P Pf vals vs es bo (setS s 10 v) (setL l 10) w where
  get := fun j hj hj4 hl => by rw [setS_ne (by omega)]; rw [setL_ne (by omega)] at hl; exact h.get j hj hj4 hl
  ext := h.ext
  known := h.known
  r4 := fun hl => by rw [setS_ne (by omega)]; rw [setL_ne (by omega)] at hl; exact h.r4 hl
  r10 := fun _ => by rw [setS_eq]; exact hv
  r11 := fun hl => by rw [setS_ne (by omega)]; rw [setL_ne (by omega)] at hl; exact h.r11 hl
  r12 := fun hl => by rw [setL_ne (by omega)] at hl; rw [setS_ne (by omega), setS_ne (by omega), setS_ne (by omega), setL_ne (by omega), setL_ne (by omega)]; exact h.r12 hl
  r13 := fun hl => by rw [setL_ne (by omega)] at hl; exact h.r13 hl
  r13' := fun hl => by rw [setL_ne (by omega)] at hl; rw [setS_ne (by omega)]; exact h.r13' hl
  r14 := fun hl => by rw [setL_ne (by omega)] at hl; rw [setS_ne (by omega), setS_ne (by omega), setL_ne (by omega), setL_ne (by omega), setL_ne (by omega)]; exact h.r14 hl
/-- They are copied. -/
theorem BgP.copied (h : BgP W0 M S P Pf vals vs es bo s l w) (h11 : l 11 = false) {v : Value} (hv : IntsR .i64 (fun k => Pf k ∧ bo ≠ some k) w v es) : BgP W0 M S P Pf vals vs es bo (setS s 11 v) (setL l 11) w where
  get := fun j hj hj4 hl => by rw [setS_ne (by omega)]; rw [setL_ne (by omega)] at hl; exact h.get j hj hj4 hl
  ext := h.ext
  known := h.known
  r4 := fun hl => by rw [setS_ne (by omega)]; rw [setL_ne (by omega)] at hl; exact h.r4 hl
  r10 := fun hl => by rw [setS_ne (by omega)]; rw [setL_ne (by omega)] at hl; exact h.r10 hl
  r11 := fun _ => by rw [setS_eq]; exact hv
  r12 := fun hl => by
    rw [setL_ne (by omega)] at hl
    have := (h.r12 hl).2.2
    rw [h11] at this; cases this
  r13 := fun hl => by rw [setL_ne (by omega)] at hl; exact h.r13 hl
  r13' := fun hl => by rw [setL_ne (by omega)] at hl; rw [setS_ne (by omega)]; exact h.r13' hl
  r14 := fun hl => by
    rw [setL_ne (by omega)] at hl
    obtain ⟨_, _, _, _, _, _, h4, _⟩ := h.r14 hl
    rw [h11] at h4; cases h4
/-- The bag is put together. -/
theorem BgP.built (h : BgP W0 M S P Pf vals vs es bo s l w) (h4 : l 4 = true) (h11 : l 11 = true) : BgP W0 M S P Pf vals vs es bo (setS s 12 (.agg #[s 4, s 11, .int .i64 (-1)])) (setL l 12) w where
  get := fun j hj hj4 hl => by rw [setS_ne (by omega)]; rw [setL_ne (by omega)] at hl; exact h.get j hj hj4 hl
  ext := h.ext
  known := h.known
  r4 := fun hl => by rw [setS_ne (by omega)]; rw [setL_ne (by omega)] at hl; exact h.r4 hl
  r10 := fun hl => by rw [setS_ne (by omega)]; rw [setL_ne (by omega)] at hl; exact h.r10 hl
  r11 := fun hl => by rw [setS_ne (by omega)]; rw [setL_ne (by omega)] at hl; exact h.r11 hl
  r12 := fun hl => by rw [setS_eq, setS_ne (by omega), setS_ne (by omega), setL_ne (by omega), setL_ne (by omega)]; exact ⟨rfl, h4, h11⟩
  r13 := fun hl => by rw [setL_ne (by omega)] at hl; exact h.r13 hl
  r13' := fun hl => by rw [setL_ne (by omega)] at hl; rw [setS_ne (by omega)]; exact h.r13' hl
  r14 := fun hl => by rw [setL_ne (by omega)] at hl; rw [setS_ne (by omega), setS_ne (by omega), setL_ne (by omega), setL_ne (by omega), setL_ne (by omega)]; exact h.r14 hl
/-- The bag's variable is laid. -/
theorem BgP.boxed (h : BgP W0 M S P Pf vals vs es bo s l w) (h13 : l 13 = false) (c0 c1 c2 : Value) : BgP W0 M S P Pf vals vs es (some w.heap.size) (setS s 13 (.pointer (some ⟨w.heap.size, 0, none⟩))) (setL l 13) (w.alloc (.cells #[c0, c1, c2] 51)) := by
  have hbo := h.r13 h13
  have hn : ∀ (Q : Nat → Prop) k, k < w.heap.size → (Q k ∧ bo ≠ some k) → Q k ∧ some w.heap.size ≠ some k := fun Q k hk hq => ⟨hq.1, fun hh => by cases hh; omega⟩
  have hf : ∀ {v : Value} {xs : List Int} (Q : Nat → Prop), IntsR .i64 (fun k => Q k ∧ bo ≠ some k) w v xs → IntsR .i64 (fun k => Q k ∧ some w.heap.size ≠ some k) (w.alloc (.cells #[c0, c1, c2] 51)) v xs := fun Q hh => (hh.imp (fun k hk hq => hn Q k hk hq)).no (ext_box _)
  exact {
    get := fun j hj hj4 hl => by rw [setS_ne (by omega)]; rw [setL_ne (by omega)] at hl; exact h.get j hj hj4 hl
    ext := h.ext.alloc _
    known := (h.known.imp (fun k hk hq => hn P k hk hq)).no (ext_box _)
    r4 := fun hl => by rw [setS_ne (by omega)]; rw [setL_ne (by omega)] at hl; exact hf Pf (h.r4 hl)
    r10 := fun hl => by rw [setS_ne (by omega)]; rw [setL_ne (by omega)] at hl; exact hf P (h.r10 hl)
    r11 := fun hl => by rw [setS_ne (by omega)]; rw [setL_ne (by omega)] at hl; exact hf Pf (h.r11 hl)
    r12 := fun hl => by rw [setL_ne (by omega)] at hl; rw [setS_ne (by omega), setS_ne (by omega), setS_ne (by omega), setL_ne (by omega), setL_ne (by omega)]; exact h.r12 hl
    r13 := fun hl => by rw [setL_eq] at hl; cases hl
    r13' := fun _ => ⟨w.heap.size, rfl, by rw [setS_eq], h.ext.size, by simp, fun i hi => by
      have hh := (MapKept.heap_alloc w (.cells #[c0, c1, c2] 51)).1
      rcases (by omega : i = 0 ∨ i = 1 ∨ i = 2) with rfl | rfl | rfl <;> (simp only [World.frozen?, World.cell?, hh]; simp)⟩
    r14 := fun hl => by
      rw [setL_ne (by omega)] at hl
      obtain ⟨_, _, _, _, _, _, _, h7⟩ := h.r14 hl
      rw [h13] at h7; cases h7 }
/-- The bag is laid down. -/
theorem BgP.stored {b : Nat} (h : BgP W0 M S P Pf vals vs es bo s l w) (h4 : l 4 = true) (h11 : l 11 = true) (h13 : l 13 = true) (hbo : bo = some b) (hx : Ext (fun k => k = b) w w') (hM : M < W0.heap.size)
    (e0 : w'.cell? ⟨b, 0, none⟩ = some (s 4)) (e1 : w'.cell? ⟨b, 1, none⟩ = some (s 11)) (e2 : w'.cell? ⟨b, 2, none⟩ = some (.int .i64 (-1))) (hfr : ∀ i, i < 3 → w'.frozen? ⟨b, i, none⟩ = false) (v : Value) :
    BgP W0 M S P Pf vals vs es bo (setS s 14 v) (setL l 14) w' := by
  obtain ⟨b', hb', hs13, hge, hlt, hcs⟩ := h.r13' h13
  obtain rfl : b' = b := by rw [hbo] at hb'; exact (Option.some.inj hb').symm
  subst hbo
  have hn : ∀ k, (some b' : Option Nat) ≠ some k → ¬ (k = b') := fun k hk hh => hk (by rw [hh])
  exact {
    get := fun j hj hj4 hl => by rw [setS_ne (by omega)]; rw [setL_ne (by omega)] at hl; exact h.get j hj hj4 hl
    ext := h.ext.step hx (fun i hi hh => by omega)
    known := h.known.ext hx (by omega) (fun k hk => hn k hk.2)
    r4 := fun hl => by rw [setS_ne (by omega)]; rw [setL_ne (by omega)] at hl; exact (h.r4 hl).ext hx (fun k hk => hn k hk.2)
    r10 := fun hl => by rw [setS_ne (by omega)]; rw [setL_ne (by omega)] at hl; exact (h.r10 hl).ext hx (fun k hk => hn k hk.2)
    r11 := fun hl => by rw [setS_ne (by omega)]; rw [setL_ne (by omega)] at hl; exact (h.r11 hl).ext hx (fun k hk => hn k hk.2)
    r12 := fun hl => by rw [setL_ne (by omega)] at hl; rw [setS_ne (by omega), setS_ne (by omega), setS_ne (by omega), setL_ne (by omega), setL_ne (by omega)]; exact h.r12 hl
    r13 := fun hl => by rw [setL_ne (by omega)] at hl; exact h.r13 hl
    r13' := fun _ => ⟨b', rfl, by rw [setS_ne (by omega)]; exact hs13, hge, Nat.lt_of_lt_of_le hlt hx.size, fun i hi => ⟨hfr i hi, by
      rcases (by omega : i = 0 ∨ i = 1 ∨ i = 2) with rfl | rfl | rfl
      · rw [e0]; rfl
      · rw [e1]; rfl
      · rw [e2]; rfl⟩⟩
    r14 := fun _ => ⟨b', rfl, by rw [setS_ne (by omega)]; exact e0, by rw [setS_ne (by omega)]; exact e1, e2, by rw [setL_ne (by omega)]; exact h4, by rw [setL_ne (by omega)]; exact h11, by rw [setL_ne (by omega)]; exact h13⟩ }
theorem BgP.bo_lt (h : BgP W0 M S P Pf vals vs es bo s l w) {b : Nat} (hb : bo = some b) : W0.heap.size ≤ b ∧ b < w.heap.size := by
  cases hl : l 13 with
  | false => rw [h.r13 hl] at hb; cases hb
  | true =>
    obtain ⟨b', hb', _, h1, h2, _⟩ := h.r13' hl
    rw [hb] at hb'
    obtain rfl := Option.some.inj hb'
    exact ⟨h1, h2⟩
end Go.Proofs.YtceiaekkfabeaaaDoor
