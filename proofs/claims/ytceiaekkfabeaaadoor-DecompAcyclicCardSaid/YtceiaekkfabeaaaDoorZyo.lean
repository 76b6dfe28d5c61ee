/- Words and contracts for: DecompAcyclic: for every hypergraph the law answers true, and its arguments read as before. No condition; the library's table math/bits.deBruijn64tab is laid by its text. -/
import Derived.Test.YtceiaekkfabeaaaDoorZyn
/- slices.Clone of rows of rows. -/
namespace Go.Proofs.YtceiaekkfabeaaaDoor
open Go.RowKit Pl

theorem RowsR.news {P : Nat → Prop} {w : World} {ad : Addr} {n c : Nat} {xss : List (List Int)} (h : RowsR P w (.slice (some ad) n c) xss) :
    ∃ vals : List Value, vals.length = xss.length ∧ (∀ j u, vals[j]? = some u → w.cell? (ad.add j) = some u) ∧ (∀ u ∈ vals, u.oneCell' = true) ∧ ∀ (j : Nat) u xs, vals[j]? = some u → xss[j]? = some xs → IntsR .i64 P w u xs := by
  obtain ⟨A, c', hv, hc, hm, hn⟩ := h
  cases hv
  have key : ∀ (j : Nat) (hj : j < xss.length), ∃ u, w.cell? (ad.add j) = some u ∧ u.oneCell' = true ∧ IntsR .i64 P w u xss[j] := fun j hj => by
    obtain ⟨⟨b, off, sp⟩, ha, hpa, hs, hh⟩ := hn (by omega)
    cases ha
    simp only at hs
    subst hs
    obtain ⟨cs, ⟨u, rfl, h1, h2⟩, _, hcell⟩ := hh j hj
    refine ⟨u, ?_, h1, h2⟩
    rw [addr_add]
    have := hcell 0 u rfl
    simpa using this
  refine ⟨List.ofFn (n := xss.length) fun j => Classical.choose (key j.val j.isLt), by simp, fun j u hu => ?_, fun u hu => ?_, fun j u xs hu hxs => ?_⟩
  · obtain ⟨hj, rfl⟩ := List.getElem?_eq_some_iff.1 hu
    rw [List.length_ofFn] at hj
    rw [List.getElem_ofFn]
    exact (Classical.choose_spec (key j hj)).1
  · rw [List.mem_ofFn] at hu
    obtain ⟨j, rfl⟩ := hu
    exact (Classical.choose_spec (key j.val j.isLt)).2.1
  · obtain ⟨hj, rfl⟩ := List.getElem?_eq_some_iff.1 hu
    obtain ⟨_, rfl⟩ := List.getElem?_eq_some_iff.1 hxs
    rw [List.length_ofFn] at hj
    rw [List.getElem_ofFn]
    exact (Classical.choose_spec (key j hj)).2.2
set_option maxHeartbeats 400000 in
theorem CloneRows_any {P : Nat → Prop} (v : Value) (xss : List (List Int)) (w : World) (hv : RowsR P w v xss) (hb : xss.length ≤ 1000000) :
    Calls Tryd.prog 30 #[v] w fun e w' => ∃ v', e = .returned v' ∧ OwnRows (fun k => P k ∧ k < w.heap.size) w.heap.size w' v' xss ∧ Ext No w w' := by
  obtain ⟨A, c, rfl, hc, hm, hat⟩ := hv.at
  have HV := Sid.mk hv
  clear hat hv
  have heq := fun (w : World) (A : Option Addr) (n c : Nat) => Lib.run_eql_slice_nil (P := Tryd.prog) w 22 28 A n c 0 0 Tryd.underlying22
  cases A with
  | none =>
    have h0 : xss = [] := (RowR.none HV.out).2.2
    subst h0
    go_enter Tryd.func30, Tryd.ntmps30
    go_wp2
    go_ret
    exact ⟨_, rfl, OwnRows.nil _ _ _, Ext.refl _ _⟩
  | some ad =>
    obtain ⟨vals, hvl, hvc, hv1, hvr⟩ := HV.out.news
    have hl : w.heap.size ≤ (w.alloc (.cells #[] 28)).heap.size := by simp
    have HVC : Sid (∀ j u, vals[j]? = some u → (w.alloc (.cells #[] 28)).cell? (ad.add j) = some u) := ⟨fun j u hu => (ext_box _).no (hvc j u hu)⟩
    have HV1 := Sid.mk hv1
    have HVR := Sid.mk hvr
    have HVL := Sid.mk hvl
    clear hvl hvc hv1 hvr
    go_enter Tryd.func30, Tryd.ntmps30
    go_wp2_with (at_builtin; refine appN w.heap.size rfl (.tmp 5) (.tmp 6) 22 28 (.slice none 0 0) 24 rfl Tryd.underlying22 info28 rfl (by decide) _ 0 [] ad xss.length c vals rfl rfl HVL.out HVC.out HV1.out (Own.lit w _ _ _ (Nat.le_refl _)) hl (by omega) ?_; intro v1 w1 ho1 hx1 hb1 hs1; have HO1 := Sid.mk ho1; have HX1 := Sid.mk hx1; have HB1 := Sid.mk hb1; clear ho1 hx1 hb1 hs1)
    go_ret
    have h1 := HO1.out
    rw [Nat.zero_add, List.nil_append] at h1
    have hx : Ext No w w1 := (Own.lit w _ _ 1 (Nat.le_refl _)).step (ext_box _) HX1.out
    refine ⟨_, rfl, ⟨vals, h1, fun j u xs hu hxs => ?_⟩, hx⟩
    exact ((HVR.out j u xs hu hxs).imp (fun k hk hp => (⟨⟨hp, hk⟩, fun he => by have := (h1.ge k he.symm).1; omega⟩ : (P k ∧ k < w.heap.size) ∧ some k ≠ v1.ownBlock))).no hx
end Go.Proofs.YtceiaekkfabeaaaDoor

/- A function that leaves with marks of its loops over iterators. -/
namespace Go.Proofs.YtceiaekkfabeaaaDoor
open Go.RowKit Go.Shelf Pl

/-- The marks of loops that were gone through. -/
def markL (bs : List Nat) : List Deferred := bs.map fun b => { target := .collected b, args := #[] }
theorem leaves_marks {F : Fence} {n : Nat} {P : Program} {fn : Func} {tmps : Array Value} {R : Ending → World → Prop} : ∀ (bs : List Nat) (w : World), bs.Nodup → (∀ b ∈ bs, w.heap[b]? = some (.deferred (some []))) →
    (∀ w', Ext (fun k => k ∈ bs) w w' → LeavesInM F n P fn tmps R [] .returning w') → LeavesInM F n P fn tmps R (markL bs) .returning w
  | [], w, _, _, h => h w (Ext.refl _ _)
  | b :: bs, w, hn, hb, h => by
    obtain ⟨hn1, hn2⟩ := List.nodup_cons.1 hn
    have hx : Ext (fun k => k = b) w (w.putObj b (.deferred none)) := (Ext.refl (fun k => k = b) w).putObj rfl _
    refine ⟨by simp, .inl ⟨b, _, rfl, run_takeDeferred (hb b (by simp)), ?_⟩⟩
    refine leaves_marks bs _ hn2 (fun c hc => ?_) (fun w' hw' => h w' ?_)
    · have hcl := hb c (List.mem_cons_of_mem _ hc)
      exact (hx.block c (Array.getElem?_eq_some_iff.1 hcl).1 (fun hh => hn1 (hh ▸ hc))).trans hcl
    · exact (hx.mono (fun k hk => by rw [hk]; simp)).trans (hw'.mono (fun k hk => List.mem_cons_of_mem _ hk))
end Go.Proofs.YtceiaekkfabeaaaDoor

/- The walk over hyper.Of. -/
namespace Go.Proofs.YtceiaekkfabeaaaDoor
open Go.RowKit Go.Shelf Pl
attribute [local go_sem] Oper.semAt_some

theorem RowR.real {α : Type} {P : Nat → Prop} {sz : Nat} {E E' : World → α → List Value → Prop} {w : World} {v : Value} {xs : List α} (hs0 : 0 < sz) (h : RowR P sz E w v xs) (hE : ∀ x ∈ xs, ∀ cs, E w x cs → E' w x cs) : RowR (fun k => P k ∧ ∀ d, w.heap[k]? ≠ some (.deferred d)) sz E' w v xs := by
  obtain ⟨A, c, hv, hc, hm, hn⟩ := h
  refine ⟨A, c, hv, hc, hm, fun hp => ?_⟩
  obtain ⟨ad, ha, hpa, hs, hj⟩ := hn hp
  refine ⟨ad, ha, ⟨hpa, fun d hd => ?_⟩, hs, fun j hjl => ?_⟩
  · obtain ⟨cs, _, hl, hcell⟩ := hj 0 hp
    have := hcell 0 _ (List.getElem?_eq_getElem (by omega))
    simp [World.cell?, hd] at this
  · obtain ⟨cs, he, hl, hcell⟩ := hj j hjl
    exact ⟨cs, hE _ (List.getElem_mem _) _ he, hl, hcell⟩
theorem RowsR.real {P : Nat → Prop} {w : World} {v : Value} {xss : List (List Int)} (h : RowsR P w v xss) : RowsR (fun k => P k ∧ ∀ d, w.heap[k]? ≠ some (.deferred d)) w v xss :=
  RowR.real (by omega) h (fun _ _ _ ⟨u, h1, h2, h3⟩ => ⟨u, h1, h2, RowR.real (by omega) h3 (fun _ _ _ he => he)⟩)
theorem enters66 : Enters 66 := fun l w => by kernel_rfl
set_option maxHeartbeats 800000 in
theorem of1_any {P : Nat → Prop} (i many : Int) (B : Nat) (v : Value) (xs : List Int) (w : World) (hv : IntsR .i64 P w v xs) (hb : w.cell? ⟨B, 0, none⟩ = some (.int .i64 many)) :
    Calls Tryd.prog 66 #[.int .i64 i, v, .pointer (some ⟨B, 0, none⟩)] w fun e w' => e = .returned (.bool (allI (fun _ x => vertB many x) 0 xs)) ∧ Ext No w w' := by
  have HV := Sid.mk hv
  obtain ⟨A, c, rfl, hc, hm, _⟩ := hv.at
  clear hv
  go_enter Tryd.func66, Tryd.ntmps66
  go_wp2_with (first | (go_at_call 62; refine (vertices_any _ xs many _ HV.out).mono ?_; rintro e w1 ⟨rfl, hx1⟩; have HX1 := Sid.mk hx1; clear hx1) | fail)
  go_ret
  exact ⟨rfl, HX1.out⟩

set_option maxHeartbeats 4000000 in
set_option maxRecDepth 100000 in
theorem hyperOf_any {P : Nat → Prop} (many : Int) (ev : Value) (es : List (List Int)) (w : World) (he : RowsR P w ev es) (hsz : sizesB many es.length = true) (hvb : allI (fun _ e => allI (fun _ x => vertB many x) 0 e) 0 es = true) (hs : smallE es) (hl : es.length ≤ 1000) (hT : TabW w) :
    Calls Tryd.prog 29 #[.int .i64 many, ev] w fun e w' => ∃ v', e = .returned (.tuple #[.agg #[.int .i64 many, v'], .int .i64 0]) ∧ RowsR (fun k => w.heap.size ≤ k) w' v' (es.map fun e => membersL (ofTo e)) ∧ Ext No w w' := by
  obtain ⟨A, c, rfl, hc, hm, hat⟩ := he.at
  have HE := Sid.mk he
  have HAT := Sid.mk hat
  have HSM := Sid.mk hs
  have HT := Sid.mk hT
  have G1 := Sid.mk hsz
  have G2 := Sid.mk hvb
  clear he hat hs hT hsz hvb
  have HB0 : Sid (∀ w', Ext No ((w.alloc (.cells #[.int .i64 many] 3)).alloc (.cells #[.int .i64 0, .slice none 0 0] 24)) w' → w'.cell? ⟨w.heap.size, 0, none⟩ = some (.int .i64 many)) := ⟨fun w' hx => hx.no (by simp)⟩
  refine (callsIn_wide (n := 0)).1 ?_
  refine callsIn_of_wp_marks Tryd.func29 rfl trivial ?_ rfl
  simp only [Tryd.ntmps29, List.size_toArray, List.length_cons, List.length_nil, Nat.reduceAdd, Nat.reduceSub, Array.replicate_succ, Array.replicate_zero, List.push_toArray, List.append_toArray, List.nil_append, List.cons_append]
  gi_wp2_with (first
    | (refine ⟨trivial, rfl, ?_⟩; gi_at_call 59; refine (callsIn_wide.2 (sizes_any many es.length _)).mono ?_; rintro e w1 ⟨rfl, rfl⟩; rw [G1.out])
    | (refine ⟨trivial, rfl, ?_⟩; gi_at_call 60; refine (callsIn_wide.2 (allRows_any 66 enters66 #[.pointer (some ⟨w.heap.size, 0, none⟩)] (fun _ e => allI (fun _ x => vertB many x) 0 e) _ es _ (HE.out.no ((ext_box _).trans (ext_box _))) (fun i u x wx hwx _ hu => of1_any i many _ u x wx hu (HB0.out _ hwx)))).mono ?_; rintro e w2 ⟨rfl, hx2⟩; rw [G2.out]; have h0 := HB0.out _ hx2; have HX2 := Sid.mk hx2; clear hx2)
    | fail)
  have HRB : Sid (∀ w', Ext No w2 w' → w'.cell? ⟨w.heap.size + 1, 0, none⟩ = some (.int .i64 0) ∧ w'.cell? ⟨w.heap.size + 1, 1, none⟩ = some (.slice none 0 0) ∧ w'.frozen? ⟨w.heap.size + 1, 0, none⟩ = false ∧ w'.frozen? ⟨w.heap.size + 1, 1, none⟩ = false) := ⟨fun w' hx => by
    have h := HX2.out.trans hx
    exact ⟨h.no (by simp), h.no (by simp), (h.frozen (p := ⟨w.heap.size + 1, 0, none⟩) (fun h => h) (by simp)).trans (by simp [go_sem]), (h.frozen (p := ⟨w.heap.size + 1, 1, none⟩) (fun h => h) (by simp)).trans (by simp [go_sem])⟩⟩
  have HC2 : Sid (∀ w', Ext No w2 w' → w'.cell? ⟨w.heap.size, 0, none⟩ = some (.int .i64 many)) := ⟨fun w' hx => hx.no h0⟩
  have HXW : Sid (Ext No w w2) := ⟨((ext_box _).trans (ext_box _)).trans HX2.out⟩
  have hpos : 0 < w.heap.size := World.block_lt_of_cell? w _ (HT.out 0 (by decide))
  clear h0
  refine wpIn_loop (fun a' w' => ∃ (k : Nat) (bs : List Nat) (v u8 u9 u10 u28 u29 u30 u31 u32 u33 u34 u35 u36 u37 u38 u39 u40 u41 u42 u43 u44 u45 : Value), a' = { tmps := #[Value.int .i64 many, Value.slice A es.length c, Value.pointer (some ⟨w.heap.size, 0, none⟩), undef, Value.pointer (some ⟨w.heap.size + 1, 0, none⟩), Value.int .i64 0, Value.pointer (some ⟨w2.heap.size, 0, none⟩), undef, u8, u9, u10, Value.int .i64 many, Value.slice A es.length c, Value.int .i64 (es.length : Int), Value.bool true, Value.bool false, Value.bool false, Value.slice A es.length c, Value.func (.func 66) #[] #[.pointer (some ⟨w.heap.size, 0, none⟩)], Value.bool true, Value.bool false, Value.bool false, undef, Value.int .i64 many, Value.agg #[.int .i64 many, .slice none 0 0], Value.slice A es.length c, Value.int .i64 (es.length : Int), Value.int .i64 (k : Int), u28, u29, u30, u31, u32, u33, u34, u35, u36, u37, u38, u39, u40, u41, u42, u43, u44, u45, undef], defers := markL bs } ∧ k ≤ es.length ∧ Sid bs.Nodup ∧ Sid (∀ b ∈ bs, w'.heap[b]? = some (.deferred (some [])) ∧ w2.heap.size + 1 ≤ b) ∧ w'.cell? ⟨w2.heap.size, 0, none⟩ = some (.int .i64 many) ∧ w'.cell? ⟨w2.heap.size, 1, none⟩ = some v ∧ w'.frozen? ⟨w2.heap.size, 1, none⟩ = false ∧ Sid (OwnRows (fun j => w2.heap.size + 1 ≤ j) (w2.heap.size + 1) w' v ((es.take k).map fun e => membersL (ofTo e))) ∧ Sid (Ext No w2 w')) (fun a' _ => es.length - (intOf (a'.tmps.getD 27 undef)).toNat) ?hstart ?hround
  case hstart => exact ⟨0, [], .slice none 0 0, _, _, _, _, _, _, _, _, _, _, _, _, _, _, _, _, _, _, _, _, _, rfl, Nat.zero_le _, ⟨List.nodup_nil⟩, ⟨by simp⟩, by simp [go_sem], by simp [go_sem], by simp [go_sem], ⟨OwnRows.nil _ _ _⟩, ⟨(Ext.refl No w2).alloc _⟩⟩
  case hround =>
    rintro a' wr ⟨k, bs, v0, u8, u9, u10, u28, u29, u30, u31, u32, u33, u34, u35, u36, u37, u38, u39, u40, u41, u42, u43, u44, u45, rfl, hk, HN, HBS, hc0, hc1, hf1, HO, HX⟩
    obtain ⟨Av, cv, rfl⟩ := HO.out.slice
    by_cases hlt : k < es.length
    · obtain ⟨b, off, A', c', r, rfl, _, hcell0, HR', HI'⟩ := HAT.out k hlt
      have hcell := (HXW.out.trans HX.out).no hcell0
      have hsm := HSM.out r (List.mem_of_getElem? HR'.out)
      obtain ⟨s, hs⟩ : ∃ s, s = ofTo r := ⟨_, rfl⟩
      have hsl : s < 4294967296 := by rw [hs]; exact ofTo_lt hsm
      have HS := Sid.mk hs
      have HSML := Sid.mk hsm
      have HIR : Sid (IntsR .i64 P wr (.slice A' r.length c') r) := ⟨HI'.out.no (HXW.out.trans HX.out)⟩
      clear hcell0 hs hsm
      gi_wp2_with (first
        | (refine ⟨trivial, rfl, ?_⟩; gi_at_call 67; refine (callsIn_wide.2 (hof_any _ r _ (HIR.out.no (ext_box _)) HSML.out)).mono ?_; rintro e w3 ⟨rfl, rfl⟩; rw [← HS.out])
        | (refine ⟨trivial, rfl, ?_⟩; gi_at_call 68; refine (callsIn_wide.2 (each_any _ _)).mono ?_; rintro e w4 ⟨rfl, rfl⟩)
        | fail)
      have HWP : Sid (0 < wr.heap.size) := ⟨by have h1 := (HXW.out.trans HX.out).size; omega⟩
      have HTW : Sid (TabW wr) := ⟨HT.out.no (HXW.out.trans HX.out)⟩
      have hM0 : MemOk s (wr.heap.size + 1) ((wr.alloc (.cells #[.slice none 0 0] 28)).alloc (.cells #[.int .u64 (s : Int)] 96)) := ⟨HTW.out.no (((Ext.refl No wr).alloc _).alloc _), by simp [go_sem], by simp [go_sem]⟩
      have hwp := HWP.out
      have hc02 := HX.out
      refine wpIn_range_ext (gf := 86) (lb := #[.pointer (some ⟨wr.heap.size + 1, 0, none⟩)]) (Bs := wr.heap.size + 1) (Ok := MemOk s (wr.heap.size + 1)) rfl enters86 (each_iter hsl (by omega)) MemOk.ext rfl
        (fun pre W => BoxI wr.heap.size (wr.heap.size + 4) pre W) (fun _ _ => False) (fun j => j = wr.heap.size ∨ wr.heap.size + 4 ≤ j) (by omega) (by omega) (by simp <;> omega) (by simp <;> omega) (by simp <;> omega) (by omega)
        (fun pre W W' h hx => h.ext hx (by simp; omega) (fun k hk => by simp; omega)) (fun _ _ _ h _ => h.elim) hM0 ⟨.slice none 0 0, by simp [go_sem], by simp [go_sem], Own.nil _ _ _ _⟩
        (fun x => { tmps := #[Value.int .i64 many, Value.slice (some ⟨b, off, none⟩) es.length c, Value.pointer (some ⟨w.heap.size, 0, none⟩), undef, Value.pointer (some ⟨w.heap.size + 1, 0, none⟩), Value.int .i64 0, Value.pointer (some ⟨w2.heap.size, 0, none⟩), undef, Value.slice A' r.length c', Value.pointer (some ⟨wr.heap.size, 0, none⟩), Value.int .i64 x, Value.int .i64 many, Value.slice (some ⟨b, off, none⟩) es.length c, Value.int .i64 (es.length : Int), Value.bool true, Value.bool false, Value.bool false, Value.slice (some ⟨b, off, none⟩) es.length c, Value.func (.func 66) #[] #[.pointer (some ⟨w.heap.size, 0, none⟩)], Value.bool true, Value.bool false, Value.bool false, undef, Value.int .i64 many, Value.agg #[.int .i64 many, .slice none 0 0], Value.slice (some ⟨b, off, none⟩) es.length c, Value.int .i64 (es.length : Int), Value.int .i64 (k : Int), Value.bool true, Value.pointer (some ⟨b, off + k, none⟩), Value.slice A' r.length c', Value.slice A' r.length c', Value.int .u64 (s : Int), Value.func (.func 86) #[] #[.pointer (some ⟨wr.heap.size + 1, 0, none⟩)], Value.int .i64 x, u35, u36, u37, u38, u39, u40, u41, u42, u43, u44, u45, undef], defers := [] }) ?assign ?body ?done ?stop
      case assign =>
        intro l x W K hK
        gi_wp2
        exact hK
      case body =>
        rintro l pre x post W hL hI hsz
        have hlen : pre.length ≤ 32 := by have := congrArg List.length hL; simp [membersL] at this; have := membersN_len s; omega
        have hsz' : wr.heap.size + 4 ≤ W.heap.size := by simpa using hsz
        obtain ⟨vp, hc, hf, ho⟩ := hI
        obtain ⟨Ap, cp, rfl⟩ := Own.slice ho
        have HOp := Sid.mk ho
        clear ho
        gi_wp2_with (gi_at_builtin; refine app1In (wr.heap.size + 4) rfl (.tmp 35) (.tmp 37) 28 3 (.int .i64 0) 8 rfl Tryd.underlying28 info3 rfl (by decide) (Value.slice Ap pre.length cp) _ _ _ rfl rfl (by simp) rfl HOp.out hsz' (by omega) ?_; intro v1 w1 ho1 hx1 hb1 hs1; obtain ⟨A1, c1, rfl⟩ := hs1; have hne := fun k (hk : some k = (Value.slice Ap pre.length cp).ownBlock) => (HOp.out.ge k hk.symm).1; have hc1 := hx1.cell (p := ⟨wr.heap.size, 0, none⟩) (fun h => by have := hne _ h; simp at this; omega) hc; have hf1 := (hx1.frozen (p := ⟨wr.heap.size, 0, none⟩) (fun h => by have := hne _ h; simp at this; omega) (by simp; omega)).trans hf; have HX1 := Sid.mk hx1; have HO1 := Sid.mk ho1; have HNE := Sid.mk hne; clear hx1 ho1 hb1 hne)
        have hx2 : Ext (fun k => k = wr.heap.size) w1 (w1.setCell ⟨wr.heap.size, 0, none⟩ (.slice A1 (pre.length + 1) c1)) := (Ext.refl (fun k => k = wr.heap.size) w1).setCell (p := ⟨wr.heap.size, 0, none⟩) (Or.inl rfl) _
        refine ⟨(HX1.out.mono (fun k hk => Or.inr (HNE.out k hk))).trans (hx2.mono (fun _ h => Or.inl h)), .slice A1 (pre.length + 1) c1, World.cell?_setCell_same' _ _ _ (by rw [hc1]; rfl), by simp [hf1], ?_⟩
        rw [List.map_append, List.length_append]
        exact HO1.out.ext hx2 (fun k hk h => by have := (HO1.out.ge k hk).1; omega)
      case done =>
        intro W hI hx hK
        obtain ⟨vp, hc, hf, ho⟩ := hI
        obtain ⟨Ap, cp, rfl⟩ := Own.slice ho
        have HOp := Sid.mk ho
        have HXD := Sid.mk hx
        have HKD := Sid.mk hK
        clear ho hx hK
        have hDs : ((wr.alloc (.cells #[.slice none 0 0] 28)).alloc (.cells #[.int .u64 (s : Int)] 96)).heap.size = wr.heap.size + 2 := by simp
        rw [hDs] at HKD ⊢
        have hwl : w2.heap.size < wr.heap.size := World.block_lt_of_cell? wr _ hc0
        have HXN : Sid (Ext No wr W) := ⟨(((Ext.refl No wr).alloc _).alloc _).step HXD.out (fun i hi hh => by omega)⟩
        have hq0 := HXN.out.no hc0
        have hq1 := HXN.out.no hc1
        have hqf := (HXN.out.frozen (p := ⟨w2.heap.size, 1, none⟩) (fun h => h) hwl).trans hf1
        have HOW : Sid (OwnRows (fun j => w2.heap.size + 1 ≤ j) (w2.heap.size + 1) W (.slice Av ((es.take k).map fun e => membersL (ofTo e)).length cv) ((es.take k).map fun e => membersL (ofTo e))) := ⟨HO.out.no HXN.out⟩
        have HLT : Sid (∀ j, (Value.slice Av ((es.take k).map fun e => membersL (ofTo e)).length cv).ownBlock = some j → j < wr.heap.size) := ⟨fun j hj => (HO.out.ge j hj).2⟩
        have HRI : Sid (IntsR .i64 (fun j => w2.heap.size + 1 ≤ j ∧ some j ≠ (Value.slice Av ((es.take k).map fun e => membersL (ofTo e)).length cv).ownBlock) W (.slice Ap (membersL s).length cp) (membersL s)) := ⟨ints_own HOp.out (by simp [membersL]; have := membersN_len s; omega) (fun j hj => by
          have h1 := (HOp.out.ge j hj).1
          exact ⟨by omega, fun he => by have := HLT.out j he.symm; omega⟩)⟩
        have HWL : Sid (w2.heap.size + 1 ≤ W.heap.size) := ⟨by have := HXN.out.size; omega⟩
        have HTK : Sid ((es.take (k + 1)).map (fun e => membersL (ofTo e)) = (es.take k).map (fun e => membersL (ofTo e)) ++ [membersL s]) := ⟨by rw [take_map_succ HR'.out, ← HS.out]⟩
        have HLL : Sid (((es.take k).map fun e => membersL (ofTo e)).length ≤ 1000000000) := ⟨by simp; omega⟩
        have HBS2 : Sid (∀ j ∈ (wr.heap.size + 2) :: bs, W.heap[j]? = some (.deferred (some [])) ∧ w2.heap.size + 1 ≤ j) := ⟨fun j hj => by
          rcases List.mem_cons.1 hj with rfl | hj
          · exact ⟨HKD.out, by omega⟩
          · obtain ⟨h1, h2⟩ := HBS.out j hj
            exact ⟨(HXN.out.block j (Array.getElem?_eq_some_iff.1 h1).1 (fun h => h)).trans h1, h2⟩⟩
        have HN2 : Sid ((wr.heap.size + 2) :: bs).Nodup := ⟨List.nodup_cons.2 ⟨fun hj => by
          have := (Array.getElem?_eq_some_iff.1 (HBS.out _ hj).1).1
          omega, HN.out⟩⟩
        obtain ⟨XS, hXS⟩ : ∃ XS, XS = (es.take k).map fun e => membersL (ofTo e) := ⟨_, rfl⟩
        rw [← hXS] at HOW HRI HTK HLL hq1
        have HXS := Sid.mk hXS
        clear hXS hDs hM0 hc02 hc0 hc1 hf1 hcell
        simp only [Exit.inBlock, Exit.then]
        apply_assumption
        refine wpIn_wide.2 ?_
        go_wp2_with (first
          | (at_builtin; refine appRow (w2.heap.size + 1) rfl (.tmp 40) (.tmp 42) 22 rfl Tryd.underlying22 info28 _ _ _ (membersL s) rfl rfl (by simp) HOW.out HRI.out HWL.out HLL.out ?_; intro v5 w5 ho5 hx5 hb5 hs5; obtain ⟨A5, c5, rfl⟩ := hs5; have hne : ∀ j, some j = (Value.slice Av XS.length cv).ownBlock → w2.heap.size + 1 ≤ j := fun j hj => (HOW.out.ge j hj.symm).1; have hr0 := hx5.cell (p := ⟨w2.heap.size, 0, none⟩) (fun h => absurd (hne _ h) (Nat.not_succ_le_self _)) hq0; have hr1 := hx5.cell (p := ⟨w2.heap.size, 1, none⟩) (fun h => absurd (hne _ h) (Nat.not_succ_le_self _)) hq1; have hrf := (hx5.frozen (p := ⟨w2.heap.size, 1, none⟩) (fun h => absurd (hne _ h) (Nat.not_succ_le_self _)) (by have := HWL.out; simp; omega)).trans hqf; have HO5 := Sid.mk ho5; have HX5 := Sid.mk hx5; have HNE := Sid.mk hne; clear ho5 hx5 hb5 hne)
          | fail)
        gi_wp2
        have HX6 : Sid (Ext (fun j => j = w2.heap.size) w5 (w5.setCell ⟨w2.heap.size, 1, none⟩ (.slice A5 (XS.length + 1) c5))) := ⟨(Ext.refl (fun j => j = w2.heap.size) w5).setCell (p := ⟨w2.heap.size, 1, none⟩) (Or.inl rfl) _⟩
        have HOF : Sid (OwnRows (fun j => w2.heap.size + 1 ≤ j) (w2.heap.size + 1) (w5.setCell ⟨w2.heap.size, 1, none⟩ (.slice A5 (XS.length + 1) c5)) (.slice A5 (XS.length + 1) c5) (XS ++ [membersL s])) := ⟨HO5.out.ext HX6.out (fun j hj hh => by have := (HO5.out.ge j hj).1; omega) (fun j hj hh => by omega)⟩
        have HBF : Sid (∀ j ∈ (wr.heap.size + 2) :: bs, (w5.setCell ⟨w2.heap.size, 1, none⟩ (.slice A5 (XS.length + 1) c5)).heap[j]? = some (.deferred (some [])) ∧ w2.heap.size + 1 ≤ j) := ⟨fun j hj => by
          obtain ⟨h1, h2⟩ := HBS2.out j hj
          have hjl := (Array.getElem?_eq_some_iff.1 h1).1
          refine ⟨?_, h2⟩
          rw [HX6.out.block j (Nat.lt_of_lt_of_le hjl HX5.out.size) (by omega), HX5.out.block j hjl ?_, h1]
          intro hown
          obtain ⟨vs, ho, _⟩ := HOW.out
          rcases ho.2 with ⟨he, _⟩ | ⟨g, cap, cur, he, _, hg, _⟩
          · rw [he] at hown
            have hj2 : some j = (none : Option Nat) := hown
            cases hj2
          · rw [he] at hown
            have hj2 : some j = some g := hown
            cases hj2
            rw [hg] at h1
            cases h1⟩
        have HXF : Sid (Ext No w2 (w5.setCell ⟨w2.heap.size, 1, none⟩ (.slice A5 (XS.length + 1) c5))) := ⟨((HX.out.trans HXN.out).step HX5.out (fun i hi hh => by have := HNE.out i hh; omega)).step HX6.out (fun i hi hh => by omega)⟩
        refine ⟨⟨k + 1, (wr.heap.size + 2) :: bs, .slice A5 (XS.length + 1) c5, _, _, _, _, _, _, _, _, _, _, _, _, _, _, _, _, _, _, _, _, _, rfl, by omega, HN2, HBF, ?_, ?_, ?_, ?_, HXF⟩, ?_⟩
        · rw [World.cell?_setCell_other _ _ _ _ (by simp)]; exact hr0
        · exact World.cell?_setCell_same' _ _ _ (by rw [hr1]; rfl)
        · simp [hrf]
        · rw [HTK.out]
          have h := HOF.out
          rw [HXS.out] at h
          exact ⟨by rw [HXS.out]; exact h⟩
        · simp [intOf]; omega
      case stop =>
        intro pre post W _ h
        exact h.elim
    · obtain rfl : k = es.length := by omega
      obtain ⟨hz0, hz1, hz2, hz3⟩ := HRB.out _ HX.out
      have HHL : Sid (w.heap.size + 1 < w2.heap.size) := ⟨by have := HX2.out.size; simp at this; omega⟩
      have HOE : Sid (OwnRows (fun j => w2.heap.size + 1 ≤ j) (w2.heap.size + 1) wr (.slice Av es.length cv) (es.map fun e => membersL (ofTo e))) := ⟨by
        have h := HO.out
        rw [List.take_length, List.length_map] at h
        exact h⟩
      gi_wp2
      obtain ⟨W9, hW9⟩ : ∃ W9, W9 = (wr.setCell ⟨w.heap.size + 1, 0, none⟩ (.int .i64 many)).setCell ⟨w.heap.size + 1, 1, none⟩ (.slice Av es.length cv) := ⟨_, rfl⟩
      have hx9 : Ext (fun j => j = w.heap.size + 1) wr W9 := by
        rw [hW9]
        exact ((Ext.refl (fun j => j = w.heap.size + 1) wr).setCell (p := ⟨w.heap.size + 1, 0, none⟩) (Or.inl rfl) _).setCell (p := ⟨w.heap.size + 1, 1, none⟩) (Or.inl rfl) _
      have hl0 : W9.cell? ⟨w.heap.size + 1, 0, none⟩ = some (.int .i64 many) := by
        rw [hW9, World.cell?_setCell_other _ _ _ _ (by simp)]
        exact World.cell?_setCell_same' _ _ _ (by rw [hz0]; rfl)
      have hl1 : W9.cell? ⟨w.heap.size + 1, 1, none⟩ = some (.slice Av es.length cv) := by
        rw [hW9]
        exact World.cell?_setCell_same' _ _ _ (by rw [World.cell?_setCell_other _ _ _ _ (by simp), hz1]; rfl)
      have hx9w : Ext No w W9 := (HXW.out.trans HX.out).step hx9 (fun i hi hh => by omega)
      rw [← hW9]
      clear hW9
      refine leaves_marks bs _ HN.out (fun j hj => ?_) (fun w' hw' => ?_)
      · obtain ⟨h1, h2⟩ := HBS.out j hj
        exact (hx9.block j (Array.getElem?_eq_some_iff.1 h1).1 (by have := HHL.out; omega)).trans h1
      · have hno : ∀ j, j ∈ bs → w2.heap.size + 1 ≤ j := fun j hj => (HBS.out j hj).2
        have hm0 := hw'.cell (p := ⟨w.heap.size + 1, 0, none⟩) (fun hj => by have := hno _ hj; have := HHL.out; simp at *; omega) hl0
        have hm1 := hw'.cell (p := ⟨w.heap.size + 1, 1, none⟩) (fun hj => by have := hno _ hj; have := HHL.out; simp at *; omega) hl1
        refine ⟨.tuple #[.agg #[.int .i64 many, .slice Av es.length cv], .int .i64 0], by simp [results, Tryd.results29, go_sem, hm0, hm1], .slice Av es.length cv, rfl, ?_, hx9w.step hw' (fun i hi hh => by have := hno _ hh; have := HHL.out; omega)⟩
        have hr0 := (HOE.out.rows (P' := fun j => w2.heap.size + 1 ≤ j) (by simp; omega) (fun j hj => (HOE.out.ge j hj).1) (fun j hj => hj)).real
        have hr1 := hr0.ext hx9 (fun j hj hh => by have := hj.1; have := HHL.out; omega)
        have hr2 := hr1.ext hw' (fun j hj hh => hj.2 _ (HBS.out j hh).1)
        exact hr2.imp (fun j _ hj => by have := hj.1; have := HHL.out; omega)
end Go.Proofs.YtceiaekkfabeaaaDoor
