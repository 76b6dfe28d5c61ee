/- Words and contracts for: DecompAcyclic: for every hypergraph the law answers true, and its arguments read as before. No condition; the library's table math/bits.deBruijn64tab is laid by its text. -/
import Derived.Defers
import Derived.Recover
import Derived.ScopeJumps
import Derived.Carry
import Derived.Shelf.Spec.TrailingZeros
import Derived.RangeFuncNested
import Derived.RangeFuncBound
import Derived.RangeFuncCalls
import Derived.RangeFuncLeaves
import Derived.Shelf.Abstract
import Derived.Shelf.RegionOpen
import Derived.OwnWalkIn
import Derived.TacticsInMore
import Derived.LoopNIn
import Derived.LoopIn
import Derived.Test.YtceiaekkfabeaaaDoorZyb
namespace Go.Proofs.YtceiaekkfabeaaaDoor
open Go.RowKit Pl

/-- The fewest edges that have a set, the first ones. -/
def covO (S : List Nat) (want : Nat) : Option (List Int) := (List.range (S.length + 1)).findSome? fun m => triesF S m want 0
theorem zero28 (w : World) : (zeroValue 28).run Tryd.prog w = .ok (.slice none 0 0) w := by kernel_rfl

/-- What is known of covers. -/
def KnownR (P : Nat → Prop) (w : World) (M : Nat) (S : List Nat) : Prop :=
  ∃ f, MapF .u64 f w M ∧ ∀ x v, f x = some v → ∃ (want : Nat) (r : List Int), x = (want : Int) ∧ covO S want = some r ∧ IntsR .i64 P w v r

theorem idle_any (p q r : Addr) (w : World) :
    CallsD Tryd.prog 69 #[.pointer (some p), .pointer (some q), .pointer (some r)] .returning w fun e u' w' => e = .returned (.tuple #[]) ∧ u' = .returning ∧ w' = w := by
  refine callsD_of_wpS Tryd.func69 rfl fun c₀ cs hu => ?_
  apply wpS_seq
  apply wpS_region
  simp [wpOpsS, go_sem, recoverD, hu, Tryd.ntmps69, Exit.thenS]
  apply wpS_seq
  apply wpS_region
  simp [wpOpsS, go_sem, Exit.thenS]
  refine wpS_cond (t := false) (by simp [Act.eval, Array.replicate]) ?_
  simp only [Bool.false_eq_true, if_false]
  refine wpS_of_wp (wp_skip ?_)
  cases c₀
  simp_all [bodyPostS, results, Tryd.results69]

theorem found_is (v : Value) (w : World) : (Instr.typeAssert (.iface 103 v) 20 103 true).run Tryd.prog w = .ok (.tuple #[v, .bool true]) w := by
  simp [Instr.typeAssert, run_underlying Tryd.underlying103]

theorem KnownR.put {P : Nat → Prop} {w : World} {M : Nat} {S : List Nat} (h : KnownR P w M S) {want : Nat} {r : List Int} {v : Value} (hc : covO S want = some r) (hr : IntsR .i64 P w v r) (hM : ¬ P M) :
    ∃ w', (Instr.mapUpdate 99 (.map (some M)) (.int .u64 (want : Int)) v).run Tryd.prog w = .ok () w' ∧ KnownR P w' M S ∧ Ext (· = M) w w' := by
  obtain ⟨f, hf, hv⟩ := h
  obtain ⟨w', h1, h2, h3, _⟩ := hf.update Tryd.underlying99 Tryd.underlying65 (want : Int) v
  have hP : ∀ k, P k → ¬ (k = M) := fun k hk hh => hM (hh ▸ hk)
  refine ⟨w', h1, ⟨_, h2, fun x u hx => ?_⟩, h3⟩
  by_cases hxw : x = (want : Int)
  · simp only [upd, hxw, if_true, Option.some.injEq] at hx
    subst hx
    exact ⟨want, r, hxw, hc, hr.ext h3 hP⟩
  · simp only [upd, hxw, if_false] at hx
    obtain ⟨wn, r', e1, e2, e3⟩ := hv x u hx
    exact ⟨wn, r', e1, e2, e3.ext h3 hP⟩
theorem KnownR.ext {P X : Nat → Prop} {w w' : World} {M : Nat} {S : List Nat} (h : KnownR P w M S) (hx : Ext X w w') (hM : ¬ X M) (hP : ∀ k, P k → ¬ X k) : KnownR P w' M S := by
  obtain ⟨f, hf, hv⟩ := h
  refine ⟨f, hf.ext hx hM, fun x u hu => ?_⟩
  obtain ⟨wn, r', e1, e2, e3⟩ := hv x u hu
  exact ⟨wn, r', e1, e2, e3.ext hx hP⟩
theorem KnownR.no {P : Nat → Prop} {w w' : World} {M : Nat} {S : List Nat} (h : KnownR P w M S) (hx : Ext No w w') : KnownR P w' M S := h.ext hx (fun h => h) (fun _ _ h => h)
theorem KnownR.imp {P P' : Nat → Prop} {w : World} {M : Nat} {S : List Nat} (h : KnownR P w M S) (hP : ∀ k, k < w.heap.size → P k → P' k) : KnownR P' w M S := by
  obtain ⟨f, hf, hv⟩ := h
  refine ⟨f, hf, fun x u hu => ?_⟩
  obtain ⟨wn, r', e1, e2, e3⟩ := hv x u hu
  exact ⟨wn, r', e1, e2, e3.imp hP⟩

set_option maxRecDepth 10000 in
set_option maxHeartbeats 2000000 in
theorem catch_any {P : Nat → Prop} (p q r B M : Nat) (A : Option Addr) (n c : Nat) (w : World) (u : Value) (S : List Nat) (want : Nat) (rr : List Int)
    (hp : w.cell? ⟨p, 0, none⟩ = some u) (hpf : w.frozen? ⟨p, 0, none⟩ = false) (hq : w.cell? ⟨q, 0, none⟩ = some (.pointer (some ⟨B, 0, none⟩))) (hr : w.cell? ⟨r, 0, none⟩ = some (.int .u64 (want : Int)))
    (hk : w.cell? ⟨B, 3, none⟩ = some (.map (some M))) (hK : KnownR P w M S) (hc : covO S want = some rr) (hI : IntsR .i64 P w (.slice A n c) rr) (hPp : ¬ P p) (hPM : ¬ P M) (hpM : M ≠ p) (hqp : q ≠ p) (hrp : r ≠ p) (hBp : B ≠ p) :
    CallsD Tryd.prog 69 #[.pointer (some ⟨p, 0, none⟩), .pointer (some ⟨q, 0, none⟩), .pointer (some ⟨r, 0, none⟩)] (.panicking (foundP (.slice A n c))) w fun e u' w' => e = .returned (.tuple #[]) ∧ u' = .panicking [{ v := .iface 103 (.agg #[.slice A n c]), recovered := true }] ∧
      w'.cell? ⟨p, 0, none⟩ = some (.slice A n c) ∧ KnownR P w' M S ∧ Ext (fun k => k = p ∨ k = M) w w' ∧ IntsR .i64 P w' (.slice A n c) rr := by
  have hta := found_is (.agg #[.slice A n c])
  have hx1 : Ext (fun x => x = p) w (((w.setCell ⟨p, 0, none⟩ (.slice A n c)).alloc (.cells #[.slice A n c] 103)).drew) := ((((Ext.refl (fun x => x = p) w).setCell (p := ⟨p, 0, none⟩) (Or.inl rfl) _).alloc _).drew)
  have hPx : ∀ k, P k → ¬ (k = p) := fun k hk hh => hPp (hh ▸ hk)
  obtain ⟨w2, hrun, hK2, hx2⟩ := (hK.ext hx1 hpM hPx).put hc (hI.ext hx1 hPx) hPM
  have hpo : ∀ o, (w.alloc o).cell? ⟨p, 0, none⟩ = some u := fun o => (ext_box o).no hp
  have hqo : ∀ o, (w.alloc o).cell? ⟨q, 0, none⟩ = some (.pointer (some ⟨B, 0, none⟩)) := fun o => (ext_box o).no hq
  have hro : ∀ o, (w.alloc o).cell? ⟨r, 0, none⟩ = some (.int .u64 (want : Int)) := fun o => (ext_box o).no hr
  have hko : ∀ o, (w.alloc o).cell? ⟨B, 3, none⟩ = some (.map (some M)) := fun o => (ext_box o).no hk
  have hp2 : ∀ o, ((w.setCell ⟨p, 0, none⟩ (.slice A n c)).alloc o).cell? ⟨p, 0, none⟩ = some (.slice A n c) := fun o => (ext_box o).no (by simp [go_sem, hp])
  have hx0 : ∀ o, Ext (fun x => x = p) w ((w.setCell ⟨p, 0, none⟩ (.slice A n c)).alloc o) := fun o => (((Ext.refl (fun x => x = p) w).setCell (p := ⟨p, 0, none⟩) (Or.inl rfl) _).alloc _)
  have hq2 : ∀ o, ((w.setCell ⟨p, 0, none⟩ (.slice A n c)).alloc o).cell? ⟨q, 0, none⟩ = some (.pointer (some ⟨B, 0, none⟩)) := fun o => (hx0 o).cell hqp hq
  have hr2 : ∀ o, ((w.setCell ⟨p, 0, none⟩ (.slice A n c)).alloc o).cell? ⟨r, 0, none⟩ = some (.int .u64 (want : Int)) := fun o => (hx0 o).cell hrp hr
  have hk2 : ∀ o, ((w.setCell ⟨p, 0, none⟩ (.slice A n c)).alloc o).cell? ⟨B, 3, none⟩ = some (.map (some M)) := fun o => (hx0 o).cell hBp hk
  have hpl : p < w.heap.size := World.block_lt_of_cell? w _ hp
  have hfo : ∀ o, (w.alloc o).frozen? ⟨p, 0, none⟩ = false := fun o => ((ext_box (w := w) o).frozen (p := ⟨p, 0, none⟩) (fun h => h) hpl).trans hpf
  have HK2 := Sid.mk hK2
  have HX0 := Sid.mk hx0
  clear hx0
  have HX2 := Sid.mk hx2
  have HX1 := Sid.mk hx1
  have HI := Sid.mk hI
  clear hK2 hx2 hx1 hI hK
  refine callsD_of_wpS Tryd.func69 rfl fun c₀ cs hu => ?_
  apply wpS_seq
  apply wpS_region
  simp [wpOpsS, go_sem, recoverD, hu, foundP, Tryd.ntmps69, Exit.thenS]
  apply wpS_seq
  apply wpS_region
  simp [wpOpsS, go_sem, Exit.thenS]
  refine wpS_cond (t := true) (by simp [Act.eval, Array.replicate]) ?_
  simp only [if_true]
  refine wpS_of_wp ?_
  generalize ht : Act.mk _ _ = act
  have ha : act = { tmps := #[.pointer (some ⟨p, 0, none⟩), .pointer (some ⟨q, 0, none⟩), .pointer (some ⟨r, 0, none⟩), .iface 103 (.agg #[.slice A n c]), undef, undef, .iface 103 (.agg #[.slice A n c]), .iface 103 (.agg #[.slice A n c]), .bool true, undef, undef, undef, undef, undef, undef, undef, undef, undef, undef, undef, undef, undef, undef, undef, undef], defers := [] } := by rw [← ht]; kernel_rfl
  clear ht
  subst ha
  go_wp2
  go_region_law fail
  all_goals exact ⟨rfl, _, rfl, _, results_none rfl _ _ _, rfl, rfl, HX2.out.cell (p := ⟨p, 0, none⟩) (fun h => hpM h.symm) (hp2 _), HK2.out, (HX1.out.mono (fun _ h => Or.inl h)).trans (HX2.out.mono (fun _ h => Or.inr h)), (HI.out.ext HX1.out hPx).ext HX2.out (fun k hk hh => hPM (hh ▸ hk))⟩
end Go.Proofs.YtceiaekkfabeaaaDoor

namespace Go.Proofs.YtceiaekkfabeaaaDoor
open Go.RowKit Pl

theorem ints_nil (k : IntKind) (P : Nat → Prop) (w : World) : IntsR k P w (.slice none 0 0) [] := ⟨none, 0, rfl, ⟨Nat.le_refl _, fun _ => rfl⟩, by simp, by simp⟩
theorem ext_box3 {w : World} (a b c : Obj) : Ext No w (((w.alloc a).alloc b).alloc c) := (((Ext.refl _ w).alloc a).alloc b).alloc c

theorem findSome_range_least {α : Type} {f : Nat → Option α} {r : α} : ∀ n, (List.range n).findSome? f = some r → ∃ m, m < n ∧ f m = some r ∧ ∀ j, j < m → f j = none := by
  intro n
  induction n with
  | zero => simp
  | succ n ih =>
    intro h
    rw [List.range_succ, List.findSome?_append] at h
    cases hr : (List.range n).findSome? f with
    | some r' =>
      rw [hr] at h
      obtain ⟨m, h1, h2, h3⟩ := ih (by rw [hr]; simpa using h)
      exact ⟨m, by omega, h2, h3⟩
    | none =>
      rw [hr] at h
      refine ⟨n, by omega, by simpa using h, fun j hj => ?_⟩
      rw [List.findSome?_eq_none_iff] at hr
      exact hr j (List.mem_range.2 hj)
theorem covO_least {S : List Nat} {want : Nat} {rr : List Int} (h : covO S want = some rr) : ∃ m, triesF S m want 0 = some rr ∧ (∀ j, j < m → triesF S j want 0 = none) ∧ m ≤ S.length := by
  obtain ⟨m, h1, h2, h3⟩ := findSome_range_least _ h
  exact ⟨m, h2, h3, by omega⟩

/-- The cover that was found is laid down. -/
theorem cover_found {P : Nat → Prop} {B M : Nat} {hm : Int} {es : List (List Int)} {S : List Nat} {want : Nat} {rr : List Int} {w w1 w2 : World} {v' : Value} {tmps : Array Value}
    (hS : SearchR P w B M hm es S) (hK : KnownR P w M S) (hc : covO S want = some rr) (hP : ∀ k, w.heap.size ≤ k → P k) (hPM : ¬ P M)
    (hx : Ext No (((w.alloc (.cells #[.pointer (some ⟨B, 0, none⟩)] 62)).alloc (.cells #[.int .u64 (want : Int)] 65)).alloc (.cells #[.slice none 0 0] 28)) w1) (hx2 : Ext No w1 w2) (hv : IntsR .i64 (fun k => w1.heap.size ≤ k) w2 v' rr)
    (hres : ∀ W v, W.cell? ⟨w.heap.size + 1 + 1, 0, none⟩ = some v → (results Tryd.f36 tmps).run Tryd.prog W = .ok v W) :
    Leaves Tryd.prog Tryd.f36 tmps (fun e w' => ∃ v', e = .returned v' ∧ IntsR .i64 P w' v' rr ∧ Ext (fun k => k = M) w w' ∧ KnownR P w' M S)
      [{ target := .fn (.func 69) #[.pointer (some ⟨w.heap.size + 1 + 1, 0, none⟩), .pointer (some ⟨w.heap.size, 0, none⟩), .pointer (some ⟨w.heap.size + 1, 0, none⟩)], args := #[] }] (.panicking (foundP v')) w2 := by
  have hxw : Ext No (((w.alloc (.cells #[.pointer (some ⟨B, 0, none⟩)] 62)).alloc (.cells #[.int .u64 (want : Int)] 65)).alloc (.cells #[.slice none 0 0] 28)) w2 := hx.trans hx2
  have hxa : Ext No w w2 := (ext_box3 _ _ _).trans hxw
  have hs1 : w.heap.size + 3 ≤ w1.heap.size := by have := hx.size; simpa using this
  obtain ⟨A, c, rfl, _⟩ := hv.at
  have hM : M < w.heap.size := by obtain ⟨f, hf, _⟩ := hK; exact hf.lt
  have hB : B < w.heap.size := World.block_lt_of_cell? w _ hS.known
  have hp : w2.cell? ⟨w.heap.size + 1 + 1, 0, none⟩ = some (.slice none 0 0) := hxw.no (by simp [go_sem])
  have hpf : w2.frozen? ⟨w.heap.size + 1 + 1, 0, none⟩ = false := (hxw.frozen (p := ⟨w.heap.size + 1 + 1, 0, none⟩) (fun h => h) (by simp)).trans (by simp [go_sem])
  have hq : w2.cell? ⟨w.heap.size, 0, none⟩ = some (.pointer (some ⟨B, 0, none⟩)) := hxw.no (by simp [go_sem])
  have hr : w2.cell? ⟨w.heap.size + 1, 0, none⟩ = some (.int .u64 (want : Int)) := hxw.no (by simp [go_sem])
  refine leaves_cons (f := 69) (args := #[.pointer (some ⟨w.heap.size + 1 + 1, 0, none⟩), .pointer (some ⟨w.heap.size, 0, none⟩), .pointer (some ⟨w.heap.size + 1, 0, none⟩)]) (by simp) (by simp [go_sem]) ?_
  refine (catch_any (P := fun k => P k ∧ k ≠ w.heap.size + 1 + 1) (w.heap.size + 1 + 1) w.heap.size (w.heap.size + 1) B M A rr.length c w2 _ S want rr hp hpf hq hr (hxa.no hS.known) ((hK.imp (fun k hk h => ⟨h, by omega⟩)).no hxa) hc
    (hv.imp (fun k _ h => ⟨hP k (by omega), by omega⟩)) (fun h => h.2 rfl) (fun h => hPM h.1) (by omega) (by omega) (by omega) (by omega)).mono ?_
  rintro e u' w3 ⟨rfl, rfl, h1, h2, h3, h4⟩
  simp only [Leaves, settle]
  refine ⟨_, hres _ _ h1, _, rfl, h4.imp (fun k _ h => h.1), (hxa.mono (fun _ h => h.elim)).step h3 (fun i hi hh => ?_), h2.imp (fun k _ h => h.1)⟩
  rcases hh with rfl | rfl
  · omega
  · rfl

set_option maxHeartbeats 4000000 in
set_option maxRecDepth 100000 in
theorem cover_any {P : Nat → Prop} (B M : Nat) (hm : Int) (es : List (List Int)) (S : List Nat) (hS : smallS S) (hSl : S.length ≤ 1000) (want : Nat) (rr : List Int) (w : World)
    (h : SearchR P w B M hm es S) (hK : KnownR P w M S) (hc : covO S want = some rr) (hw : want < 4294967296) (hP : ∀ k, w.heap.size ≤ k → P k) (hPM : ¬ P M) :
    Calls Tryd.prog 36 #[.pointer (some ⟨B, 0, none⟩), .int .u64 (want : Int)] w fun e w' => ∃ v', e = .returned v' ∧ IntsR .i64 P w' v' rr ∧ Ext (fun k => k = M) w w' ∧ KnownR P w' M S := by
  have hk := h.known
  obtain ⟨f, hf, hv⟩ := hK
  have hrun : ∀ W, MapF .u64 f W M → (Instr.lookup 99 (.map (some M)) (.int .u64 (want : Int)) true).run Tryd.prog W = .ok (.tuple #[(f want).getD (.slice none 0 0), .bool (f want).isSome]) W := fun W hW => by
    have := hW.look Tryd.underlying99 Tryd.underlying65 (zero28 W) (want : Int) true
    simpa using this
  have hrun1 := hrun _ (hf.ext (ext_box3 (w := w) (.cells #[.pointer (some ⟨B, 0, none⟩)] 62) (.cells #[.int .u64 (want : Int)] 65) (.cells #[.slice none 0 0] 28)).drew (fun h => h))
  cases hfw : f want with
  | some v =>
    rw [hfw] at hrun1
    simp only [Option.getD_some, Option.isSome_some] at hrun1
    obtain ⟨wn, r, e1, e2, e3⟩ := hv _ _ hfw
    obtain rfl : want = wn := by omega
    rw [hc] at e2
    obtain rfl : rr = r := Option.some.inj e2
    obtain ⟨A, c, rfl, _⟩ := e3.at
    have HE := Sid.mk e3
    have HK : Sid (KnownR P w M S) := ⟨⟨f, hf, hv⟩⟩
    have hk3 : ∀ a b c, (((w.alloc a).alloc b).alloc c).cell? ⟨B, 3, none⟩ = some (.map (some M)) := fun a b c => (ext_box3 a b c).no hk
    clear h hv hf hfw e2 e3 e1
    clear hrun
    go_enter_defers Tryd.func36, Tryd.ntmps36
    go_wp2
    go_step3
    go_wp2
    first | (go_region_law fail) | fail
    all_goals go_wp2
    all_goals rw [Exit.noGoto_ret]
    all_goals exact ⟨_, by simp [results, Tryd.results36, go_sem], _, rfl, HE.out.no (ext_box3 _ _ _).drew, ((ext_box3 _ _ _).drew).mono (fun _ h => h.elim), HK.out.no (ext_box3 _ _ _).drew⟩
  | none =>
    rw [hfw] at hrun1
    simp only [Option.getD_none, Option.isSome_none] at hrun1
    obtain ⟨m0, h0, h1, h2⟩ := covO_least hc
    have HH := Sid.mk h
    have HK : Sid (KnownR P w M S) := ⟨⟨f, hf, hv⟩⟩
    have H0 := Sid.mk h0
    have H1 := Sid.mk h1
    have hk3 : ∀ a b c, (((w.alloc a).alloc b).alloc c).cell? ⟨B, 3, none⟩ = some (.map (some M)) := fun a b c => (ext_box3 a b c).no hk
    clear h hv hf hfw h0 h1
    clear hrun
    go_enter_defers Tryd.func36, Tryd.ntmps36
    go_wp2
    refine wp_scope_jumps 0 (fun a' w' => ∃ (m : Nat) (u5 u6 u8 u9 u10 u11 u12 u13 u14 u15 u16 u17 u18 u19 u20 u21 u22 u23 u24 u25 : Value), a' = { tmps := #[.pointer (some ⟨B, 0, none⟩), .int .u64 (want : Int), .pointer (some ⟨w.heap.size, 0, none⟩), .pointer (some ⟨w.heap.size + 1, 0, none⟩), .pointer (some ⟨w.heap.size + 1 + 1, 0, none⟩), u5, u6, .int .i64 (m : Int), u8, u9, u10, u11, u12, u13, u14, u15, u16, u17, u18, u19, u20, u21, u22, u23, u24, u25], defers := [{ target := .fn (.func 69) #[.pointer (some ⟨w.heap.size + 1 + 1, 0, none⟩), .pointer (some ⟨w.heap.size, 0, none⟩), .pointer (some ⟨w.heap.size + 1, 0, none⟩)], args := #[] }] } ∧ m ≤ m0 ∧ Sid (Ext No (((w.alloc (.cells #[.pointer (some ⟨B, 0, none⟩)] 62)).alloc (.cells #[.int .u64 (want : Int)] 65)).alloc (.cells #[.slice none 0 0] 28)) w')) (fun a' _ => m0 + 1 - (intOf (a'.tmps.getD 7 undef)).toNat) rfl ?_ ?_
    · go_wp2
      first | (go_region_law fail) | fail
      all_goals go_wp2
      all_goals go_step3
      all_goals (by_cases hlt : 0 < m0)
      all_goals go_wp2_with (go_at_call 70; refine (tries_any B M hm es S hS hSl 0 want 0 _ _ _ _ [] _ (HH.out.no (ext_box3 _ _ _).drew) (ints_nil _ _ _) hw (by omega) rfl rfl rfl (by omega) (by simp)).mono ?_; rintro e1 w2 ⟨hx2, hr2⟩; first | (rw [H1.out 0 hlt] at hr2; subst hr2; have HX2 := Sid.mk hx2; clear hx2) | (obtain rfl : 0 = m0 := (by omega); rw [H0.out] at hr2; obtain ⟨v', rfl, hv'⟩ := hr2; have HX2 := Sid.mk hx2; have HV := Sid.mk hv'; clear hx2 hv'))
      all_goals first
        | (go_step3; exact ⟨rfl, 1, _, _, _, _, _, _, _, _, _, _, _, _, _, _, _, _, _, _, _, _, rfl, by omega, ⟨((Ext.refl _ _).drew).trans HX2.out⟩⟩)
        | exact cover_found HH.out HK.out hc hP hPM (Ext.refl _ _).drew HX2.out HV.out (fun W v h => by simp [results, Tryd.results36, go_sem, h])
    · rintro a' w' ⟨m, u5, u6, u8, u9, u10, u11, u12, u13, u14, u15, u16, u17, u18, u19, u20, u21, u22, u23, u24, u25, rfl, hmm, HX⟩
      have hq1 : w'.cell? ⟨w.heap.size, 0, none⟩ = some (.pointer (some ⟨B, 0, none⟩)) := HX.out.no (by simp [go_sem])
      have hr1 : w'.cell? ⟨w.heap.size + 1, 0, none⟩ = some (.int .u64 (want : Int)) := HX.out.no (by simp [go_sem])
      have HS' : Sid (SearchR P w' B M hm es S) := ⟨HH.out.no ((ext_box3 _ _ _).trans HX.out)⟩
      by_cases hlt : m < m0
      · go_wp2_with (go_at_call 70; refine (tries_any B M hm es S hS hSl m want 0 _ _ _ _ [] _ HS'.out (ints_nil _ _ _) hw (by omega) rfl rfl rfl (by omega) (by simp; omega)).mono ?_; rintro e1 w2 ⟨hx2, hr2⟩; rw [H1.out m hlt] at hr2; subst hr2; have HX2 := Sid.mk hx2; clear hx2)
        go_step3
        rw [show (m : Int) + 1 = ((m + 1 : Nat) : Int) from by omega]
        exact ⟨rfl, ⟨m + 1, _, _, _, _, _, _, _, _, _, _, _, _, _, _, _, _, _, _, _, _, rfl, by omega, ⟨HX.out.trans HX2.out⟩⟩, by simp [intOf]; omega⟩
      · obtain rfl : m = m0 := by omega
        go_wp2_with (go_at_call 70; refine (tries_any B M hm es S hS hSl m want 0 _ _ _ _ [] _ HS'.out (ints_nil _ _ _) hw (by omega) rfl rfl rfl (by omega) (by simp; omega)).mono ?_; rintro e1 w2 ⟨hx2, hr2⟩; rw [H0.out] at hr2; obtain ⟨v', rfl, hv'⟩ := hr2; have HX2 := Sid.mk hx2; have HV := Sid.mk hv'; clear hx2 hv')
        exact cover_found HH.out HK.out hc hP hPM HX.out HX2.out HV.out (fun W v h => by simp [results, Tryd.results36, go_sem, h])
end Go.Proofs.YtceiaekkfabeaaaDoor

namespace Go.Proofs.YtceiaekkfabeaaaDoor
open Go.RowKit Pl

/-- Blocks that a search reads: those of P, and newer ones; not its map. -/
def SP (P : Nat → Prop) (n M : Nat) : Nat → Prop := fun k => k ≠ M ∧ (n ≤ k ∨ P k)

def smallE (es : List (List Int)) : Prop := ∀ r ∈ es, smallL r

theorem search_mk {P : Nat → Prop} {w wz : World} {many : Int} {es : List (List Int)} {A A1 : Option Addr} {c n1 c1 M B : Nat} (hB : B = wz.heap.size) (hx : Ext No w wz) (he : RowsR P w (.slice A es.length c) es)
    (hi : IntsR .u64 (fun k => w.heap.size ≤ k ∧ k ≠ M) wz (.slice A1 n1 c1) (natsI (es.map ofTo))) (hm : MapF .u64 (fun _ => none) wz M) (hM : w.heap.size ≤ M) :
    SearchR (SP P w.heap.size M) (wz.alloc (.cells #[.int .i64 many, .slice A es.length c, .slice A1 n1 c1, .map (some M)] 101)) B M many es (es.map ofTo) ∧
    KnownR (SP P w.heap.size M) (wz.alloc (.cells #[.int .i64 many, .slice A es.length c, .slice A1 n1 c1, .map (some M)] 101)) M (es.map ofTo) ∧ w.heap.size ≤ B ∧ w.heap.size ≤ M ∧
    Ext No w (wz.alloc (.cells #[.int .i64 many, .slice A es.length c, .slice A1 n1 c1, .map (some M)] 101)) := by
  subst hB
  have hs := hx.size
  have hml := hm.lt
  have he' := (he.imp (P' := SP P w.heap.size M) (fun k hk h => ⟨by omega, Or.inr h⟩)).no (hx.alloc (.cells #[.int .i64 many, .slice A es.length c, .slice A1 n1 c1, .map (some M)] 101))
  have hi' := (hi.imp (P' := SP P w.heap.size M) (fun k hk h => ⟨h.2, Or.inl h.1⟩)).no (ext_box (.cells #[.int .i64 many, .slice A es.length c, .slice A1 n1 c1, .map (some M)] 101))
  obtain ⟨A', c', e1, _⟩ := hi.at
  simp only [Value.slice.injEq] at e1
  obtain ⟨rfl, rfl, rfl⟩ := e1
  simp only [natsI_len] at hi' he' ⊢
  exact ⟨⟨⟨by omega, Or.inl hs⟩, by simp, ⟨.slice A es.length c, by simp, he'⟩, ⟨A1, c1, by simp, hi'⟩, by simp⟩, ⟨_, hm.ext (ext_box _) (fun h => h), by simp⟩, hs, hM, hx.alloc _⟩

set_option maxHeartbeats 4000000 in
theorem searching_any {P : Nat → Prop} (many : Int) (ev : Value) (es : List (List Int)) (w : World) (he : RowsR P w ev es) (hs : smallE es) (hl : es.length ≤ 1000) :
    Calls Tryd.prog 33 #[.agg #[.int .i64 many, ev]] w fun e w' => ∃ B M, e = .returned (.pointer (some ⟨B, 0, none⟩)) ∧ SearchR (SP P w.heap.size M) w' B M many es (es.map ofTo) ∧ KnownR (SP P w.heap.size M) w' M (es.map ofTo) ∧ w.heap.size ≤ B ∧ w.heap.size ≤ M ∧ Ext No w w' := by
  obtain ⟨A, c, rfl, _⟩ := he.at
  have HE := Sid.mk he
  have HS := Sid.mk hs
  clear he hs
  have hmm := fun w => run_makeMap (P := Tryd.prog) 99 w
  go_enter Tryd.func33, Tryd.ntmps33
  go_wp2_with fail
  go_region_law (go_simp; go_at_call 49; refine (madeOf_any _ es _ (HE.out.no (by first | exact (ext_box _).drew | exact ((ext_box _).drew).alloc _)) HS.out (by omega)).mono ?_; rintro e1 w1 ⟨v1, rfl, hr1, hx1⟩; obtain ⟨A1, c1, rfl, _⟩ := hr1.at; have HR1 := Sid.mk hr1; have HX1 := Sid.mk hx1; have hb0 := hx1.no (p := ⟨w.heap.size, 0, none⟩) (v := .int .i64 many) (by simp [go_sem]); have hb1 := hx1.no (p := ⟨w.heap.size, 1, none⟩) (v := .slice A es.length c) (by simp [go_sem]); have hb2 := fun o => (ext_box (w := w1) o).no hb0; have hb3 := fun o => (ext_box (w := w1) o).no hb1; clear hr1 hx1)
  all_goals go_wp2
  all_goals go_ret
  all_goals first
    | exact ⟨_, _, rfl, search_mk (wz := w1.alloc (.map #[] 0)) (M := w1.heap.size) (by simp) (((ext_box _).drew.trans HX1.out).alloc _) HE.out ((HR1.out.imp (fun k hk h => ⟨by simp at h; omega, by omega⟩)).no (ext_box _)) (MapF.made _ _) (by have := HX1.out.size; simp at this; omega)⟩
    | exact ⟨_, _, rfl, search_mk (wz := w1) (M := w.heap.size + 1) rfl ((((ext_box _).drew).alloc _).trans HX1.out) HE.out (HR1.out.imp (fun k hk h => ⟨by simp at h; omega, by simp at h; omega⟩)) ((by simpa using (MapF.made .u64 (w.alloc (.cells #[.int .i64 many, .slice A es.length c] 24))).ext ((Ext.refl No _).drew) (fun h => h) : MapF .u64 (fun _ => none) _ (w.heap.size + 1)).ext HX1.out (fun h => h)) (by omega)⟩
end Go.Proofs.YtceiaekkfabeaaaDoor

/- Plain facts about sets, and the fewest edges. -/
namespace Go.Proofs.YtceiaekkfabeaaaDoor
open Go.RowKit Pl

theorem sdn_zero {a b : Nat} : sdn a b = 0 ↔ ∀ i, a.testBit i = true → b.testBit i = true := by
  constructor
  · intro h i hi
    have := sdn_testBit a b i
    rw [h, hi] at this
    simpa using this
  · intro h
    apply Nat.eq_of_testBit_eq
    intro i
    rw [sdn_testBit, Nat.zero_testBit]
    cases ha : a.testBit i with
    | false => rfl
    | true => rw [h i ha]; rfl
theorem foldl_or_testBit : ∀ (S : List Nat) (s i : Nat), (S.foldl (· ||| ·) s).testBit i = (s.testBit i || S.any (·.testBit i))
  | [], s, i => by simp
  | x :: S, s, i => by rw [List.foldl_cons, foldl_or_testBit S]; simp [Nat.testBit_or, Bool.or_assoc]
theorem orTo_testBit (S : List Nat) (i : Nat) : (orTo S).testBit i = S.any (·.testBit i) := by
  rw [orTo, foldl_or_testBit]; simp
theorem foldl_pow_testBit : ∀ (l : List Int) (s i : Nat), (l.foldl (fun s (v : Int) => s ||| 2 ^ v.toNat) s).testBit i = (s.testBit i || l.any (fun v => v.toNat == i))
  | [], s, i => by simp
  | x :: l, s, i => by
    rw [List.foldl_cons, foldl_pow_testBit l, Nat.testBit_or, Nat.testBit_two_pow, List.any_cons, Bool.or_assoc]
    rfl
theorem tries_all {S : List Nat} : ∀ (n lo want : Nat), S.length = lo + n → (∀ i, want.testBit i = true → ∃ j s, lo ≤ j ∧ S[j]? = some s ∧ s.testBit i = true) → triesF S n want lo ≠ none
  | 0, lo, want, hn, h => by
    have : want = 0 := by
      apply Nat.eq_of_testBit_eq
      intro i
      rw [Nat.zero_testBit, Bool.eq_false_iff]
      intro hi
      obtain ⟨j, s, h1, h2, _⟩ := h i hi
      have := (List.getElem?_eq_some_iff.1 h2).1
      omega
    simp [triesF, this]
  | n + 1, lo, want, hn, h => by
    rw [triesF]
    split
    · simp
    · have hlo : lo < S.length := by omega
      have ih := tries_all (S := S) n (lo + 1) (sdn want ((S[lo]?).getD 0)) (by omega) (fun i hi => by
        rw [sdn_testBit, Bool.and_eq_true, Bool.not_eq_true'] at hi
        obtain ⟨j, s, h1, h2, h3⟩ := h i hi.1
        refine ⟨j, s, ?_, h2, h3⟩
        rcases Nat.lt_or_ge lo j with hj | hj
        · omega
        · obtain rfl : j = lo := by omega
          rw [h2] at hi
          simp [h3] at hi)
      intro hh
      rw [List.findSome?_eq_none_iff] at hh
      have := hh lo (List.mem_range'_1.2 ⟨Nat.le_refl _, by omega⟩)
      simp only [Option.map_eq_none_iff] at this
      exact ih this
theorem covO_some {S : List Nat} {want : Nat} (h : sdn want (orTo S) = 0) : ∃ r, covO S want = some r := by
  have := tries_all (S := S) S.length 0 want (by omega) (fun i hi => by
    have := sdn_zero.1 h i hi
    rw [orTo_testBit, List.any_eq_true] at this
    obtain ⟨s, hs, hb⟩ := this
    obtain ⟨j, hj⟩ := List.mem_iff_getElem?.1 hs
    exact ⟨j, s, Nat.zero_le _, hj, hb⟩)
  cases hc : covO S want with
  | some r => exact ⟨r, rfl⟩
  | none =>
    rw [covO, List.findSome?_eq_none_iff] at hc
    exact absurd (hc S.length (List.mem_range.2 (by omega))) this

theorem tries_len {S : List Nat} : ∀ (m want lo : Nat) (r : List Int), triesF S m want lo = some r → r.length ≤ m
  | 0, want, lo, r, h => by
    simp only [triesF] at h
    split at h
    · simp at h; subst h; simp
    · simp at h
  | m + 1, want, lo, r, h => by
    rw [triesF] at h
    split at h
    · simp at h; subst h; simp
    · obtain ⟨e, _, he⟩ := List.exists_of_findSome?_eq_some h
      simp only [Option.map_eq_some_iff] at he
      obtain ⟨r', h1, rfl⟩ := he
      have := tries_len m _ _ r' h1
      simp; omega
theorem covO_len {S : List Nat} {want : Nat} {r : List Int} (h : covO S want = some r) : r.length ≤ S.length := by
  obtain ⟨m, h1, _, h3⟩ := covO_least h
  have := tries_len m _ _ r h1
  omega
theorem KnownR.lt {P : Nat → Prop} {w : World} {M : Nat} {S : List Nat} (h : KnownR P w M S) : M < w.heap.size := by
  obtain ⟨f, hf, _⟩ := h
  exact hf.lt

theorem risesB_small {l : List Int} {many : Int} (h : risesB l many = true) (hm : many ≤ 32) : smallL l := by
  intro x hx
  obtain ⟨i, hi⟩ := List.mem_iff_getElem?.1 hx
  have := risesB_iff.1 h i
  unfold goodAt at this
  have := this x hi
  omega
theorem hyperB_parts {many : Int} {es : List (List Int)} (h : hyperB many es = true) : 0 ≤ many ∧ many ≤ 32 ∧ es.length ≤ 40 ∧ ∀ e ∈ es, risesB e many = true := by
  simp only [hyperB, Bool.and_eq_true, decide_eq_true_eq, allB, List.all_eq_true] at h
  exact ⟨h.1.1.1, h.1.1.2, h.1.2, h.2⟩
theorem hyperB_small {many : Int} {es : List (List Int)} (h : hyperB many es = true) : smallE es := by
  obtain ⟨_, h2, _, h4⟩ := hyperB_parts h
  exact fun r hr => risesB_small (h4 r hr) h2
theorem smallS_of {es : List (List Int)} (h : smallE es) : smallS (es.map ofTo) := by
  intro s hs
  obtain ⟨r, hr, rfl⟩ := List.mem_map.1 hs
  exact ofTo_lt (h r hr)
theorem orTo_lt {S : List Nat} (h : smallS S) : orTo S < 4294967296 := by
  have : ∀ (S : List Nat) (s : Nat), smallS S → s < 4294967296 → S.foldl (· ||| ·) s < 4294967296 := by
    intro S
    induction S with
    | nil => exact fun s _ hs => hs
    | cons x S ih => exact fun s h hs => ih _ (fun y hy => h y (List.mem_cons_of_mem _ hy)) (or_lt hs (h x (List.mem_cons_self)))
  exact this S 0 h (by omega)
end Go.Proofs.YtceiaekkfabeaaaDoor

/- The members of a set. -/
namespace Go.Proofs.YtceiaekkfabeaaaDoor
open Go.RowKit Pl

/-- The members of a set below 32, rising. -/
def membersN (s : Nat) : List Nat := (List.range 32).filter fun i => s.testBit i
def membersL (s : Nat) : List Int := (membersN s).map fun (i : Nat) => (i : Int)
theorem membersN_mem {s i : Nat} : i ∈ membersN s ↔ i < 32 ∧ s.testBit i = true := by simp [membersN]
theorem membersN_zero : membersN 0 = [] := by simp [membersN]
theorem membersL_zero : membersL 0 = [] := by simp [membersL, membersN_zero]

theorem ctz_bit {x : Nat} (h0 : x ≠ 0) (h : x < 18446744073709551616) : x.testBit (Lib.ctz 64 x) = true ∧ ∀ i, i < Lib.ctz 64 x → x.testBit i = false := by
  obtain ⟨m, hm, _⟩ := Lib.ctzFrom_spec 64 x (by omega) (by simpa using h)
  have hc : Lib.ctz 64 x = Lib.ctzFrom 64 x := by simp [Lib.ctz, h0]
  rw [hc]
  generalize Lib.ctzFrom 64 x = c at *
  subst hm
  constructor
  · rw [Nat.testBit_two_pow_mul]; simp
  · intro i hi
    rw [Nat.testBit_two_pow_mul]; simp; omega
theorem ctz_lt {x : Nat} (h0 : x ≠ 0) (h : x < 4294967296) : Lib.ctz 64 x < 32 := by
  obtain ⟨h1, _⟩ := ctz_bit h0 (by omega)
  rcases Nat.lt_or_ge (Lib.ctz 64 x) 32 with h2 | h2
  · exact h2
  · rw [Nat.testBit_lt_two_pow (Nat.lt_of_lt_of_le h (by rw [show (4294967296 : Nat) = 2 ^ 32 from rfl]; exact Nat.pow_le_pow_right (by omega) h2))] at h1
    cases h1
theorem membersN_step {x : Nat} (h0 : x ≠ 0) (h : x < 4294967296) : membersN x = Lib.ctz 64 x :: membersN (sdn x (2 ^ Lib.ctz 64 x)) := by
  obtain ⟨h1, h2⟩ := ctz_bit h0 (by omega)
  have h3 := ctz_lt h0 h
  generalize Lib.ctz 64 x = c at *
  have hs : ∀ i, (sdn x (2 ^ c)).testBit i = (x.testBit i && !decide (c = i)) := fun i => by rw [sdn_testBit, Nat.testBit_two_pow]
  have hr : List.range 32 = List.range c ++ c :: (List.range' (c + 1) (31 - c)) := by
    rw [← List.range'_succ, List.range_eq_range', List.range_eq_range']
    rw [show (32 : Nat) = c + (31 - c + 1) from by omega, ← List.range'_append_1]
    congr 2 <;> omega
  unfold membersN
  rw [hr, List.filter_append, List.filter_append, List.filter_cons, List.filter_cons]
  have e1 : (List.range c).filter (fun i => x.testBit i) = [] := by
    rw [List.filter_eq_nil_iff]; intro i hi; rw [h2 i (List.mem_range.1 hi)]; simp
  have e2 : (List.range c).filter (fun i => (sdn x (2 ^ c)).testBit i) = [] := by
    rw [List.filter_eq_nil_iff]; intro i hi; rw [hs, h2 i (List.mem_range.1 hi)]; simp
  have e3 : (List.range' (c + 1) (31 - c)).filter (fun i => (sdn x (2 ^ c)).testBit i) = (List.range' (c + 1) (31 - c)).filter (fun i => x.testBit i) := by
    apply List.filter_congr
    intro i hi
    have := List.mem_range'_1.1 hi
    rw [hs, show decide (c = i) = false from by simp; omega]; simp
  rw [e1, e2, e3, h1, hs]
  simp
theorem membersL_step {x : Nat} (h0 : x ≠ 0) (h : x < 4294967296) : membersL x = (Lib.ctz 64 x : Int) :: membersL (sdn x (2 ^ Lib.ctz 64 x)) := by
  rw [membersL, membersN_step h0 h]; rfl
theorem membersN_len (x : Nat) : (membersN x).length ≤ 32 := by
  have := List.length_filter_le (fun i => x.testBit i) (List.range 32)
  simpa [membersN] using this
end Go.Proofs.YtceiaekkfabeaaaDoor

namespace Go.Proofs.YtceiaekkfabeaaaDoor
open Go.RowKit Pl

def onesA (x : Int) : Int := IntKind.u64.wrap (bits BinOp.and IntKind.u64 (x / 2) 6148914691236517205 + bits BinOp.and IntKind.u64 x 6148914691236517205)
def onesB (x : Int) : Int := IntKind.u64.wrap (bits BinOp.and IntKind.u64 (x / 4) 3689348814741910323 + bits BinOp.and IntKind.u64 x 3689348814741910323)
def onesC (x : Int) : Int := bits BinOp.and IntKind.u64 (IntKind.u64.wrap (x / 16 + x)) 1085102592571150095
def onesD (x : Int) : Int := IntKind.u64.wrap (x + x / 256)
def onesF (x : Int) : Int := IntKind.u64.wrap (x + x / 65536)
def onesG (x : Int) : Int := IntKind.u64.wrap (x + x / 4294967296)
def onesE (x : Int) : Int := bits BinOp.and IntKind.i64 (wrap64 (onesG (onesF (onesD (onesC (onesB (onesA x))))))) 127

theorem ones_any (x : Int) (w : World) :
    Calls Tryd.prog 71 #[.int .u64 x] w fun e w' => e = .returned (.int .i64 (onesE x)) ∧ w = w' := by
  go_enter Tryd.func71, Tryd.ntmps71
  go_wp2
  go_ret
  exact ⟨rfl, rfl⟩
theorem ones_small : ∀ n : Fin 64, onesE (n.val : Int) = ((membersN n.val).length : Int) := by decide +kernel

/-- The library's table lies as it was laid. -/
def TabW (w : World) : Prop := TabAt 0 Lib.deBruijn64tab w
theorem TabW.ext {X : Nat → Prop} {w w' : World} (h : TabW w) (hx : Ext X w w') (h0 : ¬ X 0) : TabW w' := fun j hj => hx.cell h0 (h j hj)
theorem TabW.no {w w' : World} (h : TabW w) (hx : Ext No w w') : TabW w' := h.ext hx (fun h => h)

set_option maxHeartbeats 1000000 in
theorem tz_core (x k idx : Nat) (w : World) (hx0 : ((x : Int) == 0) = false)
    (key : IntKind.u64.wrap (bits BinOp.and IntKind.u64 (x : Int) (IntKind.u64.wrap (-(x : Int))) * 285870213051353865) / 288230376151711744 = (idx : Int))
    (hi : idx < 64) (hk : k < 64) (hcell : w.cell? ⟨0, idx, none⟩ = some (.int .u8 k)) :
    Calls Tryd.prog 87 #[.int .u64 x] w fun e w' => e = .returned (.int .i64 k) ∧ w = w' := by
  go_enter Tryd.func87, Tryd.ntmps87
  go_wp2_with (simp only [key])
  go_ret
  exact ⟨rfl, rfl⟩
theorem tz_any (x : Nat) (hx0 : x ≠ 0) (hx : x < 4294967296) (w : World) (hT : TabW w) :
    Calls Tryd.prog 87 #[.int .u64 (x : Int)] w fun e w' => e = .returned (.int .i64 (Lib.ctz 64 x : Nat)) ∧ w = w' := by
  obtain ⟨hlow, hk⟩ := Lib.lowest_bit 64 x hx0 (by omega)
  obtain ⟨hi, htab⟩ := Lib.deBruijn64_at _ hk
  have hcell := hT _ hi
  rw [htab] at hcell
  exact tz_core x _ _ w (by simp; omega) (tz64_key x _ (by omega) hx0 hlow) hi hk hcell

/-- What one look at all edges brings: what is met, what is around. -/
def lookE (S : List Nat) (gone : Nat) (mo : Nat × Nat) : Nat × Nat := S.foldl (fun mo e => if e &&& mo.1 ≠ 0 then (mo.1 ||| (e &&& gone), mo.2 ||| e) else mo) mo
theorem lookE_succ {S : List Nat} {gone k x : Nat} {mo : Nat × Nat} (hx : S[k]? = some x) : lookE (S.take (k+1)) gone mo = (fun (mo : Nat × Nat) e => if e &&& mo.1 ≠ 0 then (mo.1 ||| (e &&& gone), mo.2 ||| e) else mo) (lookE (S.take k) gone mo) x := by
  obtain ⟨hk, rfl⟩ := List.getElem?_eq_some_iff.1 hx
  unfold lookE
  rw [List.take_succ_eq_append_getElem hk, List.foldl_append]; rfl
/-- Looks till nothing more is met. -/
def lookN (S : List Nat) (gone : Nat) : Nat → Nat × Nat → Nat × Nat
  | 0, mo => mo
  | f + 1, mo => if (lookE S gone mo).1 = mo.1 then lookE S gone mo else lookN S gone f (lookE S gone mo)
/-- A vertex, and all that it shares an edge with, when those that are gone have joined what is around them. -/
def arF (S : List Nat) (v gone : Nat) : Nat := sdn (lookN S gone 4294967296 (2 ^ v, 0)).2 gone ||| 2 ^ v
end Go.Proofs.YtceiaekkfabeaaaDoor

namespace Go.Proofs.YtceiaekkfabeaaaDoor
open Go.RowKit Pl

theorem ret_u64 {a b : Int} (h : a = b) : Ending.returned (.int .u64 a) = .returned (.int .u64 b) := by rw [h]
theorem lookE_ge (S : List Nat) (gone : Nat) : ∀ mo : Nat × Nat, mo.1 ≤ (lookE S gone mo).1 := by
  induction S with
  | nil => exact fun mo => Nat.le_refl _
  | cons x S ih =>
    intro mo
    rw [lookE, List.foldl_cons]
    refine Nat.le_trans ?_ (ih _)
    split
    · exact Nat.left_le_or
    · exact Nat.le_refl _
theorem shl_bit {v : Nat} (h : v < 32) : IntKind.u64.wrap (1 * 2 ^ v) = ((2 ^ v : Nat) : Int) := by
  rw [Int.one_mul]; exact wrap_pow h

set_option maxHeartbeats 4000000 in
set_option maxRecDepth 100000 in
theorem sAround_any {P : Nat → Prop} (B M : Nat) (many : Int) (es : List (List Int)) (S : List Nat) (w : World) (h : SearchR P w B M many es S) (hs : smallS S) (v gone : Nat) (hv : v < 32) (hg : gone < 4294967296) :
    Calls Tryd.prog 78 #[.pointer (some ⟨B, 0, none⟩), .int .i64 (v : Int), .int .u64 (gone : Int)] w fun e w' => e = .returned (.int .u64 (arF S v gone : Nat)) ∧ w = w' := by
  obtain ⟨A, c, hcell2, hr⟩ := h.sets
  obtain ⟨hm, hat⟩ := SetsR_at hr
  have HAT := Sid.mk hat
  have HS := Sid.mk hs
  clear hat hr h hs
  have hp : (2 : Nat) ^ v < 4294967296 := pow_lt_32 hv
  go_enter Tryd.func78, Tryd.ntmps78
  go_wp2
  go_step3
  go_wp2
  go_step3
  go_wp2
  go_loop [7, 8] (fun mv ov => ∃ m o : Nat, mv = .int .u64 (m : Int) ∧ ov = .int .u64 (o : Int) ∧ m < 4294967296 ∧ o < 4294967296 ∧ Sid (∃ f, 4294967296 ≤ f + m ∧ lookN S gone f (m, o) = lookN S gone 4294967296 (2 ^ v, 0))) (fun mv _ => 4294967296 - (intOf mv).toNat)
  case atStart => exact ⟨2 ^ v, 0, by rw [wrap_pow hv], rfl, hp, by omega, ⟨4294967296, Nat.le_add_right _ _, rfl⟩⟩
  case round =>
    obtain ⟨m, o, rfl, rfl, hm1, ho1, HF⟩ := hrel
    go_wp2
    go_loop [7, 8, 20] (fun mv ov iv => ∃ k m' o' : Nat, k ≤ S.length ∧ iv = .int .i64 (k : Int) ∧ mv = .int .u64 (m' : Int) ∧ ov = .int .u64 (o' : Int) ∧ m' < 4294967296 ∧ o' < 4294967296 ∧ Sid ((m', o') = lookE (S.take k) gone (m, o))) (fun _ _ iv => S.length - (intOf iv).toNat)
    case atStart => exact ⟨0, m, o, Nat.zero_le _, rfl, rfl, rfl, hm1, ho1, ⟨by simp [lookE]⟩⟩
    case round =>
      obtain ⟨k, m', o', hk, rfl, rfl, rfl, hm2, ho2, HE⟩ := hrel
      by_cases hlt : k < S.length
      · obtain ⟨b, off, x, rfl, _, hcell, HX⟩ := HAT.out k hlt
        have hx' : x < 4294967296 := HS.out x (List.mem_of_getElem? HX.out)
        have HAN : Sid (bits .and .u64 (x : Int) (m' : Int) = ((x &&& m' : Nat) : Int)) := ⟨and_u64 hx' hm2⟩
        by_cases hz : x &&& m' = 0
        · have hne : (bits .and .u64 (x : Int) (m' : Int) != 0) = false := by rw [HAN.out, hz]; rfl
          go_wp2
          go_round
          case rel => exact ⟨k+1, m', o', by omega, by go_num, rfl, rfl, hm2, ho2, ⟨by rw [lookE_succ HX.out, ← HE.out]; simp [hz]⟩⟩
          case measure => simp [intOf]; omega
        · have hne : (bits .and .u64 (x : Int) (m' : Int) != 0) = true := by rw [HAN.out]; simp; omega
          have hag : x &&& gone < 4294967296 := and_lt hx'
          go_wp2
          go_round
          case rel => exact ⟨k+1, m' ||| (x &&& gone), o' ||| x, by omega, by go_num, congrArg _ (by rw [and_u64 hx' hg, or_u64 hm2 hag]), congrArg _ (or_u64 ho2 hx'), or_lt hm2 hag, or_lt ho2 hx', ⟨by rw [lookE_succ HX.out, ← HE.out]; simp [hz]⟩⟩
          case measure => simp [intOf]; omega
      · have HL : Sid ((m', o') = lookE S gone (m, o)) := ⟨by have := HE.out; rwa [List.take_of_length_le (by omega)] at this⟩
        obtain ⟨f, hf1, hf2⟩ := HF.out
        obtain ⟨f, rfl⟩ : ∃ f', f = f' + 1 := ⟨f - 1, by omega⟩
        rw [lookN, ← HL.out] at hf2
        by_cases hmm : m' = m
        · subst hmm
          rw [if_pos rfl] at hf2
          have HF2 := Sid.mk hf2
          clear hf2 hf1
          go_wp2
          go_ret
          exact ⟨ret_u64 (by rw [andNot_u64 ho2 hg, wrap_pow hv, or_u64 (sdn_lt' ho2) hp, arF, ← HF2.out]), rfl⟩
        · have hmb : ((m' : Int) == (m : Int)) = false := by simp; omega
          rw [if_neg (by simpa using hmm)] at hf2
          have HF2 := Sid.mk hf2
          have hge := lookE_ge S gone (m, o)
          rw [← HL.out] at hge
          simp only at hge
          clear hf2
          go_wp2
          go_round
          case rel => exact ⟨m', o', rfl, rfl, hm2, ho2, ⟨f, by omega, HF2.out⟩⟩
          case measure => simp [intOf]; omega
end Go.Proofs.YtceiaekkfabeaaaDoor

namespace Go.Proofs.YtceiaekkfabeaaaDoor
open Go.RowKit Go.Shelf Pl
attribute [local go_sem] Oper.semAt_some

/-- How many members are left in a set's cell. -/
def leftIn (W : World) (Bs : Nat) : Nat := match W.cell? ⟨Bs, 0, none⟩ with | some (.int _ c) => (membersN c.toNat).length | _ => 0
theorem leftIn_of {W : World} {Bs c : Nat} (h : W.cell? ⟨Bs, 0, none⟩ = some (.int .u64 (c : Int))) : leftIn W Bs = (membersN c).length := by simp [leftIn, h]

/-- A round that is told a number: it goes on, or it is over. -/
def YieldsAt (l : Nat) (x : Int) (W : World) (R : Bool → World → Prop) : Prop := YieldAt Fence.wide 0 Tryd.prog l #[.int .i64 x] W fun e W' => ∃ b, e = .returned (.bool b) ∧ R b W'

set_option maxHeartbeats 4000000 in
theorem members1_in (l Bs s : Nat) (hs : s < 4294967296) (J Jx : List Int → World → Prop) (X : Nat → Prop) (hX0 : ¬ X 0) (hXB : ¬ X Bs) (hB0 : Bs ≠ 0)
    (hJ : ∀ pre W W', J pre W → Ext (fun k => k = Bs) W W' → J pre W')
    (hY : ∀ pre x post W, membersL s = pre ++ x :: post → J pre W → YieldsAt l x W fun b W' => Ext X W W' ∧ if b then J (pre ++ [x]) W' else Jx (pre ++ [x]) W')
    (W : World) (hT : TabW W) (hB : W.cell? ⟨Bs, 0, none⟩ = some (.int .u64 (s : Int))) (hBf : W.frozen? ⟨Bs, 0, none⟩ = false) (h0 : J [] W) :
    CallsIn Fence.wide 0 Tryd.prog 90 #[.func (.yield l) #[] #[], .pointer (some ⟨Bs, 0, none⟩)] W fun e W' => e = .returned (.tuple #[]) ∧ Ext (fun k => X k ∨ k = Bs) W W' ∧ (J (membersL s) W' ∨ ∃ pre post, membersL s = pre ++ post ∧ Jx pre W') := by
  refine callsIn_of_wp Tryd.func90 rfl trivial ?_ rfl
  simp only [Tryd.ntmps90, List.size_toArray, List.length_cons, List.length_nil, Nat.reduceAdd, Nat.reduceSub, Array.replicate_succ, Array.replicate_zero, List.push_toArray, List.append_toArray, List.nil_append, List.cons_append]
  gi_wp2
  gi_loopw [3] (fun v wr => ∃ (pre : List Int) (c : Nat), c < 4294967296 ∧ Sid (membersL s = pre ++ membersL c) ∧ wr.cell? ⟨Bs, 0, none⟩ = some (.int .u64 (c : Int)) ∧ wr.frozen? ⟨Bs, 0, none⟩ = false ∧ Sid (J pre wr) ∧ Sid (TabW wr) ∧ Sid (Ext (fun k => X k ∨ k = Bs) W wr)) (fun _ wr => leftIn wr Bs)
  case atStart => exact ⟨[], s, hs, ⟨rfl⟩, hB, hBf, ⟨h0⟩, ⟨hT⟩, ⟨Ext.refl _ _⟩⟩
  case round =>
    obtain ⟨pre, c, hc, HM, hcell, hfr, HJ, HT, HX⟩ := hrel
    by_cases hz : c = 0
    · subst hz
      gi_wp2
      go_end0
      exact ⟨rfl, HX.out, .inl (by have h1 := HM.out; have h2 := HJ.out; rw [membersL_zero, List.append_nil] at h1; rwa [h1])⟩
    · have hne : ((c : Int) != 0) = true := by simp; omega
      have hsp : membersL s = pre ++ (Lib.ctz 64 c : Int) :: membersL (sdn c (2 ^ Lib.ctz 64 c)) := by rw [HM.out, membersL_step hz hc]
      have HSP := Sid.mk hsp
      obtain ⟨fn, tmps, assign, body, hy, hR⟩ := hY pre _ _ wr hsp HJ.out
      have hlt := ctz_lt hz hc
      have hbit : bits .andNot .u64 (c : Int) (((2 ^ Lib.ctz 64 c : Nat)) : Int) = ((sdn c (2 ^ Lib.ctz 64 c) : Nat) : Int) := andNot_u64 hc (pow_lt_32 hlt)
      have HR := Sid.mk hR
      clear hR hsp hY
      generalize hk : Lib.ctz 64 c = k at *
      gi_wp2_with (refine ⟨trivial, rfl, ?_⟩; gi_at_call 87; refine (callsIn_wide.2 (tz_any c hz hc _ HT.out)).mono ?_; rintro e w1 ⟨rfl, rfl⟩; rw [hk])
      refine ⟨rfl, HR.out.mono ?_⟩
      rintro e W3 ⟨b, rfl, hx3, hb⟩
      have hcell3 := hx3.cell (p := ⟨Bs, 0, none⟩) hXB hcell
      have hfr3 : W3.frozen? ⟨Bs, 0, none⟩ = false := (hx3.frozen (p := ⟨Bs, 0, none⟩) hXB (World.block_lt_of_cell? wr _ hcell)).trans hfr
      have hcell0 := hcell
      have HX3 := Sid.mk hx3
      have HB3 := Sid.mk hb
      clear hx3 hb HR hcell hfr
      cases b with
      | true =>
        gi_wp2
        refine wpIn_wide.2 ?_
        go_region
        all_goals go_wp2
        all_goals rw [wrap_pow hlt, hbit]
        all_goals
          have hx4 : Ext (fun i => i = Bs) W3 (W3.setCell ⟨Bs, 0, none⟩ (.int .u64 ((sdn c (2 ^ k) : Nat) : Int))).drew := ((Ext.refl (fun i => i = Bs) W3).setCell (p := ⟨Bs, 0, none⟩) (Or.inl rfl) _).drew
          have hc4 : (W3.setCell ⟨Bs, 0, none⟩ (.int .u64 ((sdn c (2 ^ k) : Nat) : Int))).drew.cell? ⟨Bs, 0, none⟩ = some (.int .u64 ((sdn c (2 ^ k) : Nat) : Int)) := World.cell?_setCell_same' _ _ _ (by rw [hcell3]; rfl)
          have h1 := HB3.out
          simp only [if_true] at h1
          have hlen : (membersN c).length = (membersN (sdn c (2 ^ k))).length + 1 := by rw [← hk, ← List.length_cons (a := Lib.ctz 64 c), ← membersN_step hz hc]
          refine ⟨⟨pre ++ [(k : Int)], sdn c (2 ^ k), sdn_lt' hc, ⟨by rw [HSP.out, List.append_assoc]; rfl⟩, hc4, by simp [hfr3], ⟨hJ _ _ _ h1 hx4⟩, ⟨(HT.out.ext HX3.out hX0).ext hx4 (fun h => hB0 h.symm)⟩, ⟨(HX.out.trans (HX3.out.mono (fun _ h => Or.inl h))).trans (hx4.mono (fun _ h => Or.inr h))⟩⟩, ?_⟩
          rw [leftIn_of hc4, leftIn_of hcell0, hlen]; omega
      | false =>
        gi_wp2
        refine bodyPost_ret (results_none rfl _ _ _) rfl ?_
        have h1 := HB3.out
        simp only [Bool.false_eq_true, if_false] at h1
        exact ⟨rfl, HX.out.trans (HX3.out.mono (fun _ h => Or.inl h)), .inr ⟨pre ++ [(k : Int)], _, by rw [HSP.out, List.append_assoc]; rfl, h1⟩⟩
end Go.Proofs.YtceiaekkfabeaaaDoor

/- The law of 'for x := range s.members() { .. }' at an iterator that keeps its state in a cell. -/
namespace Go.Proofs.YtceiaekkfabeaaaDoor
open Go.RowKit Go.Shelf Pl

/-- An iterator over L that keeps its state in block Bs: whatever a round does to blocks of X, it goes on. -/
def IterAt (gf : Nat) (lb : Array Value) (Bs : Nat) (L : List Int) (Ok : World → Prop) : Prop :=
  ∀ (l : Nat) (J Jx : List Int → World → Prop) (X : Nat → Prop), ¬ X 0 → ¬ X Bs → (∀ pre W W', J pre W → Ext (fun k => k = Bs) W W' → J pre W') →
    (∀ pre x post W, L = pre ++ x :: post → J pre W → YieldsAt l x W fun b W' => Ext X W W' ∧ if b then J (pre ++ [x]) W' else Jx (pre ++ [x]) W') →
    ∀ W, Ok W → J [] W → CallsIn Fence.wide 0 Tryd.prog gf (#[.func (.yield l) #[] #[]] ++ lb) W fun e W' => e = .returned (.tuple #[]) ∧ Ext (fun k => X k ∨ k = Bs) W W' ∧ (J L W' ∨ ∃ pre post, L = pre ++ post ∧ Jx pre W')

/-- How a round's body may be left. -/
def bodyR (X : Nat → Prop) (I Ix : List Int → World → Prop) (pre : List Int) (W : World) : Exit → Act → World → Prop
  | .normal, _, W' => Ext X W W' ∧ I pre W'
  | .ret, _, W' => Ext X W W' ∧ Ix pre W'
  | _, _, _ => False

theorem Ext.putObj {X : Nat → Prop} {a w : World} (h : Ext X a w) {l : Nat} (hl : X l) (o : Obj) : Ext X a (w.putObj l o) :=
  ⟨h.os, h.tape, h.output, by simpa using h.size, fun k hk hx => by
    rw [World.putObj_heap_other (by rintro rfl; exact hx hl)]; exact h.block k hk hx⟩
theorem Ext.heap {X : Nat → Prop} {w w' : World} (h : Ext X w w') {k : Nat} (hx : ¬ X k) {o : Obj} (hk : w.heap[k]? = some o) : w'.heap[k]? = some o :=
  (h.block k (Array.getElem?_eq_some_iff.1 hk).1 hx).trans hk

theorem wpIn_range_ext {g : Operand} {ps : Array Tmp} {assign body : Code} {Q : Exit → Act → World → Prop} {a : Act} {w : World} {gf : Nat} {lb : Array Value} {Bs : Nat} {L : List Int} {Ok : World → Prop}
    (hg : a.eval g = .func (.func gf) #[] lb) (eg : ∀ args w, (callFunc gf args).run Tryd.prog w = .ok (.enter gf args) w)
    (hit : IterAt gf lb Bs L Ok) (hok : ∀ (X : Nat → Prop) W W', Ok W → Ext X W W' → ¬ X Bs → ¬ X 0 → Ok W') (hps : ps.size = 1)
    (I Ix : List Int → World → Prop) (X : Nat → Prop) (hX0 : ¬ X 0) (hXB : ¬ X Bs) (hXD : ¬ X w.heap.size) (hXl : ¬ X (w.heap.size + 1)) (hB : Bs < w.heap.size) (hB0 : Bs ≠ 0)
    (hI : ∀ pre W W', I pre W → Ext (fun k => k = Bs ∨ k = w.heap.size + 1) W W' → I pre W') (hIx : ∀ pre W W', Ix pre W → Ext (fun k => k = Bs ∨ k = w.heap.size + 1) W W' → Ix pre W')
    (hok0 : Ok w) (h0 : I [] w) (a₁ : Int → Act)
    (hassign : ∀ (l : Nat) (x : Int) (W : World) (K : Act → World → Prop), K (a₁ x) W →
      assign.wpIn (Fence.wide.inRound l) 0 Tryd.prog (Exit.then K (fun _ _ _ => False)) { tmps := (ps.zip #[Value.int .i64 x]).foldl (fun t (p, v) => t.setIfInBounds p v) a.tmps, defers := [] } W)
    (hbody : ∀ (l : Nat) (pre : List Int) (x : Int) (post : List Int) (W : World), L = pre ++ x :: post → I pre W → w.heap.size + 2 ≤ W.heap.size → body.wpIn (Fence.wide.inRound l) 0 Tryd.prog (bodyR X I Ix (pre ++ [x]) W) (a₁ x) W)
    (hdone : ∀ W, I L W → Ext (fun k => X k ∨ k = Bs) w W → W.heap[w.heap.size]? = some (.deferred (some [])) → Q .normal { a with defers := { target := .collected w.heap.size, args := #[] } :: a.defers } W)
    (hstop : ∀ pre post W, L = pre ++ post → Ix pre W → Ext (fun k => X k ∨ k = Bs) w W → W.heap[w.heap.size]? = some (.deferred (some [])) → Q .ret { a with defers := { target := .collected w.heap.size, args := #[] } :: a.defers } W) :
    (Code.rangeFunc g ps assign body).wpIn Fence.wide 0 Tryd.prog Q a w := by
  refine wpIn_rangeFunc ?_
  intro fn hfn
  obtain ⟨rec, hrec⟩ : ∃ rec : LoopState → Option Code → Loop, rec = fun st pe => { state := st, pending := pe, fn, tmps := a.tmps, params := ps, assign, body, defers := w.heap.size } := ⟨_, rfl⟩
  obtain ⟨W1, hW1⟩ : ∃ W1, (w.alloc (.deferred (some []))).alloc (.loop (rec .ready none)) = W1 := ⟨_, rfl⟩
  have hL1 : W1.heap[w.heap.size + 1]? = some (.loop (rec .ready none)) := by
    rw [← hW1]; have := World.alloc_heap_new (w.alloc (.deferred (some []))) (.loop (rec .ready none)); rwa [World.size_alloc] at this
  have hK1 : W1.heap[w.heap.size]? = some (.deferred (some [])) := by
    rw [← hW1]; exact (Below.heap_alloc _ _ _ (by simp)).trans (World.alloc_heap_new w _)
  have hx1 : Ext No w W1 := by rw [← hW1]; exact ((Ext.refl _ w).alloc _).alloc _
  have hs1 : W1.heap.size = w.heap.size + 2 := by rw [← hW1]; simp
  refine ⟨w.heap.size + 1, [{ target := .collected w.heap.size, args := #[] }], W1, { target := .fn (.func gf) lb, args := #[.func (.yield (w.heap.size + 1)) #[] #[]] }, W1, gf,
    #[.func (.yield (w.heap.size + 1)) #[] #[]] ++ lb, W1, ?_, ?_, ?_, ?_, fun h => by simp [Fence.wide] at h, ?_⟩
  · rw [← hW1, hrec]; exact run_enterLoop_outer _ _ _ _ _
  · simp only [resolve, hg]
    simp [go_sem]
  · intro f' hf'; trivial
  · simp [invoke, go_sem, eg]
  · have hok1 : Ok W1 := hok No _ _ hok0 hx1 (fun h => h) (fun h => h)
    have hI1 : I [] W1 := hI _ _ _ h0 (hx1.mono (fun _ h => h.elim))
    refine (hit (w.heap.size + 1)
      (fun pre W => I pre W ∧ W.heap[w.heap.size + 1]? = some (.loop (rec .ready none)) ∧ W.heap[w.heap.size]? = some (.deferred (some [])) ∧ Ext (fun k => (X k ∨ k = Bs) ∨ k = w.heap.size + 1) W1 W)
      (fun pre W => Ix pre W ∧ W.heap[w.heap.size + 1]? = some (.loop (rec .done (some .ret))) ∧ W.heap[w.heap.size]? = some (.deferred (some [])) ∧ Ext (fun k => (X k ∨ k = Bs) ∨ k = w.heap.size + 1) W1 W)
      (fun k => X k ∨ k = w.heap.size + 1) (fun h => h.elim hX0 (by omega)) (fun h => h.elim hXB (by omega))
      (fun pre W W' hJ hx => ⟨hI _ _ _ hJ.1 (hx.mono (fun _ h => Or.inl h)), hx.heap (by omega) hJ.2.1, hx.heap (by omega) hJ.2.2.1, hJ.2.2.2.trans (hx.mono (fun _ h => Or.inl (Or.inr h)))⟩)
      ?_ W1 hok1 ⟨hI1, hL1, hK1, Ext.refl _ _⟩).mono ?_
    · rintro pre x post W hLx ⟨hi, hl, hk, hxw⟩
      have hlt : w.heap.size + 1 < W.heap.size := (Array.getElem?_eq_some_iff.1 hl).1
      have hy := run_yield (P := Tryd.prog) (args := #[Value.int .i64 x]) hl (by rw [hrec]; simp [hps])
      rw [hrec] at hy
      refine ⟨fn, _, assign, body, hy, roundIn_of_wpIn hfn (hassign _ x W _ ⟨_, run_beginRound hl (by rw [hrec]), ?_⟩)⟩
      have hl2 : (W.putObj (w.heap.size + 1) (.loop { rec .ready none with state := .busy })).heap[w.heap.size + 1]? = some (.loop { rec .ready none with state := .busy }) := World.putObj_heap_same hlt
      have hk2 : (W.putObj (w.heap.size + 1) (.loop { rec .ready none with state := .busy })).heap[w.heap.size]? = some (.deferred (some [])) := (World.putObj_heap_other (by omega)).trans hk
      have hx2 : Ext (fun k => k = w.heap.size + 1) W (W.putObj (w.heap.size + 1) (.loop { rec .ready none with state := .busy })) := (Ext.refl (fun k => k = w.heap.size + 1) W).putObj rfl _
      refine wpIn_mono (hbody _ pre x post _ hLx (hI _ _ _ hi (hx2.mono (fun _ h => Or.inr h))) (by simp; omega)) ?_
      have fin : ∀ (jump : Option Code) (W3 : World), Ext X (W.putObj (w.heap.size + 1) (.loop { rec .ready none with state := .busy })) W3 →
          (Instr.endRound (w.heap.size + 1) jump).run Tryd.prog W3 = .ok (.bool jump.isNone) (W3.putObj (w.heap.size + 1) (.loop (rec (if jump.isNone then .ready else .done) jump))) ∧
          (W3.putObj (w.heap.size + 1) (.loop (rec (if jump.isNone then .ready else .done) jump))).heap[w.heap.size + 1]? = some (.loop (rec (if jump.isNone then .ready else .done) jump)) ∧
          (W3.putObj (w.heap.size + 1) (.loop (rec (if jump.isNone then .ready else .done) jump))).heap[w.heap.size]? = some (.deferred (some [])) ∧
          Ext (fun k => k = w.heap.size + 1) W3 (W3.putObj (w.heap.size + 1) (.loop (rec (if jump.isNone then .ready else .done) jump))) ∧
          Ext (fun k => X k ∨ k = w.heap.size + 1) W (W3.putObj (w.heap.size + 1) (.loop (rec (if jump.isNone then .ready else .done) jump))) := fun jump W3 hx3 => by
        have hl3 := hx3.heap hXl hl2
        have := run_endRound (P := Tryd.prog) jump hl3
        rw [hrec] at this ⊢
        exact ⟨this, World.putObj_heap_same (Array.getElem?_eq_some_iff.1 hl3).1, (World.putObj_heap_other (by omega)).trans (hx3.heap hXD hk2), (Ext.refl (fun k => k = w.heap.size + 1) W3).putObj rfl _,
          (((hx2.mono (fun _ h => Or.inr h)).trans (hx3.mono (fun _ h => Or.inl h))).putObj (Or.inr rfl) _)⟩
      rintro e a3 W3 hp
      cases e with
      | normal =>
        obtain ⟨hx3, hi3⟩ := hp
        obtain ⟨hr, hl4, hk4, hx4, hx5⟩ := fin none W3 hx3
        exact ⟨_, _, hr, true, rfl, hx5, hI _ _ _ hi3 (hx4.mono (fun _ h => Or.inr h)), hl4, hk4, hxw.trans (hx5.mono (fun _ h => h.elim (fun h => Or.inl (Or.inl h)) Or.inr))⟩
      | ret =>
        obtain ⟨hx3, hi3⟩ := hp
        obtain ⟨hr, hl4, hk4, hx4, hx5⟩ := fin (some .ret) W3 hx3
        exact ⟨_, _, hr, false, rfl, hx5, hIx _ _ _ hi3 (hx4.mono (fun _ h => Or.inr h)), hl4, hk4, hxw.trans (hx5.mono (fun _ h => h.elim (fun h => Or.inl (Or.inl h)) Or.inr))⟩
      | exit id => exact hp.elim
      | goto t => exact hp.elim
      | panic ch => exact hp.elim
      | outgrown => exact hp.elim
    · rintro e W2 ⟨rfl, _, h⟩
      have fin2 : ∀ W2, Ext (fun k => (X k ∨ k = Bs) ∨ k = w.heap.size + 1) W1 W2 → ∀ o, Ext (fun k => X k ∨ k = Bs) w (W2.putObj (w.heap.size + 1) o) := fun W2 h2 o =>
        hx1.mono (Y := fun k => X k ∨ k = Bs) (fun _ h => h.elim) |>.step (h2.putObj (Or.inr rfl) o) (fun i hi hh => hh.elim id (fun h => by omega))
      rcases h with ⟨hi, hl, hk, hx⟩ | ⟨pre, post, hLp, hi, hl, hk, hx⟩
      · have hlt : w.heap.size + 1 < W2.heap.size := (Array.getElem?_eq_some_iff.1 hl).1
        have hend := run_endLoop (P := Tryd.prog) hl (by rw [hrec]; simp)
        rw [hrec] at hend
        exact ⟨none, _, hend, hdone _ (hI _ _ _ hi (((Ext.refl (fun k => k = Bs ∨ k = w.heap.size + 1) W2).putObj (Or.inr rfl) _))) (fin2 _ hx _) ((World.putObj_heap_other (by omega)).trans hk)⟩
      · have hend := run_endLoop (P := Tryd.prog) hl (by rw [hrec]; simp)
        rw [hrec] at hend
        exact ⟨some .ret, _, hend, wpIn_ret (hstop _ _ _ hLp (hIx _ _ _ hi (((Ext.refl (fun k => k = Bs ∨ k = w.heap.size + 1) W2).putObj (Or.inr rfl) _))) (fin2 _ hx _) ((World.putObj_heap_other (by omega)).trans hk))⟩
end Go.Proofs.YtceiaekkfabeaaaDoor
