/- Words and contracts for: DecompHomes: for every hypergraph, and number the law answers true, and its arguments read as before. No condition; the library's table math/bits.deBruijn64tab is laid by its text. -/
import Derived.Maps.OwnIn
import Derived.Stop.RegionWithIn
import Derived.Test.YtceiaekkfabeaaaDoorZhc
/- The law of 'for x := range s.members() { .. }' at an iterator that keeps its state in a cell. -/
namespace Go.Proofs.YtceiaekkfabeaaaDoor
open Go.RowKit Go.Shelf Pl

/-- An iterator over L that keeps its state in block Bs: whatever a round does to blocks of X, it goes on. -/
def IterAt (gf : Nat) (lb : Array Value) (Bs : Nat) (L : List Int) (Ok : World → Prop) : Prop :=
  ∀ (l : Nat) (J Jx : List Int → World → Prop) (X : Nat → Prop), ¬ X 0 → ¬ X Bs → (∀ pre W W', J pre W → Ext (fun k => k = Bs) W W' → J pre W') →
    (∀ pre x post W, L = pre ++ x :: post → J pre W → YieldsAt l x W fun b W' => Ext X W W' ∧ if b then J (pre ++ [x]) W' else Jx (pre ++ [x]) W') →
    ∀ W, Ok W → J [] W → CallsIn Fence.wide 0 Tryd.prog gf (#[.func (.yield l) #[] #[]] ++ lb) W fun e W' => e = .returned (.tuple #[]) ∧ Ext (fun k => X k ∨ k = Bs) W W' ∧ (J L W' ∨ ∃ pre post, L = pre ++ post ∧ Jx pre W')

/-- How a round's body may be left. -/
def bodyR (X : Nat → Prop) (I Ix : List Int → World → Prop) (pre : List Int) (W : World) : Exit → Act → World → Prop
  | .normal, _, W' => Ext X W W' ∧ I pre W'
  | .ret, _, W' => Ext X W W' ∧ Ix pre W'
  | _, _, _ => False

theorem Ext.putObj {X : Nat → Prop} {a w : World} (h : Ext X a w) {l : Nat} (hl : X l) (o : Obj) : Ext X a (w.putObj l o) :=
  ⟨h.os, h.tape, h.output, by simpa using h.size, fun k hk hx => by
    rw [World.putObj_heap_other (by rintro rfl; exact hx hl)]; exact h.block k hk hx⟩
theorem Ext.heap {X : Nat → Prop} {w w' : World} (h : Ext X w w') {k : Nat} (hx : ¬ X k) {o : Obj} (hk : w.heap[k]? = some o) : w'.heap[k]? = some o :=
  (h.block k (Array.getElem?_eq_some_iff.1 hk).1 hx).trans hk

theorem wpIn_range_ext {g : Operand} {ps : Array Tmp} {assign body : Code} {Q : Exit → Act → World → Prop} {a : Act} {w : World} {gf : Nat} {lb : Array Value} {Bs : Nat} {L : List Int} {Ok : World → Prop}
    (hg : a.eval g = .func (.func gf) #[] lb) (eg : ∀ args w, (callFunc gf args).run Tryd.prog w = .ok (.enter gf args) w)
    (hit : IterAt gf lb Bs L Ok) (hok : ∀ (X : Nat → Prop) W W', Ok W → Ext X W W' → ¬ X Bs → ¬ X 0 → Ok W') (hps : ps.size = 1)
    (I Ix : List Int → World → Prop) (X : Nat → Prop) (hX0 : ¬ X 0) (hXB : ¬ X Bs) (hXD : ¬ X w.heap.size) (hXl : ¬ X (w.heap.size + 1)) (hB : Bs < w.heap.size) (hB0 : Bs ≠ 0)
    (hI : ∀ pre W W', I pre W → Ext (fun k => k = Bs ∨ k = w.heap.size + 1) W W' → I pre W') (hIx : ∀ pre W W', Ix pre W → Ext (fun k => k = Bs ∨ k = w.heap.size + 1) W W' → Ix pre W')
    (hok0 : Ok w) (h0 : I [] w) (a₁ : Int → Act)
    (hassign : ∀ (l : Nat) (x : Int) (W : World) (K : Act → World → Prop), K (a₁ x) W →
      assign.wpIn (Fence.wide.inRound l) 0 Tryd.prog (Exit.then K (fun _ _ _ => False)) { tmps := (ps.zip #[Value.int .i64 x]).foldl (fun t (p, v) => t.setIfInBounds p v) a.tmps, defers := [] } W)
    (hbody : ∀ (l : Nat) (pre : List Int) (x : Int) (post : List Int) (W : World), L = pre ++ x :: post → I pre W → w.heap.size + 2 ≤ W.heap.size → body.wpIn (Fence.wide.inRound l) 0 Tryd.prog (bodyR X I Ix (pre ++ [x]) W) (a₁ x) W)
    (hdone : ∀ W, I L W → Ext (fun k => X k ∨ k = Bs) w W → W.heap[w.heap.size]? = some (.deferred (some [])) → Q .normal { a with defers := { target := .collected w.heap.size, args := #[] } :: a.defers } W)
    (hstop : ∀ pre post W, L = pre ++ post → Ix pre W → Ext (fun k => X k ∨ k = Bs) w W → W.heap[w.heap.size]? = some (.deferred (some [])) → Q .ret { a with defers := { target := .collected w.heap.size, args := #[] } :: a.defers } W) :
    (Code.rangeFunc g ps assign body).wpIn Fence.wide 0 Tryd.prog Q a w := by
  refine wpIn_rangeFunc ?_
  intro fn hfn
  obtain ⟨rec, hrec⟩ : ∃ rec : LoopState → Option Code → Loop, rec = fun st pe => { state := st, pending := pe, fn, tmps := a.tmps, params := ps, assign, body, defers := w.heap.size } := ⟨_, rfl⟩
  obtain ⟨W1, hW1⟩ : ∃ W1, (w.alloc (.deferred (some []))).alloc (.loop (rec .ready none)) = W1 := ⟨_, rfl⟩
  have hL1 : W1.heap[w.heap.size + 1]? = some (.loop (rec .ready none)) := by
    rw [← hW1]; have := World.alloc_heap_new (w.alloc (.deferred (some []))) (.loop (rec .ready none)); rwa [World.size_alloc] at this
  have hK1 : W1.heap[w.heap.size]? = some (.deferred (some [])) := by
    rw [← hW1]; exact (Below.heap_alloc _ _ _ (by simp)).trans (World.alloc_heap_new w _)
  have hx1 : Ext No w W1 := by rw [← hW1]; exact ((Ext.refl _ w).alloc _).alloc _
  have hs1 : W1.heap.size = w.heap.size + 2 := by rw [← hW1]; simp
  refine ⟨w.heap.size + 1, [{ target := .collected w.heap.size, args := #[] }], W1, { target := .fn (.func gf) lb, args := #[.func (.yield (w.heap.size + 1)) #[] #[]] }, W1, gf,
    #[.func (.yield (w.heap.size + 1)) #[] #[]] ++ lb, W1, ?_, ?_, ?_, ?_, fun h => by simp [Fence.wide] at h, ?_⟩
  · rw [← hW1, hrec]; exact run_enterLoop_outer _ _ _ _ _
  · simp only [resolve, hg]
    simp [go_sem]
  · intro f' hf'; trivial
  · simp [invoke, go_sem, eg]
  · have hok1 : Ok W1 := hok No _ _ hok0 hx1 (fun h => h) (fun h => h)
    have hI1 : I [] W1 := hI _ _ _ h0 (hx1.mono (fun _ h => h.elim))
    refine (hit (w.heap.size + 1)
      (fun pre W => I pre W ∧ W.heap[w.heap.size + 1]? = some (.loop (rec .ready none)) ∧ W.heap[w.heap.size]? = some (.deferred (some [])) ∧ Ext (fun k => (X k ∨ k = Bs) ∨ k = w.heap.size + 1) W1 W)
      (fun pre W => Ix pre W ∧ W.heap[w.heap.size + 1]? = some (.loop (rec .done (some .ret))) ∧ W.heap[w.heap.size]? = some (.deferred (some [])) ∧ Ext (fun k => (X k ∨ k = Bs) ∨ k = w.heap.size + 1) W1 W)
      (fun k => X k ∨ k = w.heap.size + 1) (fun h => h.elim hX0 (by omega)) (fun h => h.elim hXB (by omega))
      (fun pre W W' hJ hx => ⟨hI _ _ _ hJ.1 (hx.mono (fun _ h => Or.inl h)), hx.heap (by omega) hJ.2.1, hx.heap (by omega) hJ.2.2.1, hJ.2.2.2.trans (hx.mono (fun _ h => Or.inl (Or.inr h)))⟩)
      ?_ W1 hok1 ⟨hI1, hL1, hK1, Ext.refl _ _⟩).mono ?_
    · rintro pre x post W hLx ⟨hi, hl, hk, hxw⟩
      have hlt : w.heap.size + 1 < W.heap.size := (Array.getElem?_eq_some_iff.1 hl).1
      have hy := run_yield (P := Tryd.prog) (args := #[Value.int .i64 x]) hl (by rw [hrec]; simp [hps])
      rw [hrec] at hy
      refine ⟨fn, _, assign, body, hy, roundIn_of_wpIn hfn (hassign _ x W _ ⟨_, run_beginRound hl (by rw [hrec]), ?_⟩)⟩
      have hl2 : (W.putObj (w.heap.size + 1) (.loop { rec .ready none with state := .busy })).heap[w.heap.size + 1]? = some (.loop { rec .ready none with state := .busy }) := World.putObj_heap_same hlt
      have hk2 : (W.putObj (w.heap.size + 1) (.loop { rec .ready none with state := .busy })).heap[w.heap.size]? = some (.deferred (some [])) := (World.putObj_heap_other (by omega)).trans hk
      have hx2 : Ext (fun k => k = w.heap.size + 1) W (W.putObj (w.heap.size + 1) (.loop { rec .ready none with state := .busy })) := (Ext.refl (fun k => k = w.heap.size + 1) W).putObj rfl _
      refine wpIn_mono (hbody _ pre x post _ hLx (hI _ _ _ hi (hx2.mono (fun _ h => Or.inr h))) (by simp; omega)) ?_
      have fin : ∀ (jump : Option Code) (W3 : World), Ext X (W.putObj (w.heap.size + 1) (.loop { rec .ready none with state := .busy })) W3 →
          (Instr.endRound (w.heap.size + 1) jump).run Tryd.prog W3 = .ok (.bool jump.isNone) (W3.putObj (w.heap.size + 1) (.loop (rec (if jump.isNone then .ready else .done) jump))) ∧
          (W3.putObj (w.heap.size + 1) (.loop (rec (if jump.isNone then .ready else .done) jump))).heap[w.heap.size + 1]? = some (.loop (rec (if jump.isNone then .ready else .done) jump)) ∧
          (W3.putObj (w.heap.size + 1) (.loop (rec (if jump.isNone then .ready else .done) jump))).heap[w.heap.size]? = some (.deferred (some [])) ∧
          Ext (fun k => k = w.heap.size + 1) W3 (W3.putObj (w.heap.size + 1) (.loop (rec (if jump.isNone then .ready else .done) jump))) ∧
          Ext (fun k => X k ∨ k = w.heap.size + 1) W (W3.putObj (w.heap.size + 1) (.loop (rec (if jump.isNone then .ready else .done) jump))) := fun jump W3 hx3 => by
        have hl3 := hx3.heap hXl hl2
        have := run_endRound (P := Tryd.prog) jump hl3
        rw [hrec] at this ⊢
        exact ⟨this, World.putObj_heap_same (Array.getElem?_eq_some_iff.1 hl3).1, (World.putObj_heap_other (by omega)).trans (hx3.heap hXD hk2), (Ext.refl (fun k => k = w.heap.size + 1) W3).putObj rfl _,
          (((hx2.mono (fun _ h => Or.inr h)).trans (hx3.mono (fun _ h => Or.inl h))).putObj (Or.inr rfl) _)⟩
      rintro e a3 W3 hp
      cases e with
      | normal =>
        obtain ⟨hx3, hi3⟩ := hp
        obtain ⟨hr, hl4, hk4, hx4, hx5⟩ := fin none W3 hx3
        exact ⟨_, _, hr, true, rfl, hx5, hI _ _ _ hi3 (hx4.mono (fun _ h => Or.inr h)), hl4, hk4, hxw.trans (hx5.mono (fun _ h => h.elim (fun h => Or.inl (Or.inl h)) Or.inr))⟩
      | ret =>
        obtain ⟨hx3, hi3⟩ := hp
        obtain ⟨hr, hl4, hk4, hx4, hx5⟩ := fin (some .ret) W3 hx3
        exact ⟨_, _, hr, false, rfl, hx5, hIx _ _ _ hi3 (hx4.mono (fun _ h => Or.inr h)), hl4, hk4, hxw.trans (hx5.mono (fun _ h => h.elim (fun h => Or.inl (Or.inl h)) Or.inr))⟩
      | exit id => exact hp.elim
      | goto t => exact hp.elim
      | panic ch => exact hp.elim
      | outgrown => exact hp.elim
    · rintro e W2 ⟨rfl, _, h⟩
      have fin2 : ∀ W2, Ext (fun k => (X k ∨ k = Bs) ∨ k = w.heap.size + 1) W1 W2 → ∀ o, Ext (fun k => X k ∨ k = Bs) w (W2.putObj (w.heap.size + 1) o) := fun W2 h2 o =>
        hx1.mono (Y := fun k => X k ∨ k = Bs) (fun _ h => h.elim) |>.step (h2.putObj (Or.inr rfl) o) (fun i hi hh => hh.elim id (fun h => by omega))
      rcases h with ⟨hi, hl, hk, hx⟩ | ⟨pre, post, hLp, hi, hl, hk, hx⟩
      · have hlt : w.heap.size + 1 < W2.heap.size := (Array.getElem?_eq_some_iff.1 hl).1
        have hend := run_endLoop (P := Tryd.prog) hl (by rw [hrec]; simp)
        rw [hrec] at hend
        exact ⟨none, _, hend, hdone _ (hI _ _ _ hi (((Ext.refl (fun k => k = Bs ∨ k = w.heap.size + 1) W2).putObj (Or.inr rfl) _))) (fin2 _ hx _) ((World.putObj_heap_other (by omega)).trans hk)⟩
      · have hend := run_endLoop (P := Tryd.prog) hl (by rw [hrec]; simp)
        rw [hrec] at hend
        exact ⟨some .ret, _, hend, wpIn_ret (hstop _ _ _ hLp (hIx _ _ _ hi (((Ext.refl (fun k => k = Bs ∨ k = w.heap.size + 1) W2).putObj (Or.inr rfl) _))) (fin2 _ hx _) ((World.putObj_heap_other (by omega)).trans hk))⟩
end Go.Proofs.YtceiaekkfabeaaaDoor

namespace Go.Proofs.YtceiaekkfabeaaaDoor
open Go.RowKit Go.Shelf Pl
attribute [local go_sem] Oper.semAt_some

section
variable {F : Fence} {nn : Nat} {P : Program} {ops : Array Oper} {rest : List Oper} {o : Oper} {a : Act} {Q : Exit → Act → World → Prop}
/-- append(v, y), y one cell, behind the variadic's box: in a fence. -/
theorem app1In {W : World} (base : Nat) (hgd : o.guard = none) (s x : Operand) (t e : TypeId) (z : Value) (bytes : Nat)
    (ho : o.op = .call { callee := .builtin .append, args := #[s, x], argTypes := #[t, t] })
    (ht : P.underlying t = some (.slice e)) (hinfo : (P.info? e).map (fun i => (i.zero, i.size, i.bytes)) = some (some z, 1, bytes)) (hz : z.cells.size = 1) (hb0 : 0 < bytes)
    (v : Value) (n : Nat) (vs : List Value) (y : Value) (hs : a.eval s = v) {bs : Nat} (hx : a.eval x = .slice (some ⟨bs, 0, none⟩) 1 1) (hbs : bs = W.heap.size) (h1 : y.oneCell' = true)
    (HO : Own base e 1 W v n vs) (hbase : base ≤ W.heap.size) (hl : (n + 1) * bytes ≤ 140737488355328)
    (h : ∀ v1 w1, Own base e 1 w1 v1 (n + 1) (vs ++ [y]) → Ext (fun k => some k = v.ownBlock) W w1 → (v1.ownBlock = v.ownBlock ∨ ∃ b, v1.ownBlock = some b ∧ W.heap.size ≤ b) → (∃ A c, v1 = .slice A (n + 1) c) → wpListIn F nn P ops Q rest (a.put o.dst v1) w1) :
    wpListIn F nn P ops Q (o :: rest) a (W.alloc (.cells #[y] e)) := by
  subst hbs
  obtain ⟨i0, hi, hzz⟩ := Option.map_eq_some_iff.1 hinfo
  simp only [Prod.mk.injEq] at hzz
  obtain ⟨hz0, hz1, hz2⟩ := hzz
  have hlen : n + 1 ≤ 140737488355328 := Nat.le_trans (Nat.le_mul_of_pos_right _ hb0) hl
  refine wpListIn_append_own_at (w := W.alloc (.cells #[y] e)) hgd s x t ho base e i0 z 1 bytes ht hi hz0 hz1 hz2 hz (by omega) v n vs hs (World.ownsRow.alloc HO _) ⟨W.heap.size, 0, none⟩ 1 1 [y] hx rfl
    (cell_one_new W y e) (by simpa using h1) (by simp only [maxLen]; omega) hl (by simp; omega) ?_
  intro v1 w1 hown hg _ hat
  refine h v1 w1 hown ⟨hg.os, hg.tape, hg.output, Nat.le_trans (by simp) hg.size, fun k hk hx => (hg.block k (by simp; omega) hx).trans (Below.heap_alloc _ _ _ hk)⟩ ?_ (Own.slice hown)
  rcases hat with hat | hat
  · exact .inl hat
  · exact .inr ⟨_, hat, by simp⟩
end

/-- The iterator over a set's members, its state in block Bs. -/
def MemOk (s Bs : Nat) (W : World) : Prop := TabW W ∧ W.cell? ⟨Bs, 0, none⟩ = some (.int .u64 (s : Int)) ∧ W.frozen? ⟨Bs, 0, none⟩ = false
theorem MemOk.ext {s Bs : Nat} (X : Nat → Prop) (W W' : World) (h : MemOk s Bs W) (hx : Ext X W W') (hB : ¬ X Bs) (h0 : ¬ X 0) : MemOk s Bs W' :=
  ⟨h.1.ext hx h0, hx.cell hB h.2.1, (hx.frozen (p := ⟨Bs, 0, none⟩) hB (World.block_lt_of_cell? W _ h.2.1)).trans h.2.2⟩
theorem members_iter {s Bs : Nat} (hs : s < 4294967296) (hB0 : Bs ≠ 0) : IterAt 90 #[.pointer (some ⟨Bs, 0, none⟩)] Bs (membersL s) (MemOk s Bs) :=
  fun l J Jx X hX0 hXB hJ hY W hok h0 => members1_in l Bs s hs J Jx X hX0 hXB hB0 hJ hY W hok.1 hok.2.1 hok.2.2 h0

theorem members_any (s : Int) (w : World) :
    Calls Tryd.prog 77 #[.int .u64 s] w fun e w' => e = .returned (.func (.func 90) #[] #[.pointer (some ⟨w.heap.size, 0, none⟩)]) ∧ w' = w.alloc (.cells #[.int .u64 s] 65) := by
  go_enter Tryd.func77, Tryd.ntmps77
  go_wp2
  go_ret
  exact ⟨rfl, rfl⟩
theorem enters90 : ∀ args w, (callFunc 90 args).run Tryd.prog w = .ok (.enter 90 args) w := fun l w => by kernel_rfl

/-- What a box of numbers holds: a row of one's own. -/
def BoxI (B base : Nat) (xs : List Int) (W : World) : Prop := ∃ v, W.cell? ⟨B, 0, none⟩ = some v ∧ W.frozen? ⟨B, 0, none⟩ = false ∧ Own base 3 1 W v xs.length (xs.map (.int .i64))
theorem BoxI.ext {B base : Nat} {xs : List Int} {X : Nat → Prop} {W W' : World} (h : BoxI B base xs W) (hx : Ext X W W') (hB : ¬ X B) (hb : ∀ k, base ≤ k → ¬ X k) : BoxI B base xs W' := by
  obtain ⟨v, h1, h2, h3⟩ := h
  exact ⟨v, hx.cell hB h1, (hx.frozen (p := ⟨B, 0, none⟩) hB (World.block_lt_of_cell? W _ h1)).trans h2, h3.ext hx (fun k hk => hb k (h3.ge k hk).1)⟩

set_option maxHeartbeats 4000000 in
theorem rising_any (s : Nat) (hs : s < 4294967296) (w : World) (hT : TabW w) :
    Calls Tryd.prog 79 #[.int .u64 (s : Int)] w fun e w' => ∃ v', e = .returned v' ∧ IntsR .i64 (fun k => w.heap.size ≤ k) w' v' (membersL s) ∧ Ext No w w' := by
  refine (callsIn_wide (n := 0)).1 ?_
  refine callsIn_of_wp_marks Tryd.func79 rfl trivial ?_ rfl
  simp only [Tryd.ntmps79, List.size_toArray, List.length_cons, List.length_nil, Nat.reduceAdd, Nat.reduceSub, Array.replicate_succ, Array.replicate_zero, List.push_toArray, List.append_toArray, List.nil_append, List.cons_append]
  gi_wp2_with (refine ⟨trivial, rfl, ?_⟩; gi_at_call 77; refine (callsIn_wide.2 (members_any _ _)).mono ?_; rintro e w1 ⟨rfl, rfl⟩)
  have hT2 : TabW ((w.alloc (.cells #[.slice none 0 0] 28)).alloc (.cells #[.int .u64 (s : Int)] 65)) := hT.no (((Ext.refl No w).alloc _).alloc _)
  have hpos : 0 < w.heap.size := World.block_lt_of_cell? w _ (hT 0 (by decide))
  refine wpIn_range_ext (gf := 90) (lb := #[.pointer (some ⟨w.heap.size + 1, 0, none⟩)]) (Bs := w.heap.size + 1) (Ok := MemOk s (w.heap.size + 1)) rfl enters90 (members_iter hs (by omega)) MemOk.ext rfl
    (fun pre W => BoxI w.heap.size (w.heap.size + 4) pre W) (fun _ _ => False) (fun k => k = w.heap.size ∨ w.heap.size + 4 ≤ k) (by omega) (by omega) (by simp; omega) (by simp; omega) (by simp) (by omega)
    (fun pre W W' h hx => h.ext hx (by simp; omega) (fun k hk => by simp; omega)) (fun _ _ _ h _ => h.elim) ⟨hT2, by simp [go_sem], by simp [go_sem]⟩ ⟨.slice none 0 0, by simp [go_sem], by simp [go_sem], Own.nil _ _ _ _⟩
    (fun x => { tmps := #[.int .u64 (s : Int), undef, .slice none 0 0, .pointer (some ⟨w.heap.size, 0, none⟩), .int .i64 x, .int .u64 (s : Int), .func (.func 90) #[] #[.pointer (some ⟨w.heap.size + 1, 0, none⟩)], .int .i64 x, undef, undef, undef, undef, undef], defers := [] }) ?assign ?body ?done ?stop
  case assign =>
    intro l x W K hK
    gi_wp2
    exact hK
  case body =>
    rintro l pre x post W hL hI hsz
    have hlen : pre.length ≤ 32 := by have := congrArg List.length hL; simp [membersL] at this; have := membersN_len s; omega
    have hsz' : w.heap.size + 4 ≤ W.heap.size := by simpa using hsz
    obtain ⟨v, hc, hf, ho⟩ := hI
    obtain ⟨A, c, rfl⟩ := Own.slice ho
    have HO := Sid.mk ho
    clear ho
    gi_wp2_with (gi_at_builtin; refine app1In (w.heap.size + 4) rfl (.tmp 8) (.tmp 10) 28 3 (.int .i64 0) 8 rfl Tryd.underlying28 info3 rfl (by decide) (.slice A pre.length c) _ _ _ rfl rfl (by simp) rfl HO.out hsz' (by omega) ?_; intro v1 w1 ho1 hx1 hb1 hs1; obtain ⟨A1, c1, rfl⟩ := hs1; have hne := fun k (hk : some k = (Value.slice A pre.length c).ownBlock) => (HO.out.ge k hk.symm).1; have hc1 := hx1.cell (p := ⟨w.heap.size, 0, none⟩) (fun h => by have := hne _ h; simp at this; omega) hc; have hf1 := (hx1.frozen (p := ⟨w.heap.size, 0, none⟩) (fun h => by have := hne _ h; simp at this; omega) (by simp; omega)).trans hf; have HX1 := Sid.mk hx1; have HO1 := Sid.mk ho1; have HNE := Sid.mk hne; clear hx1 ho1 hb1 hne)
    have hx2 : Ext (fun k => k = w.heap.size) w1 (w1.setCell ⟨w.heap.size, 0, none⟩ (.slice A1 (pre.length + 1) c1)) := (Ext.refl (fun k => k = w.heap.size) w1).setCell (p := ⟨w.heap.size, 0, none⟩) (Or.inl rfl) _
    refine ⟨(HX1.out.mono (fun k hk => Or.inr (HNE.out k hk))).trans (hx2.mono (fun _ h => Or.inl h)), .slice A1 (pre.length + 1) c1, World.cell?_setCell_same' _ _ _ (by rw [hc1]; rfl), by simp [hf1], ?_⟩
    rw [List.map_append, List.length_append]
    exact HO1.out.ext hx2 (fun k hk h => by have := (HO1.out.ge k hk).1; omega)
  case done =>
    intro W hI hx hK
    obtain ⟨v, hc, hf, ho⟩ := hI
    obtain ⟨A, c, rfl⟩ := Own.slice ho
    have HO := Sid.mk ho
    have HX := Sid.mk hx
    clear ho hx
    gi_wp2
    refine ⟨by simp, .inl ⟨_, _, rfl, run_takeDeferred hK, ?_⟩⟩
    have hx2 : Ext (fun k => k = w.heap.size + 2) W (W.putObj ((w.alloc (.cells #[.slice none 0 0] 28)).alloc (.cells #[.int .u64 (s : Int)] 65)).heap.size (.deferred none)) := (Ext.refl (fun k => k = w.heap.size + 2) W).putObj (by simp) _
    refine ⟨_, results_tmp rfl _ _ _, _, rfl, ints_own (HO.out.ext hx2 (fun k hk h => by have := (HO.out.ge k hk).1; omega)) (by simp [membersL]; have := membersN_len s; omega) (fun k hk => by have := (HO.out.ge k hk).1; omega), ?_⟩
    exact (((Ext.refl No w).alloc _).alloc _).step (HX.out.step hx2 (fun i hi h => by simp at hi; omega)) (fun i hi h => by omega)
  case stop =>
    intro pre post W _ h
    exact h.elim
end Go.Proofs.YtceiaekkfabeaaaDoor

/- hyper's each: the iterator over a set's members, its state in a cell. -/
namespace Go.Proofs.YtceiaekkfabeaaaDoor
open Go.RowKit Go.Shelf Pl
attribute [local go_sem] Oper.semAt_some

set_option maxHeartbeats 4000000 in
theorem each1_in (l Bs s : Nat) (hs : s < 4294967296) (J Jx : List Int → World → Prop) (X : Nat → Prop) (hX0 : ¬ X 0) (hXB : ¬ X Bs) (hB0 : Bs ≠ 0)
    (hJ : ∀ pre W W', J pre W → Ext (fun k => k = Bs) W W' → J pre W')
    (hY : ∀ pre x post W, membersL s = pre ++ x :: post → J pre W → YieldsAt l x W fun b W' => Ext X W W' ∧ if b then J (pre ++ [x]) W' else Jx (pre ++ [x]) W')
    (W : World) (hT : TabW W) (hB : W.cell? ⟨Bs, 0, none⟩ = some (.int .u64 (s : Int))) (hBf : W.frozen? ⟨Bs, 0, none⟩ = false) (h0 : J [] W) :
    CallsIn Fence.wide 0 Tryd.prog 86 #[.func (.yield l) #[] #[], .pointer (some ⟨Bs, 0, none⟩)] W fun e W' => e = .returned (.tuple #[]) ∧ Ext (fun k => X k ∨ k = Bs) W W' ∧ (J (membersL s) W' ∨ ∃ pre post, membersL s = pre ++ post ∧ Jx pre W') := by
  refine callsIn_of_wp Tryd.func86 rfl trivial ?_ rfl
  simp only [Tryd.ntmps86, List.size_toArray, List.length_cons, List.length_nil, Nat.reduceAdd, Nat.reduceSub, Array.replicate_succ, Array.replicate_zero, List.push_toArray, List.append_toArray, List.nil_append, List.cons_append]
  gi_wp2
  gi_loopw [3] (fun v wr => ∃ (pre : List Int) (c : Nat), c < 4294967296 ∧ Sid (membersL s = pre ++ membersL c) ∧ wr.cell? ⟨Bs, 0, none⟩ = some (.int .u64 (c : Int)) ∧ wr.frozen? ⟨Bs, 0, none⟩ = false ∧ Sid (J pre wr) ∧ Sid (TabW wr) ∧ Sid (Ext (fun k => X k ∨ k = Bs) W wr)) (fun _ wr => leftIn wr Bs)
  case atStart => exact ⟨[], s, hs, ⟨rfl⟩, hB, hBf, ⟨h0⟩, ⟨hT⟩, ⟨Ext.refl _ _⟩⟩
  case round =>
    obtain ⟨pre, c, hc, HM, hcell, hfr, HJ, HT, HX⟩ := hrel
    by_cases hz : c = 0
    · subst hz
      gi_wp2
      go_end0
      exact ⟨rfl, HX.out, .inl (by have h1 := HM.out; have h2 := HJ.out; rw [membersL_zero, List.append_nil] at h1; rwa [h1])⟩
    · have hne : ((c : Int) != 0) = true := by simp; omega
      have hsp : membersL s = pre ++ (Lib.ctz 64 c : Int) :: membersL (sdn c (2 ^ Lib.ctz 64 c)) := by rw [HM.out, membersL_step hz hc]
      have HSP := Sid.mk hsp
      obtain ⟨fn, tmps, assign, body, hy, hR⟩ := hY pre _ _ wr hsp HJ.out
      have hlt := ctz_lt hz hc
      have hbit : bits .andNot .u64 (c : Int) (((2 ^ Lib.ctz 64 c : Nat)) : Int) = ((sdn c (2 ^ Lib.ctz 64 c) : Nat) : Int) := andNot_u64 hc (pow_lt_32 hlt)
      have HR := Sid.mk hR
      clear hR hsp hY
      generalize hk : Lib.ctz 64 c = k at *
      gi_wp2_with (refine ⟨trivial, rfl, ?_⟩; gi_at_call 87; refine (callsIn_wide.2 (tz_any c hz hc _ HT.out)).mono ?_; rintro e w1 ⟨rfl, rfl⟩; rw [hk])
      refine ⟨rfl, HR.out.mono ?_⟩
      rintro e W3 ⟨b, rfl, hx3, hb⟩
      have hcell3 := hx3.cell (p := ⟨Bs, 0, none⟩) hXB hcell
      have hfr3 : W3.frozen? ⟨Bs, 0, none⟩ = false := (hx3.frozen (p := ⟨Bs, 0, none⟩) hXB (World.block_lt_of_cell? wr _ hcell)).trans hfr
      have hcell0 := hcell
      have HX3 := Sid.mk hx3
      have HB3 := Sid.mk hb
      clear hx3 hb HR hcell hfr
      cases b with
      | true =>
        gi_wp2
        refine wpIn_wide.2 ?_
        go_region
        all_goals go_wp2
        all_goals rw [wrap_pow hlt, hbit]
        all_goals
          have hx4 : Ext (fun i => i = Bs) W3 (W3.setCell ⟨Bs, 0, none⟩ (.int .u64 ((sdn c (2 ^ k) : Nat) : Int))).drew := ((Ext.refl (fun i => i = Bs) W3).setCell (p := ⟨Bs, 0, none⟩) (Or.inl rfl) _).drew
          have hc4 : (W3.setCell ⟨Bs, 0, none⟩ (.int .u64 ((sdn c (2 ^ k) : Nat) : Int))).drew.cell? ⟨Bs, 0, none⟩ = some (.int .u64 ((sdn c (2 ^ k) : Nat) : Int)) := World.cell?_setCell_same' _ _ _ (by rw [hcell3]; rfl)
          have h1 := HB3.out
          simp only [if_true] at h1
          have hlen : (membersN c).length = (membersN (sdn c (2 ^ k))).length + 1 := by rw [← hk, ← List.length_cons (a := Lib.ctz 64 c), ← membersN_step hz hc]
          refine ⟨⟨pre ++ [(k : Int)], sdn c (2 ^ k), sdn_lt' hc, ⟨by rw [HSP.out, List.append_assoc]; rfl⟩, hc4, by simp [hfr3], ⟨hJ _ _ _ h1 hx4⟩, ⟨(HT.out.ext HX3.out hX0).ext hx4 (fun h => hB0 h.symm)⟩, ⟨(HX.out.trans (HX3.out.mono (fun _ h => Or.inl h))).trans (hx4.mono (fun _ h => Or.inr h))⟩⟩, ?_⟩
          rw [leftIn_of hc4, leftIn_of hcell0, hlen]; omega
      | false =>
        gi_wp2
        refine bodyPost_ret (results_none rfl _ _ _) rfl ?_
        have h1 := HB3.out
        simp only [Bool.false_eq_true, if_false] at h1
        exact ⟨rfl, HX.out.trans (HX3.out.mono (fun _ h => Or.inl h)), .inr ⟨pre ++ [(k : Int)], _, by rw [HSP.out, List.append_assoc]; rfl, h1⟩⟩

theorem each_iter {s Bs : Nat} (hs : s < 4294967296) (hB0 : Bs ≠ 0) : IterAt 86 #[.pointer (some ⟨Bs, 0, none⟩)] Bs (membersL s) (MemOk s Bs) :=
  fun l J Jx X hX0 hXB hJ hY W hok h0 => each1_in l Bs s hs J Jx X hX0 hXB hB0 hJ hY W hok.1 hok.2.1 hok.2.2 h0

theorem each_any (s : Int) (w : World) :
    Calls Tryd.prog 68 #[.int .u64 s] w fun e w' => e = .returned (.func (.func 86) #[] #[.pointer (some ⟨w.heap.size, 0, none⟩)]) ∧ w' = w.alloc (.cells #[.int .u64 s] 96) := by
  go_enter Tryd.func68, Tryd.ntmps68
  go_wp2
  go_ret
  exact ⟨rfl, rfl⟩
theorem enters86 : ∀ args w, (callFunc 86 args).run Tryd.prog w = .ok (.enter 86 args) w := fun l w => by kernel_rfl


set_option maxHeartbeats 4000000 in
theorem appendSeq_any (s Bs : Nat) (hs : s < 4294967296) (hB0 : Bs ≠ 0) (w : World) (hM : MemOk s Bs w) :
    Calls Tryd.prog 89 #[.slice none 0 0, .func (.func 86) #[] #[.pointer (some ⟨Bs, 0, none⟩)]] w fun e w' => ∃ v', e = .returned v' ∧ IntsR .i64 (fun k => w.heap.size ≤ k) w' v' (membersL s) ∧ Ext (fun k => k = Bs) w w' := by
  refine (callsIn_wide (n := 0)).1 ?_
  refine callsIn_of_wp_marks Tryd.func89 rfl trivial ?_ rfl
  simp only [Tryd.ntmps89, List.size_toArray, List.length_cons, List.length_nil, Nat.reduceAdd, Nat.reduceSub, Array.replicate_succ, Array.replicate_zero, List.push_toArray, List.append_toArray, List.nil_append, List.cons_append]
  gi_wp2
  have hBl : Bs < w.heap.size := World.block_lt_of_cell? w _ hM.2.1
  have hpos : 0 < w.heap.size := by omega
  have hM2 : MemOk s Bs (w.alloc (.cells #[.slice none 0 0] 28)) := MemOk.ext No _ _ hM ((Ext.refl No w).alloc _) (fun h => h) (fun h => h)
  refine wpIn_range_ext (gf := 86) (lb := #[.pointer (some ⟨Bs, 0, none⟩)]) (Bs := Bs) (Ok := MemOk s Bs) rfl enters86 (each_iter hs hB0) MemOk.ext rfl
    (fun pre W => BoxI w.heap.size (w.heap.size + 3) pre W) (fun _ _ => False) (fun k => k = w.heap.size ∨ w.heap.size + 3 ≤ k) (by omega) (by omega) (by simp <;> omega) (by simp <;> omega) (by simp <;> omega) hB0
    (fun pre W W' h hx => h.ext hx (by simp; omega) (fun k hk => by simp; omega)) (fun _ _ _ h _ => h.elim) hM2 ⟨.slice none 0 0, by simp [go_sem], by simp [go_sem], Own.nil _ _ _ _⟩
    (fun x => { tmps := #[.slice none 0 0, .func (.func 86) #[] #[.pointer (some ⟨Bs, 0, none⟩)], .pointer (some ⟨w.heap.size, 0, none⟩), undef, .slice none 0 0, .int .i64 x, .func (.func 86) #[] #[.pointer (some ⟨Bs, 0, none⟩)], .int .i64 x, undef, undef, undef, undef, undef], defers := [] }) ?assign ?body ?done ?stop
  case assign =>
    intro l x W K hK
    gi_wp2
    exact hK
  case body =>
    rintro l pre x post W hL hI hsz
    have hlen : pre.length ≤ 32 := by have := congrArg List.length hL; simp [membersL] at this; have := membersN_len s; omega
    have hsz' : w.heap.size + 3 ≤ W.heap.size := by simpa using hsz
    obtain ⟨v, hc, hf, ho⟩ := hI
    obtain ⟨A, c, rfl⟩ := Own.slice ho
    have HO := Sid.mk ho
    clear ho
    gi_wp2_with (gi_at_builtin; refine app1In (w.heap.size + 3) rfl (.tmp 8) (.tmp 10) 28 3 (.int .i64 0) 8 rfl Tryd.underlying28 info3 rfl (by decide) (.slice A pre.length c) _ _ _ rfl rfl (by simp) rfl HO.out hsz' (by omega) ?_; intro v1 w1 ho1 hx1 hb1 hs1; obtain ⟨A1, c1, rfl⟩ := hs1; have hne := fun k (hk : some k = (Value.slice A pre.length c).ownBlock) => (HO.out.ge k hk.symm).1; have hc1 := hx1.cell (p := ⟨w.heap.size, 0, none⟩) (fun h => by have := hne _ h; simp at this; omega) hc; have hf1 := (hx1.frozen (p := ⟨w.heap.size, 0, none⟩) (fun h => by have := hne _ h; simp at this; omega) (by simp; omega)).trans hf; have HX1 := Sid.mk hx1; have HO1 := Sid.mk ho1; have HNE := Sid.mk hne; clear hx1 ho1 hb1 hne)
    have hx2 : Ext (fun k => k = w.heap.size) w1 (w1.setCell ⟨w.heap.size, 0, none⟩ (.slice A1 (pre.length + 1) c1)) := (Ext.refl (fun k => k = w.heap.size) w1).setCell (p := ⟨w.heap.size, 0, none⟩) (Or.inl rfl) _
    refine ⟨(HX1.out.mono (fun k hk => Or.inr (HNE.out k hk))).trans (hx2.mono (fun _ h => Or.inl h)), .slice A1 (pre.length + 1) c1, World.cell?_setCell_same' _ _ _ (by rw [hc1]; rfl), by simp [hf1], ?_⟩
    rw [List.map_append, List.length_append]
    exact HO1.out.ext hx2 (fun k hk h => by have := (HO1.out.ge k hk).1; omega)
  case done =>
    intro W hI hx hK
    obtain ⟨v, hc, hf, ho⟩ := hI
    obtain ⟨A, c, rfl⟩ := Own.slice ho
    have HO := Sid.mk ho
    have HX := Sid.mk hx
    clear ho hx
    gi_wp2
    refine ⟨by simp, .inl ⟨_, _, rfl, run_takeDeferred hK, ?_⟩⟩
    have hx2 : Ext (fun k => k = w.heap.size + 1) W (W.putObj (w.alloc (.cells #[.slice none 0 0] 28)).heap.size (.deferred none)) := (Ext.refl (fun k => k = w.heap.size + 1) W).putObj (by simp) _
    refine ⟨_, results_tmp rfl _ _ _, _, rfl, ints_own (HO.out.ext hx2 (fun k hk h => by have := (HO.out.ge k hk).1; omega)) (by simp [membersL]; have := membersN_len s; omega) (fun k hk => by have := (HO.out.ge k hk).1; omega), ?_⟩
    exact ((Ext.refl (fun k => k = Bs) w).alloc _).step (HX.out.step hx2 (fun i hi h => by simp at hi; omega)) (fun i hi h => by omega)
  case stop =>
    intro pre post W _ h
    exact h.elim

theorem collect_any (s Bs : Nat) (hs : s < 4294967296) (hB0 : Bs ≠ 0) (w : World) (hM : MemOk s Bs w) :
    Calls Tryd.prog 75 #[.func (.func 86) #[] #[.pointer (some ⟨Bs, 0, none⟩)]] w fun e w' => ∃ v', e = .returned v' ∧ IntsR .i64 (fun k => w.heap.size ≤ k) w' v' (membersL s) ∧ Ext (fun k => k = Bs) w w' := by
  have HM := Sid.mk hM
  clear hM
  go_enter Tryd.func75, Tryd.ntmps75
  go_wp2_with (go_at_call 89; refine (appendSeq_any s Bs hs hB0 _ HM.out).mono ?_; rintro e w1 ⟨v', rfl, hv, hx⟩; obtain ⟨A, c, rfl, _⟩ := hv.at; have HV := Sid.mk hv; have HX := Sid.mk hx; clear hv hx)
  go_ret
  exact ⟨_, rfl, HV.out, HX.out⟩
end Go.Proofs.YtceiaekkfabeaaaDoor

/- Orders of a part's vertices, plainly. -/
namespace Go.Proofs.YtceiaekkfabeaaaDoor
open Go.RowKit Go.Shelf Pl

theorem findSome_congr' {α β : Type} {f g : α → Option β} : ∀ {L : List α}, (∀ x ∈ L, f x = g x) → L.findSome? f = L.findSome? g
  | [], _ => rfl
  | x :: L, h => by rw [List.findSome?_cons, List.findSome?_cons, h x (List.mem_cons_self), findSome_congr' (fun y hy => h y (List.mem_cons_of_mem _ hy))]
/-- How many edges a cover has. -/
def covLen (S : List Nat) (x : Nat) : Nat := ((covO S x).getD []).length
/-- The first order from what is gone to the whole part. -/
def goN (S : List Nat) (part : Nat) (most : Int) : Nat → Nat → Option (List Int)
  | 0, gone => if gone = part then some [] else none
  | f + 1, gone => if gone = part then some [] else (membersL (sdn part gone)).findSome? fun x => if most < (covLen S (arF S x.toNat gone) : Int) then none else (goN S part most f (gone ||| 2 ^ x.toNat)).map (x :: ·)
def goV (S : List Nat) (part : Nat) (most : Int) (f gone : Nat) (x : Int) : Option (List Int) := if most < (covLen S (arF S x.toNat gone) : Int) then none else (goN S part most f (gone ||| 2 ^ x.toNat)).map (x :: ·)
theorem goN_zero (S : List Nat) (part : Nat) (most : Int) (gone : Nat) : goN S part most 0 gone = if gone = part then some [] else none := rfl
theorem goN_succ (S : List Nat) (part : Nat) (most : Int) (f gone : Nat) : goN S part most (f + 1) gone = if gone = part then some [] else (membersL (sdn part gone)).findSome? (goV S part most f gone) := rfl

attribute [irreducible] goN

theorem sdn_or (a b c : Nat) : sdn a (b ||| c) = sdn (sdn a b) c := by
  apply Nat.eq_of_testBit_eq
  intro i
  simp only [sdn_testBit, Nat.testBit_or, Bool.not_or, Bool.and_assoc]
theorem membersN_nodup (s : Nat) : (membersN s).Nodup := List.Pairwise.filter _ List.nodup_range
theorem membersN_drop {s v : Nat} (hv : v ∈ membersN s) : (membersN (sdn s (2 ^ v))).length + 1 = (membersN s).length := by
  have hp : membersN (sdn s (2 ^ v)) = (membersN s).erase v := by
    rw [(membersN_nodup s).erase_eq_filter, membersN, membersN, List.filter_filter]
    apply List.filter_congr
    intro i _
    rw [sdn_testBit, Nat.testBit_two_pow, Bool.and_comm]
    congr 1
    by_cases h : v = i
    · subst h; simp
    · rw [decide_eq_false h]; simp; omega
  rw [hp, List.length_erase_of_mem hv]
  have := List.length_pos_of_mem hv
  omega
theorem membersL_mem {s : Nat} {x : Int} : x ∈ membersL s ↔ ∃ v : Nat, x = (v : Int) ∧ v ∈ membersN s := by
  simp only [membersL, List.mem_map]
  constructor
  · rintro ⟨v, h1, rfl⟩; exact ⟨v, rfl, h1⟩
  · rintro ⟨v, rfl, h1⟩; exact ⟨v, h1, rfl⟩
/-- More steps than are wanted change nothing. -/
theorem goN_more (S : List Nat) (part : Nat) (most : Int) : ∀ (n gone f : Nat), (membersN (sdn part gone)).length ≤ n → n ≤ f → goN S part most f gone = goN S part most n gone
  | 0, gone, 0, _, _ => rfl
  | 0, gone, f + 1, h, _ => by
    have h0 : membersN (sdn part gone) = [] := List.eq_nil_of_length_eq_zero (by omega)
    rw [goN_succ, goN_zero]
    split
    · rfl
    · simp [membersL, h0]
  | n + 1, gone, 0, _, h => by omega
  | n + 1, gone, f + 1, h, hf => by
    rw [goN_succ, goN_succ]
    split
    · rfl
    · have : ∀ x ∈ membersL (sdn part gone), goV S part most f gone x = goV S part most n gone x := by
        intro x hx
        obtain ⟨v, rfl, hv⟩ := membersL_mem.1 hx
        simp only [goV, Int.toNat_natCast]
        rw [goN_more S part most n (gone ||| 2 ^ v) f (by rw [sdn_or]; have := membersN_drop hv; omega) (by omega)]
      exact findSome_congr' this
/-- The first order from what is gone. -/
def goX (S : List Nat) (part : Nat) (most : Int) (gone : Nat) : Option (List Int) := goN S part most 32 gone
theorem goX_part (S : List Nat) (part : Nat) (most : Int) : goX S part most part = some [] := by rw [goX, goN_succ, if_pos rfl]
/-- What a vertex brings. -/
def goY (S : List Nat) (part : Nat) (most : Int) (gone : Nat) (x : Int) : Option (List Int) := if most < (covLen S (arF S x.toNat gone) : Int) then none else (goX S part most (gone ||| 2 ^ x.toNat)).map (x :: ·)
theorem goX_step {S : List Nat} {part : Nat} {most : Int} {gone : Nat} (h : gone ≠ part) : goX S part most gone = (membersL (sdn part gone)).findSome? (goY S part most gone) := by
  rw [goX, goN_succ, if_neg h]
  have : ∀ x ∈ membersL (sdn part gone), goV S part most 31 gone x = goY S part most gone x := by
    intro x hx
    obtain ⟨v, rfl, hv⟩ := membersL_mem.1 hx
    simp only [goV, goY, goX, Int.toNat_natCast]
    have hd := membersN_drop hv
    have hl := membersN_len (sdn part gone)
    rw [goN_more S part most 31 (gone ||| 2 ^ v) 32 (by rw [sdn_or]; omega) (by omega)]
  exact findSome_congr' this
theorem goN_len {S : List Nat} {part : Nat} {most : Int} : ∀ (f gone : Nat) (l : List Int), goN S part most f gone = some l → l.length ≤ f
  | 0, gone, l, h => by
    rw [goN_zero] at h
    split at h
    · simp at h; subst h; simp
    · simp at h
  | f + 1, gone, l, h => by
    rw [goN_succ] at h
    split at h
    · simp at h; subst h; simp
    · obtain ⟨x, _, hx⟩ := List.exists_of_findSome?_eq_some h
      unfold goV at hx
      split at hx
      · simp at hx
      · simp only [Option.map_eq_some_iff] at hx
        obtain ⟨l', h1, rfl⟩ := hx
        have := goN_len f _ l' h1
        simp; omega
theorem goX_len (S : List Nat) (part : Nat) (most : Int) (gone : Nat) : ((goX S part most gone).getD []).length ≤ 32 := by
  cases h : goX S part most gone with
  | none => simp
  | some l => exact goN_len 32 gone l h
theorem lookE_lt {S : List Nat} (hS : smallS S) (gone : Nat) : ∀ mo : Nat × Nat, mo.1 < 4294967296 → mo.2 < 4294967296 → (lookE S gone mo).1 < 4294967296 ∧ (lookE S gone mo).2 < 4294967296 := by
  induction S with
  | nil => exact fun mo h1 h2 => ⟨h1, h2⟩
  | cons x S ih =>
    intro mo h1 h2
    have hx := hS x (List.mem_cons_self)
    have ih := ih (fun y hy => hS y (List.mem_cons_of_mem _ hy))
    rw [lookE, List.foldl_cons]
    split
    · exact ih _ (or_lt h1 (and_lt hx)) (or_lt h2 hx)
    · exact ih _ h1 h2
theorem lookN_lt {S : List Nat} (hS : smallS S) (gone : Nat) : ∀ (f : Nat) (mo : Nat × Nat), mo.1 < 4294967296 → mo.2 < 4294967296 → (lookN S gone f mo).2 < 4294967296
  | 0, mo, _, h2 => h2
  | f + 1, mo, h1, h2 => by
    obtain ⟨h3, h4⟩ := lookE_lt hS gone mo h1 h2
    rw [lookN]
    split
    · exact h4
    · exact lookN_lt hS gone f _ h3 h4
theorem arF_lt {S : List Nat} (hS : smallS S) {v gone : Nat} (hv : v < 32) : arF S v gone < 4294967296 :=
  or_lt (sdn_lt' (lookN_lt hS gone _ _ (pow_lt_32 hv) (by simp))) (pow_lt_32 hv)

theorem findSome_pre {α β : Type} {f : α → Option β} {pre post : List α} {x : α} {y : β} (h : pre.findSome? f = none) (hx : f x = some y) : (pre ++ x :: post).findSome? f = some y := by
  rw [List.findSome?_append, h, Option.none_or, List.findSome?_cons, hx]
theorem findSome_snoc {α β : Type} {f : α → Option β} {pre : List α} {x : α} (h : pre.findSome? f = none) (hx : f x = none) : (pre ++ [x]).findSome? f = none := by
  rw [List.findSome?_append, h, Option.none_or, List.findSome?_cons, hx]; rfl
end Go.Proofs.YtceiaekkfabeaaaDoor

namespace Go.Proofs.YtceiaekkfabeaaaDoor
open Go.RowKit Go.Shelf Pl

theorem Own.trunc {base e n c : Nat} {w : World} {A : Option Addr} {xs : List Value} {x : Value} (h : Own base e 1 w (.slice A (n + 1) c) (n + 1) (xs ++ [x])) : Own base e 1 w (.slice A n c) n xs := by
  obtain ⟨h1, h2⟩ := h
  have hl : xs.length = n := by simp at h1; exact h1
  rcases h2 with ⟨_, h⟩ | ⟨g, cap, cur, hv, hb, hc, hn, hm, hs, ht⟩
  · omega
  · simp only [Value.slice.injEq] at hv
    obtain ⟨rfl, _, rfl⟩ := hv
    refine ⟨by omega, .inr ⟨g, c, cur, rfl, hb, hc, by omega, hm, hs, ?_⟩⟩
    have e1 : List.take n (List.take ((n + 1) * 1) cur.toList) = List.take n cur.toList := by rw [List.take_take, Nat.min_eq_left (by omega)]
    have e2 : List.take n (xs ++ [x]) = xs := by rw [List.take_append_of_le_length (by omega), List.take_of_length_le (by omega)]
    rw [Nat.mul_one, ← e1, ht, e2]

/-- The search for an order, as it stands: v is what has been taken. -/
structure OrdV (n0 B M : Nat) (many : Int) (es : List (List Int)) (S : List Nat) (part : Nat) (most : Int) (E : Nat → Prop) (pre : List Int) (v : Value) (w : World) : Prop where
  sbox : w.cell? ⟨n0, 0, none⟩ = some (.pointer (some ⟨B, 0, none⟩))
  pbox : w.cell? ⟨n0 + 1, 0, none⟩ = some (.int .u64 (part : Int))
  mbox : w.cell? ⟨n0 + 2, 0, none⟩ = some (.int .i64 most)
  dbox : w.cell? ⟨n0 + 4, 0, none⟩ = some (.map (some (n0 + 3)))
  obox : w.cell? ⟨n0 + 5, 0, none⟩ = some v
  ofro : w.frozen? ⟨n0 + 5, 0, none⟩ = false
  gbox : w.cell? ⟨n0 + 6, 0, none⟩ = some (.func (.func 76) #[] #[.pointer (some ⟨n0 + 1, 0, none⟩), .pointer (some ⟨n0 + 4, 0, none⟩), .pointer (some ⟨n0, 0, none⟩), .pointer (some ⟨n0 + 2, 0, none⟩), .pointer (some ⟨n0 + 5, 0, none⟩), .pointer (some ⟨n0 + 6, 0, none⟩)])
  row : Own (n0 + 7) 3 1 w v pre.length (pre.map (.int .i64))
  known : KnownR (fun k => ¬ E k ∧ v.ownBlock ≠ some k) w M S
  dead : ∃ f, MapF .u64 f w (n0 + 3) ∧ ∀ x u, f x = some u → u = .int .i64 1 ∧ ∃ g : Nat, x = (g : Int) ∧ goX S part most g = none
  search : SearchR (fun k => (k < n0 ∧ k ≠ M) ∧ ¬ E k) w B M many es S
  tab : TabW w
variable {n0 B M : Nat} {many : Int} {es : List (List Int)} {S : List Nat} {part : Nat} {most : Int} {E E' : Nat → Prop} {pre : List Int} {v : Value} {w w' : World}

theorem OrdV.n0_pos (h : OrdV n0 B M many es S part most E pre v w) : 0 < n0 := by have := h.search.pb.1; omega
theorem OrdV.M_lt (h : OrdV n0 B M many es S part most E pre v w) : M < w.heap.size := h.known.lt
theorem OrdV.size (h : OrdV n0 B M many es S part most E pre v w) : n0 + 7 ≤ w.heap.size := World.block_lt_of_cell? w _ h.gbox
theorem OrdV.own (h : OrdV n0 B M many es S part most E pre v w) {k : Nat} (hk : v.ownBlock = some k) : n0 + 7 ≤ k ∧ k < w.heap.size := h.row.ge k hk
theorem OrdV.M_pos (h : OrdV n0 B M many es S part most E pre v w) : M ≠ 0 := by
  rintro rfl
  obtain ⟨f, ⟨es, clock, hb, _⟩, _⟩ := h.known
  have := h.tab 0 (by decide)
  simp [World.cell?, hb] at this

/-- What turns are blocks of others. -/
theorem OrdV.ext {X : Nat → Prop} (h : OrdV n0 B M many es S part most E pre v w) (hx : Ext X w w') (hX : ∀ k, X k → n0 + 7 ≤ k ∧ E k ∧ v.ownBlock ≠ some k) (hMn : M < n0) : OrdV n0 B M many es S part most E pre v w' := by
  have hn : ∀ k, k < n0 + 7 → ¬ X k := fun k hk hh => by have := (hX k hh).1; omega
  obtain ⟨f, hf, hv⟩ := h.dead
  exact ⟨hx.cell (hn _ (by simp)) h.sbox, hx.cell (hn _ (by simp)) h.pbox, hx.cell (hn _ (by simp)) h.mbox, hx.cell (hn _ (by simp)) h.dbox, hx.cell (hn _ (by simp)) h.obox,
    (hx.frozen (p := ⟨n0 + 5, 0, none⟩) (hn _ (by simp)) (World.block_lt_of_cell? w _ h.obox)).trans h.ofro, hx.cell (hn _ (by simp)) h.gbox,
    h.row.ext hx (fun k hk hh => (hX k hh).2.2 hk), h.known.ext hx (hn _ (by omega)) (fun k hk hh => hk.1 (hX k hh).2.1), ⟨f, hf.ext hx (hn _ (by omega)), hv⟩,
    h.search.ext hx (fun k hk => hn _ (by have := hk.1; omega)), h.tab.ext hx (hn _ (by omega))⟩
theorem OrdV.no (h : OrdV n0 B M many es S part most E pre v w) (hx : Ext No w w') (hMn : M < n0) : OrdV n0 B M many es S part most E pre v w' := h.ext hx (fun _ h => h.elim) hMn
theorem OrdV.foreign (h : OrdV n0 B M many es S part most E pre v w) (hE : ∀ k, k < w.heap.size → E' k → E k) : OrdV n0 B M many es S part most E' pre v w :=
  { h with known := h.known.imp (fun k hk hh => ⟨fun he => hh.1 (hE k hk he), hh.2⟩), search := h.search.imp (fun k hk hh => ⟨hh.1, fun he => hh.2 (hE k hk he)⟩) }
/-- A cover was looked for. -/
theorem OrdV.covered (h : OrdV n0 B M many es S part most E pre v w) (hx : Ext (fun k => k = M) w w') (hk : KnownR (fun k => ¬ E k ∧ v.ownBlock ≠ some k) w' M S) (hMn : M < n0) : OrdV n0 B M many es S part most E pre v w' := by
  have hn : ∀ k, n0 ≤ k → ¬ (k = M) := fun k hk hh => by omega
  obtain ⟨f, hf, hv⟩ := h.dead
  exact ⟨hx.cell (hn _ (by simp)) h.sbox, hx.cell (hn _ (by simp)) h.pbox, hx.cell (hn _ (by simp)) h.mbox, hx.cell (hn _ (by simp)) h.dbox, hx.cell (hn _ (by simp)) h.obox,
    (hx.frozen (p := ⟨n0 + 5, 0, none⟩) (hn _ (by simp)) (World.block_lt_of_cell? w _ h.obox)).trans h.ofro, hx.cell (hn _ (by simp)) h.gbox,
    h.row.ext hx (fun k hk hh => by have := (h.own hk).1; omega), hk, ⟨f, hf.ext hx (hn _ (by omega)), hv⟩,
    h.search.ext hx (fun k hk => hk.1.2), h.tab.ext hx (fun hh => h.M_pos hh.symm)⟩
/-- What the covers are looked for with. -/
theorem OrdV.search' (h : OrdV n0 B M many es S part most E pre v w) : SearchR (fun k => ¬ E k ∧ v.ownBlock ≠ some k) w B M many es S :=
  h.search.imp (fun k _ hk => ⟨hk.2, fun ho => by have := (h.own ho).1; have := hk.1; omega⟩)
/-- What has been taken turns: a row of one's own grows, or is cut; it is laid into its box. -/
theorem OrdV.taken {w1 : World} {v1 : Value} {pre1 : List Int} (h : OrdV n0 B M many es S part most E pre v w) (hMn : M < n0) (hx : Ext (fun k => some k = v.ownBlock) w w1) (ho : Own (n0 + 7) 3 1 w1 v1 pre1.length (pre1.map (.int .i64)))
    (hb : v1.ownBlock = v.ownBlock ∨ ∃ b, v1.ownBlock = some b ∧ w.heap.size ≤ b) (hc : v1.cells.size = 1) (hE5 : E (n0 + 5)) :
    OrdV n0 B M many es S part most E pre1 v1 (w1.setCell ⟨n0 + 5, 0, none⟩ v1) := by
  have hx2 : Ext (fun k => k = n0 + 5) w1 (w1.setCell ⟨n0 + 5, 0, none⟩ v1) := (Ext.refl (fun k => k = n0 + 5) w1).setCell (p := ⟨n0 + 5, 0, none⟩) (Or.inl rfl) _
  have hx3 : Ext (fun k => some k = v.ownBlock ∨ k = n0 + 5) w (w1.setCell ⟨n0 + 5, 0, none⟩ v1) := (hx.mono (fun _ h => Or.inl h)).trans (hx2.mono (fun _ h => Or.inr h))
  have hn : ∀ k, k < n0 + 7 → k ≠ n0 + 5 → ¬ (some k = v.ownBlock ∨ k = n0 + 5) := fun k hk h5 hh => by
    rcases hh with hh | hh
    · have := (h.own hh.symm).1; omega
    · exact h5 hh
  have hn1 : ∀ k, k < n0 + 7 → ¬ (some k = v.ownBlock) := fun k hk hh => by have := (h.own hh.symm).1; omega
  obtain ⟨f, hf, hv⟩ := h.dead
  have hc1 : w1.cell? ⟨n0 + 5, 0, none⟩ = some v := hx.cell (hn1 _ (by simp)) h.obox
  have hf1 : w1.frozen? ⟨n0 + 5, 0, none⟩ = false := (hx.frozen (p := ⟨n0 + 5, 0, none⟩) (hn1 _ (by simp)) (World.block_lt_of_cell? w _ h.obox)).trans h.ofro
  refine ⟨hx3.cell (hn _ (by simp) (by simp)) h.sbox, hx3.cell (hn _ (by simp) (by simp)) h.pbox, hx3.cell (hn _ (by simp) (by simp)) h.mbox, hx3.cell (hn _ (by simp) (by simp)) h.dbox, World.cell?_setCell_same' _ _ _ (by rw [hc1]; rfl),
    by simp [hf1], hx3.cell (hn _ (by simp) (by simp)) h.gbox, ho.ext hx2 (fun k hk hh => by have := (ho.ge k hk).1; omega), ?_, ⟨f, hf.ext hx3 (hn _ (by omega) (by omega)), hv⟩,
    h.search.ext hx3 (fun k hk => hn _ (by have := hk.1; omega) (by have := hk.1; omega)), h.tab.ext hx3 (hn _ (by have := h.n0_pos; omega) (by have := h.n0_pos; omega))⟩
  refine ((h.known.imp (P' := fun k => (¬ E k ∧ v1.ownBlock ≠ some k) ∧ v.ownBlock ≠ some k) (fun k hk hp => ⟨⟨hp.1, fun hh => ?_⟩, hp.2⟩)).ext hx3 (hn _ (by omega) (by omega)) (fun k hk hh => ?_)).imp (fun k _ hp => hp.1)
  · rcases hb with hb | ⟨b, hb, hbs⟩
    · exact hp.2 (hb ▸ hh)
    · rw [hb, Option.some.injEq] at hh; omega
  · rcases hh with hh | hh
    · exact hk.2 hh.symm
    · exact hk.1.1 (hh ▸ hE5)
/-- It is marked that nothing comes of what is gone. -/
theorem OrdV.marked (h : OrdV n0 B M many es S part most E pre v w) (hMn : M < n0) {gone : Nat} (hg : goX S part most gone = none) (hE : E (n0 + 3)) :
    ∃ w', (Instr.mapUpdate 112 (.map (some (n0 + 3))) (.int .u64 (gone : Int)) (.int .i64 1)).run Tryd.prog w = .ok () w' ∧ OrdV n0 B M many es S part most E pre v w' ∧ Ext (fun k => k = n0 + 3) w w' := by
  obtain ⟨f, hf, hv⟩ := h.dead
  obtain ⟨w', h1, h2, hx, _⟩ := hf.update Tryd.underlying112 Tryd.underlying65 (gone : Int) (.int .i64 1)
  have hn : ∀ k, k ≠ n0 + 3 → ¬ (k = n0 + 3) := fun k hk => hk
  refine ⟨w', h1, ⟨hx.cell (by simp) h.sbox, hx.cell (by simp) h.pbox, hx.cell (by simp) h.mbox, hx.cell (by simp) h.dbox, hx.cell (by simp) h.obox,
    (hx.frozen (p := ⟨n0 + 5, 0, none⟩) (by simp) (World.block_lt_of_cell? w _ h.obox)).trans h.ofro, hx.cell (by simp) h.gbox,
    h.row.ext hx (fun k hk hh => by have := (h.own hk).1; omega), h.known.ext hx (by omega) (fun k hk hh => hk.1 (hh ▸ hE)), ⟨_, h2, fun x u hu => ?_⟩,
    h.search.ext hx (fun k hk => by have := hk.1; omega), h.tab.ext hx (by omega)⟩, hx⟩
  by_cases hxg : x = (gone : Int)
  · simp only [upd, hxg, if_true, Option.some.injEq] at hu
    exact ⟨hu.symm, gone, hxg, hg⟩
  · simp only [upd, hxg, if_false] at hu
    exact hv x u hu
end Go.Proofs.YtceiaekkfabeaaaDoor

namespace Go.Proofs.YtceiaekkfabeaaaDoor
open Go.RowKit Go.Shelf Pl

/-- What the search for an order has answered. -/
def GoPost (n0 B M : Nat) (many : Int) (es : List (List Int)) (S : List Nat) (part : Nat) (most : Int) (r : Option (List Int)) (E : Nat → Prop) (pre : List Int) (v : Value) (w : World) (e : Ending) (w' : World) : Prop :=
  ∃ v', Ext (fun k => k = M ∨ k = n0 + 3 ∨ k = n0 + 5 ∨ some k = v.ownBlock) w w' ∧ (v'.ownBlock = v.ownBlock ∨ ∃ b, v'.ownBlock = some b ∧ w.heap.size ≤ b) ∧
    match r with
    | some path => e = .returned (.bool true) ∧ OrdV n0 B M many es S part most E (pre ++ path) v' w'
    | none => e = .returned (.bool false) ∧ OrdV n0 B M many es S part most E pre v' w'

theorem GoPost.fact {n0 B M : Nat} {many : Int} {es : List (List Int)} {S : List Nat} {part : Nat} {most : Int} {r : Option (List Int)} {E : Nat → Prop} {pre : List Int} {v : Value} {w w' : World} {e : Ending} (h : GoPost n0 B M many es S part most r E pre v w e w') :
    ∃ b v', e = .returned (.bool b) ∧ Ext (fun k => k = M ∨ k = n0 + 3 ∨ k = n0 + 5 ∨ some k = v.ownBlock) w w' ∧ (v'.ownBlock = v.ownBlock ∨ ∃ b, v'.ownBlock = some b ∧ w.heap.size ≤ b) ∧
      (b = true → ∃ path, r = some path ∧ OrdV n0 B M many es S part most E (pre ++ path) v' w') ∧ (b = false → r = none ∧ OrdV n0 B M many es S part most E pre v' w') := by
  obtain ⟨v', hx, hb, hm⟩ := h
  cases r with
  | some path =>
    obtain ⟨rfl, ho⟩ := hm
    exact ⟨true, v', rfl, hx, hb, fun _ => ⟨path, rfl, ho⟩, fun h => by cases h⟩
  | none =>
    obtain ⟨rfl, ho⟩ := hm
    exact ⟨false, v', rfl, hx, hb, fun h => (by cases h), fun _ => ⟨rfl, ho⟩⟩

/-- A row's block is the elder's, or a newer one. -/
def From (z : Nat) (v v' : Value) : Prop := v'.ownBlock = v.ownBlock ∨ ∃ b, v'.ownBlock = some b ∧ z ≤ b
theorem From.trans {z : Nat} {a b c : Value} (h : From z a b) (k : From z b c) : From z a c := by
  rcases k with k | k
  · rcases h with h | ⟨x, h, hx⟩
    · exact Or.inl (k.trans h)
    · exact Or.inr ⟨x, k.trans h, hx⟩
  · exact Or.inr k
theorem From.mono {z z' : Nat} {a b : Value} (h : From z a b) (hz : z' ≤ z) : From z' a b := by
  rcases h with h | ⟨x, h, hx⟩
  · exact Or.inl h
  · exact Or.inr ⟨x, h, Nat.le_trans hz hx⟩
theorem From.block {z k : Nat} {a b : Value} (h : From z a b) (hk : some k = b.ownBlock) : some k = a.ownBlock ∨ z ≤ k := by
  rcases h with h | ⟨x, h, hx⟩
  · exact Or.inl (hk.trans h)
  · rw [h, Option.some.injEq] at hk; exact Or.inr (by omega)
theorem Own.cap {base e n c : Nat} {w : World} {A : Option Addr} {xs : List Value} (h : Own base e 1 w (.slice A n c) n xs) : n ≤ c ∧ (0 < n → ∃ g, A = some ⟨g, 0, none⟩) := by
  rcases h.2 with ⟨hv, hn⟩ | ⟨g, cap, cur, hv, hb, hc, hn, _⟩
  · simp only [Value.slice.injEq] at hv; omega
  · simp only [Value.slice.injEq] at hv
    obtain ⟨rfl, _, rfl⟩ := hv
    exact ⟨hn, fun _ => ⟨g, rfl⟩⟩

/-- The closure's arguments. -/
abbrev goArgs (n0 : Nat) (gone : Int) : Array Value := #[.int .u64 gone, .pointer (some ⟨n0 + 1, 0, none⟩), .pointer (some ⟨n0 + 4, 0, none⟩), .pointer (some ⟨n0, 0, none⟩), .pointer (some ⟨n0 + 2, 0, none⟩), .pointer (some ⟨n0 + 5, 0, none⟩), .pointer (some ⟨n0 + 6, 0, none⟩)]

variable {n0 B M : Nat} {many : Int} {es : List (List Int)} {S : List Nat} {part : Nat} {most : Int} {E : Nat → Prop} {pre : List Int} {v : Value} {w : World}
set_option maxHeartbeats 4000000 in
set_option maxRecDepth 100000 in
theorem goes_done (h : OrdV n0 B M many es S part most E pre v w) (hMn : M < n0) :
    Calls Tryd.prog 76 (goArgs n0 part) w (GoPost n0 B M many es S part most (some []) E pre v w) := by
  have hp : ∀ a b, ((w.alloc a).alloc b).cell? ⟨n0 + 1, 0, none⟩ = some (.int .u64 (part : Int)) := fun a b => (((Ext.refl No w).alloc a).alloc b).no h.pbox
  have H := Sid.mk h
  clear h
  go_enter Tryd.func76, Tryd.ntmps76
  go_wp2
  refine ⟨rfl, .bool true, by simp [results, Tryd.results76, go_sem], v, (((Ext.refl No w).alloc _).alloc _).mono (fun _ h => h.elim), Or.inl rfl, rfl, ?_⟩
  rw [List.append_nil]
  exact H.out.no (((Ext.refl No w).alloc _).alloc _) hMn
theorem zero3 (w : World) : (zeroValue 3).run Tryd.prog w = .ok (.int .i64 0) w := by kernel_rfl

set_option maxHeartbeats 4000000 in
set_option maxRecDepth 100000 in
theorem goes_dead (h : OrdV n0 B M many es S part most E pre v w) (hMn : M < n0) {gone : Nat} (hg : gone ≠ part) {f : Int → Option Value} (hf : MapF .u64 f w (n0 + 3)) (hfg : f gone = some (.int .i64 1)) (hx : goX S part most gone = none) :
    Calls Tryd.prog 76 (goArgs n0 gone) w (GoPost n0 B M many es S part most (goX S part most gone) E pre v w) := by
  have hp : ∀ a b, ((w.alloc a).alloc b).cell? ⟨n0 + 1, 0, none⟩ = some (.int .u64 (part : Int)) := fun a b => (((Ext.refl No w).alloc a).alloc b).no h.pbox
  have hd : ∀ a b, ((w.alloc a).alloc b).cell? ⟨n0 + 4, 0, none⟩ = some (.map (some (n0 + 3))) := fun a b => (((Ext.refl No w).alloc a).alloc b).no h.dbox
  have hne : ((gone : Int) == (part : Int)) = false := by simp; omega
  have hrun := (hf.ext (((Ext.refl No w).alloc (.cells #[.int .u64 (gone : Int)] 65)).alloc (.cells #[.bool false] 4)) (fun h => h)).look Tryd.underlying112 Tryd.underlying65 (zero3 _) (gone : Int) false
  rw [hfg] at hrun
  simp only [Bool.false_eq_true, if_false, Option.getD_some] at hrun
  have H := Sid.mk h
  rw [hx]
  clear h hf hfg hx
  go_enter Tryd.func76, Tryd.ntmps76
  go_wp2
  refine ⟨rfl, .bool false, by simp [results, Tryd.results76, go_sem], v, (((Ext.refl No w).alloc _).alloc _).mono (fun _ h => h.elim), Or.inl rfl, rfl, ?_⟩
  exact H.out.no (((Ext.refl No w).alloc _).alloc _) hMn
end Go.Proofs.YtceiaekkfabeaaaDoor
