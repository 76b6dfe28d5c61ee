/- Words and contracts for: DecompAcyclic: for every hypergraph the law answers true, and its arguments read as before. No condition; the library's table math/bits.deBruijn64tab is laid by its text. -/
import Derived.Maps.OwnIn
import Derived.Stop.RegionWithIn
import Derived.OrdersIn
import Derived.Test.YtceiaekkfabeaaaDoorZyc
namespace Go.Proofs.YtceiaekkfabeaaaDoor
open Go.RowKit Go.Shelf Pl
attribute [local go_sem] Oper.semAt_some

section
variable {F : Fence} {nn : Nat} {P : Program} {ops : Array Oper} {rest : List Oper} {o : Oper} {a : Act} {Q : Exit → Act → World → Prop}
/-- append(v, y), y one cell, behind the variadic's box: in a fence. -/
theorem app1In {W : World} (base : Nat) (hgd : o.guard = none) (s x : Operand) (t e : TypeId) (z : Value) (bytes : Nat)
    (ho : o.op = .call { callee := .builtin .append, args := #[s, x], argTypes := #[t, t] })
    (ht : P.underlying t = some (.slice e)) (hinfo : (P.info? e).map (fun i => (i.zero, i.size, i.bytes)) = some (some z, 1, bytes)) (hz : z.cells.size = 1) (hb0 : 0 < bytes)
    (v : Value) (n : Nat) (vs : List Value) (y : Value) (hs : a.eval s = v) {bs : Nat} (hx : a.eval x = .slice (some ⟨bs, 0, none⟩) 1 1) (hbs : bs = W.heap.size) (h1 : y.oneCell' = true)
    (HO : Own base e 1 W v n vs) (hbase : base ≤ W.heap.size) (hl : (n + 1) * bytes ≤ 140737488355328)
    (h : ∀ v1 w1, Own base e 1 w1 v1 (n + 1) (vs ++ [y]) → Ext (fun k => some k = v.ownBlock) W w1 → (v1.ownBlock = v.ownBlock ∨ ∃ b, v1.ownBlock = some b ∧ W.heap.size ≤ b) → (∃ A c, v1 = .slice A (n + 1) c) → wpListIn F nn P ops Q rest (a.put o.dst v1) w1) :
    wpListIn F nn P ops Q (o :: rest) a (W.alloc (.cells #[y] e)) := by
  subst hbs
  obtain ⟨i0, hi, hzz⟩ := Option.map_eq_some_iff.1 hinfo
  simp only [Prod.mk.injEq] at hzz
  obtain ⟨hz0, hz1, hz2⟩ := hzz
  have hlen : n + 1 ≤ 140737488355328 := Nat.le_trans (Nat.le_mul_of_pos_right _ hb0) hl
  refine wpListIn_append_own_at (w := W.alloc (.cells #[y] e)) hgd s x t ho base e i0 z 1 bytes ht hi hz0 hz1 hz2 hz (by omega) v n vs hs (World.ownsRow.alloc HO _) ⟨W.heap.size, 0, none⟩ 1 1 [y] hx rfl
    (cell_one_new W y e) (by simpa using h1) (by simp only [maxLen]; omega) hl (by simp; omega) ?_
  intro v1 w1 hown hg _ hat
  refine h v1 w1 hown ⟨hg.os, hg.tape, hg.output, Nat.le_trans (by simp) hg.size, fun k hk hx => (hg.block k (by simp; omega) hx).trans (Below.heap_alloc _ _ _ hk)⟩ ?_ (Own.slice hown)
  rcases hat with hat | hat
  · exact .inl hat
  · exact .inr ⟨_, hat, by simp⟩
end

/-- The iterator over a set's members, its state in block Bs. -/
def MemOk (s Bs : Nat) (W : World) : Prop := TabW W ∧ W.cell? ⟨Bs, 0, none⟩ = some (.int .u64 (s : Int)) ∧ W.frozen? ⟨Bs, 0, none⟩ = false
theorem MemOk.ext {s Bs : Nat} (X : Nat → Prop) (W W' : World) (h : MemOk s Bs W) (hx : Ext X W W') (hB : ¬ X Bs) (h0 : ¬ X 0) : MemOk s Bs W' :=
  ⟨h.1.ext hx h0, hx.cell hB h.2.1, (hx.frozen (p := ⟨Bs, 0, none⟩) hB (World.block_lt_of_cell? W _ h.2.1)).trans h.2.2⟩
theorem members_iter {s Bs : Nat} (hs : s < 4294967296) (hB0 : Bs ≠ 0) : IterAt 90 #[.pointer (some ⟨Bs, 0, none⟩)] Bs (membersL s) (MemOk s Bs) :=
  fun l J Jx X hX0 hXB hJ hY W hok h0 => members1_in l Bs s hs J Jx X hX0 hXB hB0 hJ hY W hok.1 hok.2.1 hok.2.2 h0

theorem members_any (s : Int) (w : World) :
    Calls Tryd.prog 77 #[.int .u64 s] w fun e w' => e = .returned (.func (.func 90) #[] #[.pointer (some ⟨w.heap.size, 0, none⟩)]) ∧ w' = w.alloc (.cells #[.int .u64 s] 65) := by
  go_enter Tryd.func77, Tryd.ntmps77
  go_wp2
  go_ret
  exact ⟨rfl, rfl⟩
theorem enters90 : ∀ args w, (callFunc 90 args).run Tryd.prog w = .ok (.enter 90 args) w := fun l w => by kernel_rfl

/-- What a box of numbers holds: a row of one's own. -/
def BoxI (B base : Nat) (xs : List Int) (W : World) : Prop := ∃ v, W.cell? ⟨B, 0, none⟩ = some v ∧ W.frozen? ⟨B, 0, none⟩ = false ∧ Own base 3 1 W v xs.length (xs.map (.int .i64))
theorem BoxI.ext {B base : Nat} {xs : List Int} {X : Nat → Prop} {W W' : World} (h : BoxI B base xs W) (hx : Ext X W W') (hB : ¬ X B) (hb : ∀ k, base ≤ k → ¬ X k) : BoxI B base xs W' := by
  obtain ⟨v, h1, h2, h3⟩ := h
  exact ⟨v, hx.cell hB h1, (hx.frozen (p := ⟨B, 0, none⟩) hB (World.block_lt_of_cell? W _ h1)).trans h2, h3.ext hx (fun k hk => hb k (h3.ge k hk).1)⟩

set_option maxHeartbeats 4000000 in
theorem rising_any (s : Nat) (hs : s < 4294967296) (w : World) (hT : TabW w) :
    Calls Tryd.prog 79 #[.int .u64 (s : Int)] w fun e w' => ∃ v', e = .returned v' ∧ IntsR .i64 (fun k => w.heap.size ≤ k) w' v' (membersL s) ∧ Ext No w w' := by
  refine (callsIn_wide (n := 0)).1 ?_
  refine callsIn_of_wp_marks Tryd.func79 rfl trivial ?_ rfl
  simp only [Tryd.ntmps79, List.size_toArray, List.length_cons, List.length_nil, Nat.reduceAdd, Nat.reduceSub, Array.replicate_succ, Array.replicate_zero, List.push_toArray, List.append_toArray, List.nil_append, List.cons_append]
  gi_wp2_with (refine ⟨trivial, rfl, ?_⟩; gi_at_call 77; refine (callsIn_wide.2 (members_any _ _)).mono ?_; rintro e w1 ⟨rfl, rfl⟩)
  have hT2 : TabW ((w.alloc (.cells #[.slice none 0 0] 28)).alloc (.cells #[.int .u64 (s : Int)] 65)) := hT.no (((Ext.refl No w).alloc _).alloc _)
  have hpos : 0 < w.heap.size := World.block_lt_of_cell? w _ (hT 0 (by decide))
  refine wpIn_range_ext (gf := 90) (lb := #[.pointer (some ⟨w.heap.size + 1, 0, none⟩)]) (Bs := w.heap.size + 1) (Ok := MemOk s (w.heap.size + 1)) rfl enters90 (members_iter hs (by omega)) MemOk.ext rfl
    (fun pre W => BoxI w.heap.size (w.heap.size + 4) pre W) (fun _ _ => False) (fun k => k = w.heap.size ∨ w.heap.size + 4 ≤ k) (by omega) (by omega) (by simp; omega) (by simp; omega) (by simp) (by omega)
    (fun pre W W' h hx => h.ext hx (by simp; omega) (fun k hk => by simp; omega)) (fun _ _ _ h _ => h.elim) ⟨hT2, by simp [go_sem], by simp [go_sem]⟩ ⟨.slice none 0 0, by simp [go_sem], by simp [go_sem], Own.nil _ _ _ _⟩
    (fun x => { tmps := #[.int .u64 (s : Int), undef, .slice none 0 0, .pointer (some ⟨w.heap.size, 0, none⟩), .int .i64 x, .int .u64 (s : Int), .func (.func 90) #[] #[.pointer (some ⟨w.heap.size + 1, 0, none⟩)], .int .i64 x, undef, undef, undef, undef, undef], defers := [] }) ?assign ?body ?done ?stop
  case assign =>
    intro l x W K hK
    gi_wp2
    exact hK
  case body =>
    rintro l pre x post W hL hI hsz
    have hlen : pre.length ≤ 32 := by have := congrArg List.length hL; simp [membersL] at this; have := membersN_len s; omega
    have hsz' : w.heap.size + 4 ≤ W.heap.size := by simpa using hsz
    obtain ⟨v, hc, hf, ho⟩ := hI
    obtain ⟨A, c, rfl⟩ := Own.slice ho
    have HO := Sid.mk ho
    clear ho
    gi_wp2_with (gi_at_builtin; refine app1In (w.heap.size + 4) rfl (.tmp 8) (.tmp 10) 28 3 (.int .i64 0) 8 rfl Tryd.underlying28 info3 rfl (by decide) (.slice A pre.length c) _ _ _ rfl rfl (by simp) rfl HO.out hsz' (by omega) ?_; intro v1 w1 ho1 hx1 hb1 hs1; obtain ⟨A1, c1, rfl⟩ := hs1; have hne := fun k (hk : some k = (Value.slice A pre.length c).ownBlock) => (HO.out.ge k hk.symm).1; have hc1 := hx1.cell (p := ⟨w.heap.size, 0, none⟩) (fun h => by have := hne _ h; simp at this; omega) hc; have hf1 := (hx1.frozen (p := ⟨w.heap.size, 0, none⟩) (fun h => by have := hne _ h; simp at this; omega) (by simp; omega)).trans hf; have HX1 := Sid.mk hx1; have HO1 := Sid.mk ho1; have HNE := Sid.mk hne; clear hx1 ho1 hb1 hne)
    have hx2 : Ext (fun k => k = w.heap.size) w1 (w1.setCell ⟨w.heap.size, 0, none⟩ (.slice A1 (pre.length + 1) c1)) := (Ext.refl (fun k => k = w.heap.size) w1).setCell (p := ⟨w.heap.size, 0, none⟩) (Or.inl rfl) _
    refine ⟨(HX1.out.mono (fun k hk => Or.inr (HNE.out k hk))).trans (hx2.mono (fun _ h => Or.inl h)), .slice A1 (pre.length + 1) c1, World.cell?_setCell_same' _ _ _ (by rw [hc1]; rfl), by simp [hf1], ?_⟩
    rw [List.map_append, List.length_append]
    exact HO1.out.ext hx2 (fun k hk h => by have := (HO1.out.ge k hk).1; omega)
  case done =>
    intro W hI hx hK
    obtain ⟨v, hc, hf, ho⟩ := hI
    obtain ⟨A, c, rfl⟩ := Own.slice ho
    have HO := Sid.mk ho
    have HX := Sid.mk hx
    clear ho hx
    gi_wp2
    refine ⟨by simp, .inl ⟨_, _, rfl, run_takeDeferred hK, ?_⟩⟩
    have hx2 : Ext (fun k => k = w.heap.size + 2) W (W.putObj ((w.alloc (.cells #[.slice none 0 0] 28)).alloc (.cells #[.int .u64 (s : Int)] 65)).heap.size (.deferred none)) := (Ext.refl (fun k => k = w.heap.size + 2) W).putObj (by simp) _
    refine ⟨_, results_tmp rfl _ _ _, _, rfl, ints_own (HO.out.ext hx2 (fun k hk h => by have := (HO.out.ge k hk).1; omega)) (by simp [membersL]; have := membersN_len s; omega) (fun k hk => by have := (HO.out.ge k hk).1; omega), ?_⟩
    exact (((Ext.refl No w).alloc _).alloc _).step (HX.out.step hx2 (fun i hi h => by simp at hi; omega)) (fun i hi h => by omega)
  case stop =>
    intro pre post W _ h
    exact h.elim
end Go.Proofs.YtceiaekkfabeaaaDoor

/- hyper's each: the iterator over a set's members, its state in a cell. -/
namespace Go.Proofs.YtceiaekkfabeaaaDoor
open Go.RowKit Go.Shelf Pl
attribute [local go_sem] Oper.semAt_some

set_option maxHeartbeats 4000000 in
theorem each1_in (l Bs s : Nat) (hs : s < 4294967296) (J Jx : List Int → World → Prop) (X : Nat → Prop) (hX0 : ¬ X 0) (hXB : ¬ X Bs) (hB0 : Bs ≠ 0)
    (hJ : ∀ pre W W', J pre W → Ext (fun k => k = Bs) W W' → J pre W')
    (hY : ∀ pre x post W, membersL s = pre ++ x :: post → J pre W → YieldsAt l x W fun b W' => Ext X W W' ∧ if b then J (pre ++ [x]) W' else Jx (pre ++ [x]) W')
    (W : World) (hT : TabW W) (hB : W.cell? ⟨Bs, 0, none⟩ = some (.int .u64 (s : Int))) (hBf : W.frozen? ⟨Bs, 0, none⟩ = false) (h0 : J [] W) :
    CallsIn Fence.wide 0 Tryd.prog 86 #[.func (.yield l) #[] #[], .pointer (some ⟨Bs, 0, none⟩)] W fun e W' => e = .returned (.tuple #[]) ∧ Ext (fun k => X k ∨ k = Bs) W W' ∧ (J (membersL s) W' ∨ ∃ pre post, membersL s = pre ++ post ∧ Jx pre W') := by
  refine callsIn_of_wp Tryd.func86 rfl trivial ?_ rfl
  simp only [Tryd.ntmps86, List.size_toArray, List.length_cons, List.length_nil, Nat.reduceAdd, Nat.reduceSub, Array.replicate_succ, Array.replicate_zero, List.push_toArray, List.append_toArray, List.nil_append, List.cons_append]
  gi_wp2
  gi_loopw [3] (fun v wr => ∃ (pre : List Int) (c : Nat), c < 4294967296 ∧ Sid (membersL s = pre ++ membersL c) ∧ wr.cell? ⟨Bs, 0, none⟩ = some (.int .u64 (c : Int)) ∧ wr.frozen? ⟨Bs, 0, none⟩ = false ∧ Sid (J pre wr) ∧ Sid (TabW wr) ∧ Sid (Ext (fun k => X k ∨ k = Bs) W wr)) (fun _ wr => leftIn wr Bs)
  case atStart => exact ⟨[], s, hs, ⟨rfl⟩, hB, hBf, ⟨h0⟩, ⟨hT⟩, ⟨Ext.refl _ _⟩⟩
  case round =>
    obtain ⟨pre, c, hc, HM, hcell, hfr, HJ, HT, HX⟩ := hrel
    by_cases hz : c = 0
    · subst hz
      gi_wp2
      go_end0
      exact ⟨rfl, HX.out, .inl (by have h1 := HM.out; have h2 := HJ.out; rw [membersL_zero, List.append_nil] at h1; rwa [h1])⟩
    · have hne : ((c : Int) != 0) = true := by simp; omega
      have hsp : membersL s = pre ++ (Lib.ctz 64 c : Int) :: membersL (sdn c (2 ^ Lib.ctz 64 c)) := by rw [HM.out, membersL_step hz hc]
      have HSP := Sid.mk hsp
      obtain ⟨fn, tmps, assign, body, hy, hR⟩ := hY pre _ _ wr hsp HJ.out
      have hlt := ctz_lt hz hc
      have hbit : bits .andNot .u64 (c : Int) (((2 ^ Lib.ctz 64 c : Nat)) : Int) = ((sdn c (2 ^ Lib.ctz 64 c) : Nat) : Int) := andNot_u64 hc (pow_lt_32 hlt)
      have HR := Sid.mk hR
      clear hR hsp hY
      generalize hk : Lib.ctz 64 c = k at *
      gi_wp2_with (refine ⟨trivial, rfl, ?_⟩; gi_at_call 87; refine (callsIn_wide.2 (tz_any c hz hc _ HT.out)).mono ?_; rintro e w1 ⟨rfl, rfl⟩; rw [hk])
      refine ⟨rfl, HR.out.mono ?_⟩
      rintro e W3 ⟨b, rfl, hx3, hb⟩
      have hcell3 := hx3.cell (p := ⟨Bs, 0, none⟩) hXB hcell
      have hfr3 : W3.frozen? ⟨Bs, 0, none⟩ = false := (hx3.frozen (p := ⟨Bs, 0, none⟩) hXB (World.block_lt_of_cell? wr _ hcell)).trans hfr
      have hcell0 := hcell
      have HX3 := Sid.mk hx3
      have HB3 := Sid.mk hb
      clear hx3 hb HR hcell hfr
      cases b with
      | true =>
        gi_wp2
        refine wpIn_wide.2 ?_
        go_region
        all_goals go_wp2
        all_goals rw [wrap_pow hlt, hbit]
        all_goals
          have hx4 : Ext (fun i => i = Bs) W3 (W3.setCell ⟨Bs, 0, none⟩ (.int .u64 ((sdn c (2 ^ k) : Nat) : Int))).drew := ((Ext.refl (fun i => i = Bs) W3).setCell (p := ⟨Bs, 0, none⟩) (Or.inl rfl) _).drew
          have hc4 : (W3.setCell ⟨Bs, 0, none⟩ (.int .u64 ((sdn c (2 ^ k) : Nat) : Int))).drew.cell? ⟨Bs, 0, none⟩ = some (.int .u64 ((sdn c (2 ^ k) : Nat) : Int)) := World.cell?_setCell_same' _ _ _ (by rw [hcell3]; rfl)
          have h1 := HB3.out
          simp only [if_true] at h1
          have hlen : (membersN c).length = (membersN (sdn c (2 ^ k))).length + 1 := by rw [← hk, ← List.length_cons (a := Lib.ctz 64 c), ← membersN_step hz hc]
          refine ⟨⟨pre ++ [(k : Int)], sdn c (2 ^ k), sdn_lt' hc, ⟨by rw [HSP.out, List.append_assoc]; rfl⟩, hc4, by simp [hfr3], ⟨hJ _ _ _ h1 hx4⟩, ⟨(HT.out.ext HX3.out hX0).ext hx4 (fun h => hB0 h.symm)⟩, ⟨(HX.out.trans (HX3.out.mono (fun _ h => Or.inl h))).trans (hx4.mono (fun _ h => Or.inr h))⟩⟩, ?_⟩
          rw [leftIn_of hc4, leftIn_of hcell0, hlen]; omega
      | false =>
        gi_wp2
        refine bodyPost_ret (results_none rfl _ _ _) rfl ?_
        have h1 := HB3.out
        simp only [Bool.false_eq_true, if_false] at h1
        exact ⟨rfl, HX.out.trans (HX3.out.mono (fun _ h => Or.inl h)), .inr ⟨pre ++ [(k : Int)], _, by rw [HSP.out, List.append_assoc]; rfl, h1⟩⟩

theorem each_iter {s Bs : Nat} (hs : s < 4294967296) (hB0 : Bs ≠ 0) : IterAt 86 #[.pointer (some ⟨Bs, 0, none⟩)] Bs (membersL s) (MemOk s Bs) :=
  fun l J Jx X hX0 hXB hJ hY W hok h0 => each1_in l Bs s hs J Jx X hX0 hXB hB0 hJ hY W hok.1 hok.2.1 hok.2.2 h0

theorem each_any (s : Int) (w : World) :
    Calls Tryd.prog 68 #[.int .u64 s] w fun e w' => e = .returned (.func (.func 86) #[] #[.pointer (some ⟨w.heap.size, 0, none⟩)]) ∧ w' = w.alloc (.cells #[.int .u64 s] 96) := by
  go_enter Tryd.func68, Tryd.ntmps68
  go_wp2
  go_ret
  exact ⟨rfl, rfl⟩
theorem enters86 : ∀ args w, (callFunc 86 args).run Tryd.prog w = .ok (.enter 86 args) w := fun l w => by kernel_rfl


set_option maxHeartbeats 4000000 in
theorem appendSeq_any (s Bs : Nat) (hs : s < 4294967296) (hB0 : Bs ≠ 0) (w : World) (hM : MemOk s Bs w) :
    Calls Tryd.prog 89 #[.slice none 0 0, .func (.func 86) #[] #[.pointer (some ⟨Bs, 0, none⟩)]] w fun e w' => ∃ v', e = .returned v' ∧ IntsR .i64 (fun k => w.heap.size ≤ k) w' v' (membersL s) ∧ Ext (fun k => k = Bs) w w' := by
  refine (callsIn_wide (n := 0)).1 ?_
  refine callsIn_of_wp_marks Tryd.func89 rfl trivial ?_ rfl
  simp only [Tryd.ntmps89, List.size_toArray, List.length_cons, List.length_nil, Nat.reduceAdd, Nat.reduceSub, Array.replicate_succ, Array.replicate_zero, List.push_toArray, List.append_toArray, List.nil_append, List.cons_append]
  gi_wp2
  have hBl : Bs < w.heap.size := World.block_lt_of_cell? w _ hM.2.1
  have hpos : 0 < w.heap.size := by omega
  have hM2 : MemOk s Bs (w.alloc (.cells #[.slice none 0 0] 28)) := MemOk.ext No _ _ hM ((Ext.refl No w).alloc _) (fun h => h) (fun h => h)
  refine wpIn_range_ext (gf := 86) (lb := #[.pointer (some ⟨Bs, 0, none⟩)]) (Bs := Bs) (Ok := MemOk s Bs) rfl enters86 (each_iter hs hB0) MemOk.ext rfl
    (fun pre W => BoxI w.heap.size (w.heap.size + 3) pre W) (fun _ _ => False) (fun k => k = w.heap.size ∨ w.heap.size + 3 ≤ k) (by omega) (by omega) (by simp <;> omega) (by simp <;> omega) (by simp <;> omega) hB0
    (fun pre W W' h hx => h.ext hx (by simp; omega) (fun k hk => by simp; omega)) (fun _ _ _ h _ => h.elim) hM2 ⟨.slice none 0 0, by simp [go_sem], by simp [go_sem], Own.nil _ _ _ _⟩
    (fun x => { tmps := #[.slice none 0 0, .func (.func 86) #[] #[.pointer (some ⟨Bs, 0, none⟩)], .pointer (some ⟨w.heap.size, 0, none⟩), undef, .slice none 0 0, .int .i64 x, .func (.func 86) #[] #[.pointer (some ⟨Bs, 0, none⟩)], .int .i64 x, undef, undef, undef, undef, undef], defers := [] }) ?assign ?body ?done ?stop
  case assign =>
    intro l x W K hK
    gi_wp2
    exact hK
  case body =>
    rintro l pre x post W hL hI hsz
    have hlen : pre.length ≤ 32 := by have := congrArg List.length hL; simp [membersL] at this; have := membersN_len s; omega
    have hsz' : w.heap.size + 3 ≤ W.heap.size := by simpa using hsz
    obtain ⟨v, hc, hf, ho⟩ := hI
    obtain ⟨A, c, rfl⟩ := Own.slice ho
    have HO := Sid.mk ho
    clear ho
    gi_wp2_with (gi_at_builtin; refine app1In (w.heap.size + 3) rfl (.tmp 8) (.tmp 10) 28 3 (.int .i64 0) 8 rfl Tryd.underlying28 info3 rfl (by decide) (.slice A pre.length c) _ _ _ rfl rfl (by simp) rfl HO.out hsz' (by omega) ?_; intro v1 w1 ho1 hx1 hb1 hs1; obtain ⟨A1, c1, rfl⟩ := hs1; have hne := fun k (hk : some k = (Value.slice A pre.length c).ownBlock) => (HO.out.ge k hk.symm).1; have hc1 := hx1.cell (p := ⟨w.heap.size, 0, none⟩) (fun h => by have := hne _ h; simp at this; omega) hc; have hf1 := (hx1.frozen (p := ⟨w.heap.size, 0, none⟩) (fun h => by have := hne _ h; simp at this; omega) (by simp; omega)).trans hf; have HX1 := Sid.mk hx1; have HO1 := Sid.mk ho1; have HNE := Sid.mk hne; clear hx1 ho1 hb1 hne)
    have hx2 : Ext (fun k => k = w.heap.size) w1 (w1.setCell ⟨w.heap.size, 0, none⟩ (.slice A1 (pre.length + 1) c1)) := (Ext.refl (fun k => k = w.heap.size) w1).setCell (p := ⟨w.heap.size, 0, none⟩) (Or.inl rfl) _
    refine ⟨(HX1.out.mono (fun k hk => Or.inr (HNE.out k hk))).trans (hx2.mono (fun _ h => Or.inl h)), .slice A1 (pre.length + 1) c1, World.cell?_setCell_same' _ _ _ (by rw [hc1]; rfl), by simp [hf1], ?_⟩
    rw [List.map_append, List.length_append]
    exact HO1.out.ext hx2 (fun k hk h => by have := (HO1.out.ge k hk).1; omega)
  case done =>
    intro W hI hx hK
    obtain ⟨v, hc, hf, ho⟩ := hI
    obtain ⟨A, c, rfl⟩ := Own.slice ho
    have HO := Sid.mk ho
    have HX := Sid.mk hx
    clear ho hx
    gi_wp2
    refine ⟨by simp, .inl ⟨_, _, rfl, run_takeDeferred hK, ?_⟩⟩
    have hx2 : Ext (fun k => k = w.heap.size + 1) W (W.putObj (w.alloc (.cells #[.slice none 0 0] 28)).heap.size (.deferred none)) := (Ext.refl (fun k => k = w.heap.size + 1) W).putObj (by simp) _
    refine ⟨_, results_tmp rfl _ _ _, _, rfl, ints_own (HO.out.ext hx2 (fun k hk h => by have := (HO.out.ge k hk).1; omega)) (by simp [membersL]; have := membersN_len s; omega) (fun k hk => by have := (HO.out.ge k hk).1; omega), ?_⟩
    exact ((Ext.refl (fun k => k = Bs) w).alloc _).step (HX.out.step hx2 (fun i hi h => by simp at hi; omega)) (fun i hi h => by omega)
  case stop =>
    intro pre post W _ h
    exact h.elim

theorem collect_any (s Bs : Nat) (hs : s < 4294967296) (hB0 : Bs ≠ 0) (w : World) (hM : MemOk s Bs w) :
    Calls Tryd.prog 75 #[.func (.func 86) #[] #[.pointer (some ⟨Bs, 0, none⟩)]] w fun e w' => ∃ v', e = .returned v' ∧ IntsR .i64 (fun k => w.heap.size ≤ k) w' v' (membersL s) ∧ Ext (fun k => k = Bs) w w' := by
  have HM := Sid.mk hM
  clear hM
  go_enter Tryd.func75, Tryd.ntmps75
  go_wp2_with (go_at_call 89; refine (appendSeq_any s Bs hs hB0 _ HM.out).mono ?_; rintro e w1 ⟨v', rfl, hv, hx⟩; obtain ⟨A, c, rfl, _⟩ := hv.at; have HV := Sid.mk hv; have HX := Sid.mk hx; clear hv hx)
  go_ret
  exact ⟨_, rfl, HV.out, HX.out⟩
end Go.Proofs.YtceiaekkfabeaaaDoor

/- Orders of a part's vertices, plainly. -/
namespace Go.Proofs.YtceiaekkfabeaaaDoor
open Go.RowKit Go.Shelf Pl

theorem findSome_congr' {α β : Type} {f g : α → Option β} : ∀ {L : List α}, (∀ x ∈ L, f x = g x) → L.findSome? f = L.findSome? g
  | [], _ => rfl
  | x :: L, h => by rw [List.findSome?_cons, List.findSome?_cons, h x (List.mem_cons_self), findSome_congr' (fun y hy => h y (List.mem_cons_of_mem _ hy))]
/-- How many edges a cover has. -/
def covLen (S : List Nat) (x : Nat) : Nat := ((covO S x).getD []).length
/-- The first order from what is gone to the whole part. -/
def goN (S : List Nat) (part : Nat) (most : Int) : Nat → Nat → Option (List Int)
  | 0, gone => if gone = part then some [] else none
  | f + 1, gone => if gone = part then some [] else (membersL (sdn part gone)).findSome? fun x => if most < (covLen S (arF S x.toNat gone) : Int) then none else (goN S part most f (gone ||| 2 ^ x.toNat)).map (x :: ·)
def goV (S : List Nat) (part : Nat) (most : Int) (f gone : Nat) (x : Int) : Option (List Int) := if most < (covLen S (arF S x.toNat gone) : Int) then none else (goN S part most f (gone ||| 2 ^ x.toNat)).map (x :: ·)
theorem goN_zero (S : List Nat) (part : Nat) (most : Int) (gone : Nat) : goN S part most 0 gone = if gone = part then some [] else none := rfl
theorem goN_succ (S : List Nat) (part : Nat) (most : Int) (f gone : Nat) : goN S part most (f + 1) gone = if gone = part then some [] else (membersL (sdn part gone)).findSome? (goV S part most f gone) := rfl

attribute [irreducible] goN

theorem sdn_or (a b c : Nat) : sdn a (b ||| c) = sdn (sdn a b) c := by
  apply Nat.eq_of_testBit_eq
  intro i
  simp only [sdn_testBit, Nat.testBit_or, Bool.not_or, Bool.and_assoc]
theorem membersN_nodup (s : Nat) : (membersN s).Nodup := List.Pairwise.filter _ List.nodup_range
theorem membersN_drop {s v : Nat} (hv : v ∈ membersN s) : (membersN (sdn s (2 ^ v))).length + 1 = (membersN s).length := by
  have hp : membersN (sdn s (2 ^ v)) = (membersN s).erase v := by
    rw [(membersN_nodup s).erase_eq_filter, membersN, membersN, List.filter_filter]
    apply List.filter_congr
    intro i _
    rw [sdn_testBit, Nat.testBit_two_pow, Bool.and_comm]
    congr 1
    by_cases h : v = i
    · subst h; simp
    · rw [decide_eq_false h]; simp; omega
  rw [hp, List.length_erase_of_mem hv]
  have := List.length_pos_of_mem hv
  omega
theorem membersL_mem {s : Nat} {x : Int} : x ∈ membersL s ↔ ∃ v : Nat, x = (v : Int) ∧ v ∈ membersN s := by
  simp only [membersL, List.mem_map]
  constructor
  · rintro ⟨v, h1, rfl⟩; exact ⟨v, rfl, h1⟩
  · rintro ⟨v, rfl, h1⟩; exact ⟨v, h1, rfl⟩
/-- More steps than are wanted change nothing. -/
theorem goN_more (S : List Nat) (part : Nat) (most : Int) : ∀ (n gone f : Nat), (membersN (sdn part gone)).length ≤ n → n ≤ f → goN S part most f gone = goN S part most n gone
  | 0, gone, 0, _, _ => rfl
  | 0, gone, f + 1, h, _ => by
    have h0 : membersN (sdn part gone) = [] := List.eq_nil_of_length_eq_zero (by omega)
    rw [goN_succ, goN_zero]
    split
    · rfl
    · simp [membersL, h0]
  | n + 1, gone, 0, _, h => by omega
  | n + 1, gone, f + 1, h, hf => by
    rw [goN_succ, goN_succ]
    split
    · rfl
    · have : ∀ x ∈ membersL (sdn part gone), goV S part most f gone x = goV S part most n gone x := by
        intro x hx
        obtain ⟨v, rfl, hv⟩ := membersL_mem.1 hx
        simp only [goV, Int.toNat_natCast]
        rw [goN_more S part most n (gone ||| 2 ^ v) f (by rw [sdn_or]; have := membersN_drop hv; omega) (by omega)]
      exact findSome_congr' this
/-- The first order from what is gone. -/
def goX (S : List Nat) (part : Nat) (most : Int) (gone : Nat) : Option (List Int) := goN S part most 32 gone
theorem goX_part (S : List Nat) (part : Nat) (most : Int) : goX S part most part = some [] := by rw [goX, goN_succ, if_pos rfl]
/-- What a vertex brings. -/
def goY (S : List Nat) (part : Nat) (most : Int) (gone : Nat) (x : Int) : Option (List Int) := if most < (covLen S (arF S x.toNat gone) : Int) then none else (goX S part most (gone ||| 2 ^ x.toNat)).map (x :: ·)
theorem goX_step {S : List Nat} {part : Nat} {most : Int} {gone : Nat} (h : gone ≠ part) : goX S part most gone = (membersL (sdn part gone)).findSome? (goY S part most gone) := by
  rw [goX, goN_succ, if_neg h]
  have : ∀ x ∈ membersL (sdn part gone), goV S part most 31 gone x = goY S part most gone x := by
    intro x hx
    obtain ⟨v, rfl, hv⟩ := membersL_mem.1 hx
    simp only [goV, goY, goX, Int.toNat_natCast]
    have hd := membersN_drop hv
    have hl := membersN_len (sdn part gone)
    rw [goN_more S part most 31 (gone ||| 2 ^ v) 32 (by rw [sdn_or]; omega) (by omega)]
  exact findSome_congr' this
theorem goN_len {S : List Nat} {part : Nat} {most : Int} : ∀ (f gone : Nat) (l : List Int), goN S part most f gone = some l → l.length ≤ f
  | 0, gone, l, h => by
    rw [goN_zero] at h
    split at h
    · simp at h; subst h; simp
    · simp at h
  | f + 1, gone, l, h => by
    rw [goN_succ] at h
    split at h
    · simp at h; subst h; simp
    · obtain ⟨x, _, hx⟩ := List.exists_of_findSome?_eq_some h
      unfold goV at hx
      split at hx
      · simp at hx
      · simp only [Option.map_eq_some_iff] at hx
        obtain ⟨l', h1, rfl⟩ := hx
        have := goN_len f _ l' h1
        simp; omega
theorem goX_len (S : List Nat) (part : Nat) (most : Int) (gone : Nat) : ((goX S part most gone).getD []).length ≤ 32 := by
  cases h : goX S part most gone with
  | none => simp
  | some l => exact goN_len 32 gone l h
theorem lookE_lt {S : List Nat} (hS : smallS S) (gone : Nat) : ∀ mo : Nat × Nat, mo.1 < 4294967296 → mo.2 < 4294967296 → (lookE S gone mo).1 < 4294967296 ∧ (lookE S gone mo).2 < 4294967296 := by
  induction S with
  | nil => exact fun mo h1 h2 => ⟨h1, h2⟩
  | cons x S ih =>
    intro mo h1 h2
    have hx := hS x (List.mem_cons_self)
    have ih := ih (fun y hy => hS y (List.mem_cons_of_mem _ hy))
    rw [lookE, List.foldl_cons]
    split
    · exact ih _ (or_lt h1 (and_lt hx)) (or_lt h2 hx)
    · exact ih _ h1 h2
theorem lookN_lt {S : List Nat} (hS : smallS S) (gone : Nat) : ∀ (f : Nat) (mo : Nat × Nat), mo.1 < 4294967296 → mo.2 < 4294967296 → (lookN S gone f mo).2 < 4294967296
  | 0, mo, _, h2 => h2
  | f + 1, mo, h1, h2 => by
    obtain ⟨h3, h4⟩ := lookE_lt hS gone mo h1 h2
    rw [lookN]
    split
    · exact h4
    · exact lookN_lt hS gone f _ h3 h4
theorem arF_lt {S : List Nat} (hS : smallS S) {v gone : Nat} (hv : v < 32) : arF S v gone < 4294967296 :=
  or_lt (sdn_lt' (lookN_lt hS gone _ _ (pow_lt_32 hv) (by simp))) (pow_lt_32 hv)

theorem findSome_pre {α β : Type} {f : α → Option β} {pre post : List α} {x : α} {y : β} (h : pre.findSome? f = none) (hx : f x = some y) : (pre ++ x :: post).findSome? f = some y := by
  rw [List.findSome?_append, h, Option.none_or, List.findSome?_cons, hx]
theorem findSome_snoc {α β : Type} {f : α → Option β} {pre : List α} {x : α} (h : pre.findSome? f = none) (hx : f x = none) : (pre ++ [x]).findSome? f = none := by
  rw [List.findSome?_append, h, Option.none_or, List.findSome?_cons, hx]; rfl
end Go.Proofs.YtceiaekkfabeaaaDoor

namespace Go.Proofs.YtceiaekkfabeaaaDoor
open Go.RowKit Go.Shelf Pl

theorem Own.trunc {base e n c : Nat} {w : World} {A : Option Addr} {xs : List Value} {x : Value} (h : Own base e 1 w (.slice A (n + 1) c) (n + 1) (xs ++ [x])) : Own base e 1 w (.slice A n c) n xs := by
  obtain ⟨h1, h2⟩ := h
  have hl : xs.length = n := by simp at h1; exact h1
  rcases h2 with ⟨_, h⟩ | ⟨g, cap, cur, hv, hb, hc, hn, hm, hs, ht⟩
  · omega
  · simp only [Value.slice.injEq] at hv
    obtain ⟨rfl, _, rfl⟩ := hv
    refine ⟨by omega, .inr ⟨g, c, cur, rfl, hb, hc, by omega, hm, hs, ?_⟩⟩
    have e1 : List.take n (List.take ((n + 1) * 1) cur.toList) = List.take n cur.toList := by rw [List.take_take, Nat.min_eq_left (by omega)]
    have e2 : List.take n (xs ++ [x]) = xs := by rw [List.take_append_of_le_length (by omega), List.take_of_length_le (by omega)]
    rw [Nat.mul_one, ← e1, ht, e2]

/-- The search for an order, as it stands: v is what has been taken. -/
structure OrdV (n0 B M : Nat) (many : Int) (es : List (List Int)) (S : List Nat) (part : Nat) (most : Int) (E : Nat → Prop) (pre : List Int) (v : Value) (w : World) : Prop where
  sbox : w.cell? ⟨n0, 0, none⟩ = some (.pointer (some ⟨B, 0, none⟩))
  pbox : w.cell? ⟨n0 + 1, 0, none⟩ = some (.int .u64 (part : Int))
  mbox : w.cell? ⟨n0 + 2, 0, none⟩ = some (.int .i64 most)
  dbox : w.cell? ⟨n0 + 4, 0, none⟩ = some (.map (some (n0 + 3)))
  obox : w.cell? ⟨n0 + 5, 0, none⟩ = some v
  ofro : w.frozen? ⟨n0 + 5, 0, none⟩ = false
  gbox : w.cell? ⟨n0 + 6, 0, none⟩ = some (.func (.func 76) #[] #[.pointer (some ⟨n0 + 1, 0, none⟩), .pointer (some ⟨n0 + 4, 0, none⟩), .pointer (some ⟨n0, 0, none⟩), .pointer (some ⟨n0 + 2, 0, none⟩), .pointer (some ⟨n0 + 5, 0, none⟩), .pointer (some ⟨n0 + 6, 0, none⟩)])
  row : Own (n0 + 7) 3 1 w v pre.length (pre.map (.int .i64))
  known : KnownR (fun k => ¬ E k ∧ v.ownBlock ≠ some k) w M S
  dead : ∃ f, MapF .u64 f w (n0 + 3) ∧ ∀ x u, f x = some u → u = .int .i64 1 ∧ ∃ g : Nat, x = (g : Int) ∧ goX S part most g = none
  search : SearchR (fun k => (k < n0 ∧ k ≠ M) ∧ ¬ E k) w B M many es S
  tab : TabW w
variable {n0 B M : Nat} {many : Int} {es : List (List Int)} {S : List Nat} {part : Nat} {most : Int} {E E' : Nat → Prop} {pre : List Int} {v : Value} {w w' : World}

theorem OrdV.n0_pos (h : OrdV n0 B M many es S part most E pre v w) : 0 < n0 := by have := h.search.pb.1; omega
theorem OrdV.M_lt (h : OrdV n0 B M many es S part most E pre v w) : M < w.heap.size := h.known.lt
theorem OrdV.size (h : OrdV n0 B M many es S part most E pre v w) : n0 + 7 ≤ w.heap.size := World.block_lt_of_cell? w _ h.gbox
theorem OrdV.own (h : OrdV n0 B M many es S part most E pre v w) {k : Nat} (hk : v.ownBlock = some k) : n0 + 7 ≤ k ∧ k < w.heap.size := h.row.ge k hk
theorem OrdV.M_pos (h : OrdV n0 B M many es S part most E pre v w) : M ≠ 0 := by
  rintro rfl
  obtain ⟨f, ⟨es, clock, hb, _⟩, _⟩ := h.known
  have := h.tab 0 (by decide)
  simp [World.cell?, hb] at this

/-- What turns are blocks of others. -/
theorem OrdV.ext {X : Nat → Prop} (h : OrdV n0 B M many es S part most E pre v w) (hx : Ext X w w') (hX : ∀ k, X k → n0 + 7 ≤ k ∧ E k ∧ v.ownBlock ≠ some k) (hMn : M < n0) : OrdV n0 B M many es S part most E pre v w' := by
  have hn : ∀ k, k < n0 + 7 → ¬ X k := fun k hk hh => by have := (hX k hh).1; omega
  obtain ⟨f, hf, hv⟩ := h.dead
  exact ⟨hx.cell (hn _ (by simp)) h.sbox, hx.cell (hn _ (by simp)) h.pbox, hx.cell (hn _ (by simp)) h.mbox, hx.cell (hn _ (by simp)) h.dbox, hx.cell (hn _ (by simp)) h.obox,
    (hx.frozen (p := ⟨n0 + 5, 0, none⟩) (hn _ (by simp)) (World.block_lt_of_cell? w _ h.obox)).trans h.ofro, hx.cell (hn _ (by simp)) h.gbox,
    h.row.ext hx (fun k hk hh => (hX k hh).2.2 hk), h.known.ext hx (hn _ (by omega)) (fun k hk hh => hk.1 (hX k hh).2.1), ⟨f, hf.ext hx (hn _ (by omega)), hv⟩,
    h.search.ext hx (fun k hk => hn _ (by have := hk.1; omega)), h.tab.ext hx (hn _ (by omega))⟩
theorem OrdV.no (h : OrdV n0 B M many es S part most E pre v w) (hx : Ext No w w') (hMn : M < n0) : OrdV n0 B M many es S part most E pre v w' := h.ext hx (fun _ h => h.elim) hMn
theorem OrdV.foreign (h : OrdV n0 B M many es S part most E pre v w) (hE : ∀ k, k < w.heap.size → E' k → E k) : OrdV n0 B M many es S part most E' pre v w :=
  { h with known := h.known.imp (fun k hk hh => ⟨fun he => hh.1 (hE k hk he), hh.2⟩), search := h.search.imp (fun k hk hh => ⟨hh.1, fun he => hh.2 (hE k hk he)⟩) }
/-- A cover was looked for. -/
theorem OrdV.covered (h : OrdV n0 B M many es S part most E pre v w) (hx : Ext (fun k => k = M) w w') (hk : KnownR (fun k => ¬ E k ∧ v.ownBlock ≠ some k) w' M S) (hMn : M < n0) : OrdV n0 B M many es S part most E pre v w' := by
  have hn : ∀ k, n0 ≤ k → ¬ (k = M) := fun k hk hh => by omega
  obtain ⟨f, hf, hv⟩ := h.dead
  exact ⟨hx.cell (hn _ (by simp)) h.sbox, hx.cell (hn _ (by simp)) h.pbox, hx.cell (hn _ (by simp)) h.mbox, hx.cell (hn _ (by simp)) h.dbox, hx.cell (hn _ (by simp)) h.obox,
    (hx.frozen (p := ⟨n0 + 5, 0, none⟩) (hn _ (by simp)) (World.block_lt_of_cell? w _ h.obox)).trans h.ofro, hx.cell (hn _ (by simp)) h.gbox,
    h.row.ext hx (fun k hk hh => by have := (h.own hk).1; omega), hk, ⟨f, hf.ext hx (hn _ (by omega)), hv⟩,
    h.search.ext hx (fun k hk => hk.1.2), h.tab.ext hx (fun hh => h.M_pos hh.symm)⟩
/-- What the covers are looked for with. -/
theorem OrdV.search' (h : OrdV n0 B M many es S part most E pre v w) : SearchR (fun k => ¬ E k ∧ v.ownBlock ≠ some k) w B M many es S :=
  h.search.imp (fun k _ hk => ⟨hk.2, fun ho => by have := (h.own ho).1; have := hk.1; omega⟩)
/-- What has been taken turns: a row of one's own grows, or is cut; it is laid into its box. -/
theorem OrdV.taken {w1 : World} {v1 : Value} {pre1 : List Int} (h : OrdV n0 B M many es S part most E pre v w) (hMn : M < n0) (hx : Ext (fun k => some k = v.ownBlock) w w1) (ho : Own (n0 + 7) 3 1 w1 v1 pre1.length (pre1.map (.int .i64)))
    (hb : v1.ownBlock = v.ownBlock ∨ ∃ b, v1.ownBlock = some b ∧ w.heap.size ≤ b) (hc : v1.cells.size = 1) (hE5 : E (n0 + 5)) :
    OrdV n0 B M many es S part most E pre1 v1 (w1.setCell ⟨n0 + 5, 0, none⟩ v1) := by
  have hx2 : Ext (fun k => k = n0 + 5) w1 (w1.setCell ⟨n0 + 5, 0, none⟩ v1) := (Ext.refl (fun k => k = n0 + 5) w1).setCell (p := ⟨n0 + 5, 0, none⟩) (Or.inl rfl) _
  have hx3 : Ext (fun k => some k = v.ownBlock ∨ k = n0 + 5) w (w1.setCell ⟨n0 + 5, 0, none⟩ v1) := (hx.mono (fun _ h => Or.inl h)).trans (hx2.mono (fun _ h => Or.inr h))
  have hn : ∀ k, k < n0 + 7 → k ≠ n0 + 5 → ¬ (some k = v.ownBlock ∨ k = n0 + 5) := fun k hk h5 hh => by
    rcases hh with hh | hh
    · have := (h.own hh.symm).1; omega
    · exact h5 hh
  have hn1 : ∀ k, k < n0 + 7 → ¬ (some k = v.ownBlock) := fun k hk hh => by have := (h.own hh.symm).1; omega
  obtain ⟨f, hf, hv⟩ := h.dead
  have hc1 : w1.cell? ⟨n0 + 5, 0, none⟩ = some v := hx.cell (hn1 _ (by simp)) h.obox
  have hf1 : w1.frozen? ⟨n0 + 5, 0, none⟩ = false := (hx.frozen (p := ⟨n0 + 5, 0, none⟩) (hn1 _ (by simp)) (World.block_lt_of_cell? w _ h.obox)).trans h.ofro
  refine ⟨hx3.cell (hn _ (by simp) (by simp)) h.sbox, hx3.cell (hn _ (by simp) (by simp)) h.pbox, hx3.cell (hn _ (by simp) (by simp)) h.mbox, hx3.cell (hn _ (by simp) (by simp)) h.dbox, World.cell?_setCell_same' _ _ _ (by rw [hc1]; rfl),
    by simp [hf1], hx3.cell (hn _ (by simp) (by simp)) h.gbox, ho.ext hx2 (fun k hk hh => by have := (ho.ge k hk).1; omega), ?_, ⟨f, hf.ext hx3 (hn _ (by omega) (by omega)), hv⟩,
    h.search.ext hx3 (fun k hk => hn _ (by have := hk.1; omega) (by have := hk.1; omega)), h.tab.ext hx3 (hn _ (by have := h.n0_pos; omega) (by have := h.n0_pos; omega))⟩
  refine ((h.known.imp (P' := fun k => (¬ E k ∧ v1.ownBlock ≠ some k) ∧ v.ownBlock ≠ some k) (fun k hk hp => ⟨⟨hp.1, fun hh => ?_⟩, hp.2⟩)).ext hx3 (hn _ (by omega) (by omega)) (fun k hk hh => ?_)).imp (fun k _ hp => hp.1)
  · rcases hb with hb | ⟨b, hb, hbs⟩
    · exact hp.2 (hb ▸ hh)
    · rw [hb, Option.some.injEq] at hh; omega
  · rcases hh with hh | hh
    · exact hk.2 hh.symm
    · exact hk.1.1 (hh ▸ hE5)
/-- It is marked that nothing comes of what is gone. -/
theorem OrdV.marked (h : OrdV n0 B M many es S part most E pre v w) (hMn : M < n0) {gone : Nat} (hg : goX S part most gone = none) (hE : E (n0 + 3)) :
    ∃ w', (Instr.mapUpdate 112 (.map (some (n0 + 3))) (.int .u64 (gone : Int)) (.int .i64 1)).run Tryd.prog w = .ok () w' ∧ OrdV n0 B M many es S part most E pre v w' ∧ Ext (fun k => k = n0 + 3) w w' := by
  obtain ⟨f, hf, hv⟩ := h.dead
  obtain ⟨w', h1, h2, hx, _⟩ := hf.update Tryd.underlying112 Tryd.underlying65 (gone : Int) (.int .i64 1)
  have hn : ∀ k, k ≠ n0 + 3 → ¬ (k = n0 + 3) := fun k hk => hk
  refine ⟨w', h1, ⟨hx.cell (by simp) h.sbox, hx.cell (by simp) h.pbox, hx.cell (by simp) h.mbox, hx.cell (by simp) h.dbox, hx.cell (by simp) h.obox,
    (hx.frozen (p := ⟨n0 + 5, 0, none⟩) (by simp) (World.block_lt_of_cell? w _ h.obox)).trans h.ofro, hx.cell (by simp) h.gbox,
    h.row.ext hx (fun k hk hh => by have := (h.own hk).1; omega), h.known.ext hx (by omega) (fun k hk hh => hk.1 (hh ▸ hE)), ⟨_, h2, fun x u hu => ?_⟩,
    h.search.ext hx (fun k hk => by have := hk.1; omega), h.tab.ext hx (by omega)⟩, hx⟩
  by_cases hxg : x = (gone : Int)
  · simp only [upd, hxg, if_true, Option.some.injEq] at hu
    exact ⟨hu.symm, gone, hxg, hg⟩
  · simp only [upd, hxg, if_false] at hu
    exact hv x u hu
end Go.Proofs.YtceiaekkfabeaaaDoor

namespace Go.Proofs.YtceiaekkfabeaaaDoor
open Go.RowKit Go.Shelf Pl

/-- What the search for an order has answered. -/
def GoPost (n0 B M : Nat) (many : Int) (es : List (List Int)) (S : List Nat) (part : Nat) (most : Int) (r : Option (List Int)) (E : Nat → Prop) (pre : List Int) (v : Value) (w : World) (e : Ending) (w' : World) : Prop :=
  ∃ v', Ext (fun k => k = M ∨ k = n0 + 3 ∨ k = n0 + 5 ∨ some k = v.ownBlock) w w' ∧ (v'.ownBlock = v.ownBlock ∨ ∃ b, v'.ownBlock = some b ∧ w.heap.size ≤ b) ∧
    match r with
    | some path => e = .returned (.bool true) ∧ OrdV n0 B M many es S part most E (pre ++ path) v' w'
    | none => e = .returned (.bool false) ∧ OrdV n0 B M many es S part most E pre v' w'

theorem GoPost.fact {n0 B M : Nat} {many : Int} {es : List (List Int)} {S : List Nat} {part : Nat} {most : Int} {r : Option (List Int)} {E : Nat → Prop} {pre : List Int} {v : Value} {w w' : World} {e : Ending} (h : GoPost n0 B M many es S part most r E pre v w e w') :
    ∃ b v', e = .returned (.bool b) ∧ Ext (fun k => k = M ∨ k = n0 + 3 ∨ k = n0 + 5 ∨ some k = v.ownBlock) w w' ∧ (v'.ownBlock = v.ownBlock ∨ ∃ b, v'.ownBlock = some b ∧ w.heap.size ≤ b) ∧
      (b = true → ∃ path, r = some path ∧ OrdV n0 B M many es S part most E (pre ++ path) v' w') ∧ (b = false → r = none ∧ OrdV n0 B M many es S part most E pre v' w') := by
  obtain ⟨v', hx, hb, hm⟩ := h
  cases r with
  | some path =>
    obtain ⟨rfl, ho⟩ := hm
    exact ⟨true, v', rfl, hx, hb, fun _ => ⟨path, rfl, ho⟩, fun h => by cases h⟩
  | none =>
    obtain ⟨rfl, ho⟩ := hm
    exact ⟨false, v', rfl, hx, hb, fun h => (by cases h), fun _ => ⟨rfl, ho⟩⟩

/-- A row's block is the elder's, or a newer one. -/
def From (z : Nat) (v v' : Value) : Prop := v'.ownBlock = v.ownBlock ∨ ∃ b, v'.ownBlock = some b ∧ z ≤ b
theorem From.trans {z : Nat} {a b c : Value} (h : From z a b) (k : From z b c) : From z a c := by
  rcases k with k | k
  · rcases h with h | ⟨x, h, hx⟩
    · exact Or.inl (k.trans h)
    · exact Or.inr ⟨x, k.trans h, hx⟩
  · exact Or.inr k
theorem From.mono {z z' : Nat} {a b : Value} (h : From z a b) (hz : z' ≤ z) : From z' a b := by
  rcases h with h | ⟨x, h, hx⟩
  · exact Or.inl h
  · exact Or.inr ⟨x, h, Nat.le_trans hz hx⟩
theorem From.block {z k : Nat} {a b : Value} (h : From z a b) (hk : some k = b.ownBlock) : some k = a.ownBlock ∨ z ≤ k := by
  rcases h with h | ⟨x, h, hx⟩
  · exact Or.inl (hk.trans h)
  · rw [h, Option.some.injEq] at hk; exact Or.inr (by omega)
theorem Own.cap {base e n c : Nat} {w : World} {A : Option Addr} {xs : List Value} (h : Own base e 1 w (.slice A n c) n xs) : n ≤ c ∧ (0 < n → ∃ g, A = some ⟨g, 0, none⟩) := by
  rcases h.2 with ⟨hv, hn⟩ | ⟨g, cap, cur, hv, hb, hc, hn, _⟩
  · simp only [Value.slice.injEq] at hv; omega
  · simp only [Value.slice.injEq] at hv
    obtain ⟨rfl, _, rfl⟩ := hv
    exact ⟨hn, fun _ => ⟨g, rfl⟩⟩

/-- The closure's arguments. -/
abbrev goArgs (n0 : Nat) (gone : Int) : Array Value := #[.int .u64 gone, .pointer (some ⟨n0 + 1, 0, none⟩), .pointer (some ⟨n0 + 4, 0, none⟩), .pointer (some ⟨n0, 0, none⟩), .pointer (some ⟨n0 + 2, 0, none⟩), .pointer (some ⟨n0 + 5, 0, none⟩), .pointer (some ⟨n0 + 6, 0, none⟩)]

variable {n0 B M : Nat} {many : Int} {es : List (List Int)} {S : List Nat} {part : Nat} {most : Int} {E : Nat → Prop} {pre : List Int} {v : Value} {w : World}
set_option maxHeartbeats 4000000 in
set_option maxRecDepth 100000 in
theorem goes_done (h : OrdV n0 B M many es S part most E pre v w) (hMn : M < n0) :
    Calls Tryd.prog 76 (goArgs n0 part) w (GoPost n0 B M many es S part most (some []) E pre v w) := by
  have hp : ∀ a b, ((w.alloc a).alloc b).cell? ⟨n0 + 1, 0, none⟩ = some (.int .u64 (part : Int)) := fun a b => (((Ext.refl No w).alloc a).alloc b).no h.pbox
  have H := Sid.mk h
  clear h
  go_enter Tryd.func76, Tryd.ntmps76
  go_wp2
  refine ⟨rfl, .bool true, by simp [results, Tryd.results76, go_sem], v, (((Ext.refl No w).alloc _).alloc _).mono (fun _ h => h.elim), Or.inl rfl, rfl, ?_⟩
  rw [List.append_nil]
  exact H.out.no (((Ext.refl No w).alloc _).alloc _) hMn
theorem zero3 (w : World) : (zeroValue 3).run Tryd.prog w = .ok (.int .i64 0) w := by kernel_rfl

set_option maxHeartbeats 4000000 in
set_option maxRecDepth 100000 in
theorem goes_dead (h : OrdV n0 B M many es S part most E pre v w) (hMn : M < n0) {gone : Nat} (hg : gone ≠ part) {f : Int → Option Value} (hf : MapF .u64 f w (n0 + 3)) (hfg : f gone = some (.int .i64 1)) (hx : goX S part most gone = none) :
    Calls Tryd.prog 76 (goArgs n0 gone) w (GoPost n0 B M many es S part most (goX S part most gone) E pre v w) := by
  have hp : ∀ a b, ((w.alloc a).alloc b).cell? ⟨n0 + 1, 0, none⟩ = some (.int .u64 (part : Int)) := fun a b => (((Ext.refl No w).alloc a).alloc b).no h.pbox
  have hd : ∀ a b, ((w.alloc a).alloc b).cell? ⟨n0 + 4, 0, none⟩ = some (.map (some (n0 + 3))) := fun a b => (((Ext.refl No w).alloc a).alloc b).no h.dbox
  have hne : ((gone : Int) == (part : Int)) = false := by simp; omega
  have hrun := (hf.ext (((Ext.refl No w).alloc (.cells #[.int .u64 (gone : Int)] 65)).alloc (.cells #[.bool false] 4)) (fun h => h)).look Tryd.underlying112 Tryd.underlying65 (zero3 _) (gone : Int) false
  rw [hfg] at hrun
  simp only [Bool.false_eq_true, if_false, Option.getD_some] at hrun
  have H := Sid.mk h
  rw [hx]
  clear h hf hfg hx
  go_enter Tryd.func76, Tryd.ntmps76
  go_wp2
  refine ⟨rfl, .bool false, by simp [results, Tryd.results76, go_sem], v, (((Ext.refl No w).alloc _).alloc _).mono (fun _ h => h.elim), Or.inl rfl, rfl, ?_⟩
  exact H.out.no (((Ext.refl No w).alloc _).alloc _) hMn
end Go.Proofs.YtceiaekkfabeaaaDoor

/- A region that draws its order, walked operation by operation, once each: what is known is told of the slots and of what has been done. -/
namespace Go.Proofs.YtceiaekkfabeaaaDoor
open Go.RowKit

/-- Something of all operations, with their places. -/
def StepsFrom (St : Nat → Oper → Prop) : List Oper → Nat → Prop
  | [], _ => True
  | o :: os, i => St i o ∧ StepsFrom St os (i + 1)
theorem StepsFrom.at {St : Nat → Oper → Prop} : ∀ {os : List Oper} {i : Nat}, StepsFrom St os i → ∀ {j : Nat} {o : Oper}, os[j]? = some o → St (i + j) o
  | [], i, _, j, o, h => by simp at h
  | x :: os, i, h, 0, o, hj => by simp at hj; subst hj; exact h.1
  | x :: os, i, h, j + 1, o, hj => by
    have := h.2.at (j := j) (o := o) (by simpa using hj)
    rwa [Nat.add_assoc, Nat.add_comm 1 j] at this

def setS (s : Nat → Value) (i : Nat) (v : Value) : Nat → Value := fun j => if j = i then v else s j
def setL (l : Nat → Bool) (i : Nat) : Nat → Bool := fun j => if j = i then true else l j

/-- One operation of a region that draws. -/
def SlotStep (F : Fence) (n : Nat) (P : Program) (Q : Exit → Act → World → Prop) (mk : (Nat → Value) → Act) (Ph : (Nat → Value) → (Nat → Bool) → World → Prop) (i : Nat) (o : Oper) : Prop :=
  ∀ (s : Nat → Value) (l : Nat → Bool) (w : World) (K : Act → World → Prop), l i = false → (∀ e ∈ o.after, Region.binds .any e = true → l e.on = true) → Ph s l w →
    (∀ v w', Ph (setS s i v) (setL l i) w' → K ((mk s).put o.dst v) w') → o.wpIn F n P (mk s) w K Q

def okOps (ops : Array Oper) : Bool := (List.range ops.size).all fun i => match ops[i]? with | some o => o.guard.isNone && o.after.all (fun e => decide (e.on < i)) | none => true

theorem slots_any {F : Fence} {n : Nat} {P : Program} {ops : Array Oper} {Q : Exit → Act → World → Prop} {mk : (Nat → Value) → Act} {Ph : (Nat → Value) → (Nat → Bool) → World → Prop} (hok : okOps ops = true)
    (hput : StepsFrom (fun i o => ∀ s v, (mk s).put o.dst v = mk (setS s i v)) ops.toList 0) (hstep : StepsFrom (SlotStep F n P Q mk Ph) ops.toList 0)
    (hend : ∀ s l w', (∀ i, i < ops.size → l i = true) → Ph s l w' → Q .normal (mk s) w') :
    ∀ (fuel : Nat) (listed : Array Bool) (s : Nat → Value) (w : World), listed.size = ops.size → (List.range ops.size).countP (fun j => !listed.getD j false) ≤ fuel → Ph s (fun j => listed.getD j false) w →
      wpAnyIn F n P .any ops Q fuel listed (mk s) w := by
  have hops : ∀ (i : Nat) (o : Oper), ops[i]? = some o → o.guard = none ∧ ∀ e ∈ o.after, e.on < i := fun i o ho => by
    have hi : i < ops.size := (Array.getElem?_eq_some_iff.1 ho).1
    have := List.all_eq_true.1 hok i (List.mem_range.2 hi)
    simp only [ho, Bool.and_eq_true, Array.all_eq_true', decide_eq_true_eq, Option.isNone_iff_eq_none] at this
    exact this
  have hempty : ∀ listed : Array Bool, listed.size = ops.size → Region.ready .any ops listed = [] → ∀ i, i < ops.size → listed.getD i false = true := by
    intro listed hsz hr i
    induction i using Nat.strongRecOn with
    | _ i ih =>
      intro hi
      cases hl : listed.getD i false with
      | true => rfl
      | false =>
        exfalso
        obtain ⟨o, ho⟩ : ∃ o : Oper, ops[i]? = some o := ⟨ops[i], by simp [hi]⟩
        have hmem : i ∈ Region.ready .any ops listed := by
          unfold Region.ready
          rw [List.mem_filter]
          refine ⟨List.mem_range.2 hi, ?_⟩
          have hlt : listed.getD i true = false := by
            have : i < listed.size := by omega
            simp only [Array.getD_eq_getD_getElem?, Array.getElem?_eq_getElem this, Option.getD_some] at hl ⊢
            exact hl
          simp only [hlt, Bool.not_false, Bool.true_and, ho, Option.map_some, Option.getD_some, Array.all_eq_true', Bool.or_eq_true]
          exact fun e he => Or.inr (ih e.on ((hops i o ho).2 e he) (by have := (hops i o ho).2 e he; omega))
        rw [hr] at hmem
        cases hmem
  intro fuel
  induction fuel with
  | zero =>
    intro listed s w hsz hc h
    have hall : ∀ i, i < ops.size → listed.getD i false = true := fun i hi => by
      have : (List.range ops.size).countP (fun j => !listed.getD j false) = 0 := by omega
      rw [List.countP_eq_zero] at this
      simpa using this i (List.mem_range.2 hi)
    refine ⟨?_, hend _ _ _ hall h⟩
    unfold Region.ready
    rw [List.filter_eq_nil_iff]
    intro i hi
    have hi := List.mem_range.1 hi
    have := hall i hi
    have hlt : listed.getD i true = true := by
      have hb : i < listed.size := by omega
      simp only [Array.getD_eq_getD_getElem?, Array.getElem?_eq_getElem hb, Option.getD_some] at this ⊢
      exact this
    simp only [hlt]; simp
  | succ fuel ih =>
    intro listed s w hsz hc h
    refine ⟨fun hr => hend _ _ _ (hempty listed hsz hr) h, fun i hi => ?_⟩
    unfold Region.ready at hi
    rw [List.mem_filter] at hi
    obtain ⟨hi1, hi2⟩ := hi
    have hi1 := List.mem_range.1 hi1
    obtain ⟨o, ho⟩ : ∃ o : Oper, ops[i]? = some o := ⟨ops[i], by simp [hi1]⟩
    simp only [ho, Option.map_some, Option.getD_some, Bool.and_eq_true, Bool.not_eq_true', Array.all_eq_true', Bool.or_eq_true] at hi2
    obtain ⟨hi2, hi3⟩ := hi2
    have hlf : listed.getD i false = false := by
      have hb : i < listed.size := by omega
      simp only [Array.getD_eq_getD_getElem?, Array.getElem?_eq_getElem hb, Option.getD_some] at hi2 ⊢
      exact hi2
    have hset : ∀ j, (listed.setIfInBounds i true).getD j false = setL (fun j => listed.getD j false) i j := fun j => by
      unfold setL
      simp only [Array.getD_eq_getD_getElem?, Array.getElem?_setIfInBounds]
      by_cases hji : i = j
      · subst hji
        rw [if_pos rfl, if_pos (by omega), if_pos rfl]; rfl
      · rw [if_neg hji, if_neg (fun h => hji h.symm)]
    unfold wpOpIn
    simp only [ho]
    rw [if_pos (by simp [Region.wanted, (hops i o ho).1])]
    have hst := hstep.at (j := i) (o := o) (by simpa using ho)
    rw [Nat.zero_add] at hst
    refine hst s (fun j => listed.getD j false) w _ hlf (fun e he hb => by
      rcases hi3 e he with h | h
      · rw [hb] at h; cases h
      · exact h) h (fun v w' hp => ?_)
    have hp1 := hput.at (j := i) (o := o) (by simpa using ho)
    rw [Nat.zero_add] at hp1
    rw [hp1]
    refine ih _ _ _ (by simpa using hsz) ?_ ?_
    · have : (List.range ops.size).countP (fun j => !(listed.setIfInBounds i true).getD j false) < (List.range ops.size).countP (fun j => !listed.getD j false) := by
        have hsplit : List.range ops.size = List.range i ++ i :: List.range' (i + 1) (ops.size - i - 1) := by
          rw [← List.range'_succ, List.range_eq_range', List.range_eq_range']
          rw [show ops.size - i - 1 + 1 = ops.size - i from by omega]
          rw [show ops.size = i + (ops.size - i) from by omega, ← List.range'_append_1]
          simp
        rw [hsplit, List.countP_append, List.countP_append, List.countP_cons, List.countP_cons]
        have e1 : (List.range i).countP (fun j => !(listed.setIfInBounds i true).getD j false) = (List.range i).countP (fun j => !listed.getD j false) := by
          apply List.countP_congr
          intro j hj
          have := List.mem_range.1 hj
          rw [hset, setL, if_neg (by omega)]
        have e2 : (List.range' (i + 1) (ops.size - i - 1)).countP (fun j => !(listed.setIfInBounds i true).getD j false) = (List.range' (i + 1) (ops.size - i - 1)).countP (fun j => !listed.getD j false) := by
          apply List.countP_congr
          intro j hj
          have := List.mem_range'_1.1 hj
          rw [hset, setL, if_neg (by omega)]
        rw [e1, e2, hset, setL, if_pos rfl, hlf]
        simp
      omega
    · have : (fun j => (listed.setIfInBounds i true).getD j false) = setL (fun j => listed.getD j false) i := funext hset
      rw [this]; exact hp

/-- THE LAW: a region that draws its order, by its operations' steps. -/
theorem wpIn_slots {F : Fence} {n : Nat} {P : Program} {id : Nat} {ops : Array Oper} {Q : Exit → Act → World → Prop} {a : Act} {w : World} (mk : (Nat → Value) → Act) (Ph : (Nat → Value) → (Nat → Bool) → World → Prop) (s0 : Nat → Value)
    (hm : P.follows .mixedOrders = true) (hok : okOps ops = true) (hput : StepsFrom (fun i o => ∀ s v, (mk s).put o.dst v = mk (setS s i v)) ops.toList 0) (ha : a = mk s0) (h0 : Ph s0 (fun _ => false) w.drew)
    (hstep : StepsFrom (SlotStep F n P Q mk Ph) ops.toList 0) (hend : ∀ s l w', (∀ i, i < ops.size → l i = true) → Ph s l w' → Q .normal (mk s) w') : (Code.region id ops true).wpIn F n P Q a w := by
  subst ha
  refine wpIn_region_any hm ?_
  refine slots_any hok hput hstep hend _ _ s0 _ (by simp) ?_ ?_
  · refine Nat.le_trans List.countP_le_length (by simp)
  · have : (fun j => (Array.replicate ops.size false).getD j false) = fun _ => false := by
      funext j
      simp only [Array.getD_eq_getD_getElem?, Array.getElem?_replicate]
      split <;> rfl
    rw [this]; exact h0
end Go.Proofs.YtceiaekkfabeaaaDoor
namespace Go.Proofs.YtceiaekkfabeaaaDoor
/-- Values are known beforehand, but for one call's; before it the world is W0, behind it a fact of its value and the world. -/
structure PhC (vals : Nat → Value) (c : Nat) (W0 : World) (Fact : Value → World → Prop) (s : Nat → Value) (l : Nat → Bool) (w : World) : Prop where
  get : ∀ i, l i = true → i ≠ c → s i = vals i
  bef : l c = false → w = W0
  aft : l c = true → Fact (s c) w
variable {vals : Nat → Value} {c : Nat} {W0 : World} {Fact : Value → World → Prop} {s : Nat → Value} {l : Nat → Bool} {w w' : World}
theorem PhC.val (h : PhC vals c W0 Fact s l w) (i : Nat) (hi : i ≠ c) : PhC vals c W0 Fact (setS s i (vals i)) (setL l i) w := by
  refine ⟨fun j hj hjc => ?_, fun hc => h.bef ?_, fun hc => ?_⟩
  · unfold setS
    by_cases hji : j = i
    · subst hji; rw [if_pos rfl]
    · rw [if_neg hji]
      refine h.get j ?_ hjc
      unfold setL at hj; rwa [if_neg hji] at hj
  · unfold setL at hc; rwa [if_neg (fun h => hi h.symm)] at hc
  · unfold setL at hc
    rw [if_neg (fun h => hi h.symm)] at hc
    unfold setS
    rw [if_neg (fun h => hi h.symm)]
    exact h.aft hc
theorem PhC.call (h : PhC vals c W0 Fact s l w) {v : Value} (hf : Fact v w') : PhC vals c W0 Fact (setS s c v) (setL l c) w' := by
  refine ⟨fun j hj hjc => ?_, fun hc => ?_, fun _ => ?_⟩
  · unfold setS
    rw [if_neg hjc]
    refine h.get j ?_ hjc
    unfold setL at hj; rwa [if_neg hjc] at hj
  · unfold setL at hc; simp at hc
  · unfold setS; rw [if_pos rfl]; exact hf
theorem PhC.start : PhC vals c W0 Fact s (fun _ => false) W0 := ⟨by simp, fun _ => rfl, by simp⟩
theorem PhC.world (h : PhC vals c W0 Fact s l w) : w = W0 ∨ ∃ v, Fact v w := by
  cases hc : l c with
  | false => exact Or.inl (h.bef hc)
  | true => exact Or.inr ⟨_, h.aft hc⟩
end Go.Proofs.YtceiaekkfabeaaaDoor
