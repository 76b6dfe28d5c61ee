/- Words and contracts for: DecompAcyclic: for every hypergraph the law answers true, and its arguments read as before. No condition; the library's table math/bits.deBruijn64tab is laid by its text. -/
import Derived.Laws.EntriesVeiled
import Derived.Deep.OwnRows
import Derived.Test.YtceiaekkfabeaaaDoorZyd
namespace Go.Proofs.YtceiaekkfabeaaaDoor
open Go.RowKit Go.Shelf Pl
attribute [local go_sem] Oper.semAt_some
variable {n0 B M : Nat} {many : Int} {es : List (List Int)} {S : List Nat} {part : Nat} {most : Int} {E : Nat → Prop} {pre : List Int} {v : Value} {w : World}

/-- The world behind the closure's own variables. -/
abbrev goW (w : World) (gone m : Nat) : World := ((w.alloc (.cells #[.int .u64 (gone : Int)] 65)).alloc (.cells #[.bool false] 4)).alloc (.cells #[.int .u64 (m : Int)] 65)

/-- Between two rounds: none of those that have come has brought anything. -/
def GoI (n0 B M : Nat) (many : Int) (es : List (List Int)) (S : List Nat) (part : Nat) (most : Int) (E : Nat → Prop) (pre : List Int) (v : Value) (z gone : Nat) (done : List Int) (W : World) : Prop :=
  ∃ vc, OrdV n0 B M many es S part most (fun k => E k ∨ (z ≤ k ∧ k < z + 5)) pre vc W ∧ (vc.ownBlock = v.ownBlock ∨ ∃ b, vc.ownBlock = some b ∧ z + 5 ≤ b) ∧
    W.cell? ⟨z, 0, none⟩ = some (.int .u64 (gone : Int)) ∧ W.cell? ⟨z + 1, 0, none⟩ = some (.bool false) ∧ W.frozen? ⟨z + 1, 0, none⟩ = false ∧ done.findSome? (goY S part most gone) = none
/-- A round has left: an order is found. -/
def GoIx (n0 B M : Nat) (many : Int) (es : List (List Int)) (S : List Nat) (part : Nat) (most : Int) (E : Nat → Prop) (pre : List Int) (v : Value) (z gone : Nat) (_done : List Int) (W : World) : Prop :=
  ∃ vc path, OrdV n0 B M many es S part most (fun k => E k ∨ (z ≤ k ∧ k < z + 5)) (pre ++ path) vc W ∧ (vc.ownBlock = v.ownBlock ∨ ∃ b, vc.ownBlock = some b ∧ z + 5 ≤ b) ∧
    W.cell? ⟨z + 1, 0, none⟩ = some (.bool true) ∧ goX S part most gone = some path
/-- What the rounds may turn. -/
def GoXs (n0 M : Nat) (v : Value) (z : Nat) : Nat → Prop := fun k => k = M ∨ k = n0 + 3 ∨ k = n0 + 5 ∨ some k = v.ownBlock ∨ k = z + 1 ∨ z + 5 ≤ k

theorem goes_post {gone : Nat} {vc : Value} {pre1 : List Int} {W' : World} {r : Option (List Int)} {b : Bool} (h1 : OrdV n0 B M many es S part most (fun k => E k ∨ (w.heap.size ≤ k ∧ k < w.heap.size + 5)) pre1 vc W') (h2 : From (w.heap.size + 5) v vc)
    (hx : Ext (fun k => GoXs n0 M v w.heap.size k ∨ k = w.heap.size + 2 ∨ k = w.heap.size + 3) (goW w gone (sdn part gone)) W')
    (ht : b = true → ∃ path, r = some path ∧ pre1 = pre ++ path) (hf : b = false → r = none ∧ pre1 = pre) : GoPost n0 B M many es S part most r E pre v w (.returned (.bool b)) W' := by
  have ho : OrdV n0 B M many es S part most E pre1 vc W' := h1.foreign (fun k _ hk => Or.inl hk)
  refine ⟨vc, ?_, h2.mono (by omega), ?_⟩
  · refine ((((Ext.refl No w).alloc _).alloc _).alloc _).mono (Y := fun k => k = M ∨ k = n0 + 3 ∨ k = n0 + 5 ∨ some k = v.ownBlock) (fun _ h => h.elim) |>.step hx ?_
    intro i hi hh
    unfold GoXs at hh
    rcases hh with (h | h | h | h | h | h) | h | h
    · exact Or.inl h
    · exact Or.inr (Or.inl h)
    · exact Or.inr (Or.inr (Or.inl h))
    · exact Or.inr (Or.inr (Or.inr h))
    · omega
    · omega
    · omega
    · omega
  · cases b with
    | true =>
      obtain ⟨path, rfl, rfl⟩ := ht rfl
      exact ⟨rfl, ho⟩
    | false =>
      obtain ⟨rfl, rfl⟩ := hf rfl
      exact ⟨rfl, ho⟩

set_option maxHeartbeats 4000000 in
set_option maxRecDepth 100000 in
theorem goes_loop (hS : smallS S) (hSl : S.length ≤ 1000) (hpart : part < 4294967296) (hMn : M < n0) (hcov : ∀ v, v < 32 → part.testBit v = true → ∀ gone, gone < 4294967296 → ∃ r, covO S (arF S v gone) = some r)
    {gone : Nat} (hgl : gone < 4294967296) (ih : ∀ x ∈ membersN (sdn part gone), ∀ (E : Nat → Prop) (pre : List Int) (v : Value) (w : World), OrdV n0 B M many es S part most E pre v w → (∀ k, E k → k < w.heap.size) → E M → E (n0 + 3) → E (n0 + 5) → pre.length + (membersN (sdn part (gone ||| 2 ^ x))).length ≤ 100 →
      Calls Tryd.prog 76 (goArgs n0 ((gone ||| 2 ^ x : Nat) : Int)) w (GoPost n0 B M many es S part most (goX S part most (gone ||| 2 ^ x)) E pre v w))
    (h : OrdV n0 B M many es S part most E pre v w) (hE : ∀ k, E k → k < w.heap.size) (hEM : E M) (hE3 : E (n0 + 3)) (hE5 : E (n0 + 5)) (hpl : pre.length + (membersN (sdn part gone)).length ≤ 100)
    (hg : gone ≠ part) {f : Int → Option Value} (hf : MapF .u64 f w (n0 + 3)) (hfg : f gone = none) :
    Calls Tryd.prog 76 (goArgs n0 gone) w (GoPost n0 B M many es S part most (goX S part most gone) E pre v w) := by
  have hp : ∀ a b, ((w.alloc a).alloc b).cell? ⟨n0 + 1, 0, none⟩ = some (.int .u64 (part : Int)) := fun a b => (((Ext.refl No w).alloc a).alloc b).no h.pbox
  have hd : ∀ a b, ((w.alloc a).alloc b).cell? ⟨n0 + 4, 0, none⟩ = some (.map (some (n0 + 3))) := fun a b => (((Ext.refl No w).alloc a).alloc b).no h.dbox
  have hne : ((gone : Int) == (part : Int)) = false := by simp; omega
  have hrun := (hf.ext (((Ext.refl No w).alloc (.cells #[.int .u64 (gone : Int)] 65)).alloc (.cells #[.bool false] 4)) (fun h => h)).look Tryd.underlying112 Tryd.underlying65 (zero3 _) (gone : Int) false
  rw [hfg] at hrun
  simp only [Bool.false_eq_true, if_false, Option.getD_none] at hrun
  have hand : bits .andNot .u64 (part : Int) (gone : Int) = ((sdn part gone : Nat) : Int) := andNot_u64 hpart hgl
  have H := Sid.mk h
  have hsz := h.size
  clear hf hfg h
  refine (callsIn_wide (n := 0)).1 ?_
  refine callsIn_of_wp_marks Tryd.func76 rfl trivial ?_ rfl
  simp only [goArgs, Tryd.ntmps76, List.size_toArray, List.length_cons, List.length_nil, Nat.reduceAdd, Nat.reduceSub, Array.replicate_succ, Array.replicate_zero, List.push_toArray, List.append_toArray, List.nil_append, List.cons_append]
  gi_wp2_with (refine ⟨trivial, rfl, ?_⟩; gi_at_call 77; refine (callsIn_wide.2 (members_any _ _)).mono ?_; rintro e w1 ⟨rfl, rfl⟩)
  have HW : Sid (OrdV n0 B M many es S part most (fun k => E k ∨ (w.heap.size ≤ k ∧ k < w.heap.size + 5)) pre v (goW w gone (sdn part gone))) :=
    ⟨(H.out.foreign (E' := fun k => E k ∨ (w.heap.size ≤ k ∧ k < w.heap.size + 5)) (fun k hk hh => hh.elim id (fun h => by omega))).no ((((Ext.refl No w).alloc _).alloc _).alloc _) hMn⟩
  have hM0 := H.out.M_pos
  have hn0 := H.out.n0_pos
  have hown : ∀ k, some k = v.ownBlock → n0 + 7 ≤ k ∧ k < w.heap.size := fun k hk => H.out.own hk.symm
  have hwsz : (goW w gone (sdn part gone)).heap.size = w.heap.size + 3 := by simp
  refine wpIn_range_ext (gf := 90) (lb := #[.pointer (some ⟨w.heap.size + 1 + 1, 0, none⟩)]) (Bs := w.heap.size + 1 + 1) (Ok := MemOk (sdn part gone) (w.heap.size + 1 + 1)) rfl enters90 (members_iter (sdn_lt' hpart) (by omega)) MemOk.ext rfl
    (GoI n0 B M many es S part most E pre v w.heap.size gone) (GoIx n0 B M many es S part most E pre v w.heap.size gone) (GoXs n0 M v w.heap.size)
    (by unfold GoXs; rintro (h | h | h | h | h | h) <;> first | omega | (have := hown _ h; omega))
    (by unfold GoXs; rintro (h | h | h | h | h | h) <;> first | omega | (have := hown _ h; omega))
    (by rw [hwsz]; unfold GoXs; rintro (h | h | h | h | h | h) <;> first | omega | (have := hown _ h; omega))
    (by rw [hwsz]; unfold GoXs; rintro (h | h | h | h | h | h) <;> first | omega | (have := hown _ h; omega))
    (by rw [hwsz]; omega) (by omega) ?hI ?hIx ⟨HW.out.tab, by simp [go_sem], by simp [go_sem]⟩ ⟨v, HW.out, Or.inl rfl, by simp [go_sem], by simp [go_sem], by simp [go_sem], rfl⟩
    (fun x => { tmps := #[.int .u64 (gone : Int), .pointer (some ⟨n0 + 1, 0, none⟩), .pointer (some ⟨n0 + 4, 0, none⟩), .pointer (some ⟨n0, 0, none⟩), .pointer (some ⟨n0 + 2, 0, none⟩), .pointer (some ⟨n0 + 5, 0, none⟩), .pointer (some ⟨n0 + 6, 0, none⟩), .pointer (some ⟨w.heap.size, 0, none⟩), .pointer (some ⟨w.heap.size + 1, 0, none⟩), .int .i64 x, .int .u64 (gone : Int), .int .u64 (part : Int), .bool false, .map (some (n0 + 3)), .int .u64 (gone : Int), .int .i64 0, .bool false, .int .u64 (part : Int), .int .u64 (gone : Int), .int .u64 ((sdn part gone : Nat) : Int), .func (.func 90) #[] #[.pointer (some ⟨w.heap.size + 1 + 1, 0, none⟩)], .int .i64 x, undef, undef, undef, undef, undef, undef, undef, undef, undef, undef, undef, undef, undef, undef, undef, undef, undef, undef, undef, undef, undef, undef, undef, undef, undef, undef], defers := [] }) ?assign ?body ?done ?stop
  case hI =>
    rintro done W W' ⟨vc, h1, h2, h3, h4, h5, h6⟩ hx
    rw [hwsz] at hx
    have hsW := h1.size
    have hvc : ∀ k, vc.ownBlock = some k → k < w.heap.size ∨ w.heap.size + 5 ≤ k := fun k hk => by
      rcases h2 with h2 | ⟨b, h2, hb⟩
      · exact Or.inl (hown k (by rw [← h2, hk])).2
      · rw [h2, Option.some.injEq] at hk; omega
    have hl : w.heap.size + 1 < W.heap.size := World.block_lt_of_cell? W _ h4
    exact ⟨vc, h1.ext hx (fun k hk => ⟨by omega, Or.inr (by omega), fun hh => by have := hvc k hh; omega⟩) hMn, h2, hx.cell (by first | (simp; omega) | simp) h3, hx.cell (by first | (simp; omega) | simp) h4, (hx.frozen (p := ⟨w.heap.size + 1, 0, none⟩) (by first | (simp; omega) | simp) hl).trans h5, h6⟩
  case hIx =>
    rintro done W W' ⟨vc, path, h1, h2, h3, h4⟩ hx
    rw [hwsz] at hx
    have hvc : ∀ k, vc.ownBlock = some k → k < w.heap.size ∨ w.heap.size + 5 ≤ k := fun k hk => by
      rcases h2 with h2 | ⟨b, h2, hb⟩
      · exact Or.inl (hown k (by rw [← h2, hk])).2
      · rw [h2, Option.some.injEq] at hk; omega
    exact ⟨vc, path, h1.ext hx (fun k hk => ⟨by omega, Or.inr (by omega), fun hh => by have := hvc k hh; omega⟩) hMn, h2, hx.cell (by first | (simp; omega) | simp) h3, h4⟩
  case assign =>
    intro l x W K hK
    gi_wp2
    exact hK
  case body =>
    rintro l done x post W hL ⟨vc, h1, h2, h3, h4, h5, h6⟩ hsW
    have hxm : x ∈ membersL (sdn part gone) := by rw [hL]; simp
    obtain ⟨u, rfl, hu⟩ := membersL_mem.1 hxm
    obtain ⟨hu32, hub⟩ := membersN_mem.1 hu
    rw [sdn_testBit, Bool.and_eq_true] at hub
    obtain ⟨rr, hrr⟩ := hcov u hu32 hub.1 gone hgl
    have hlen : covLen S (arF S u gone) = rr.length := by simp [covLen, hrr]
    have hal : arF S u gone < 4294967296 := arF_lt hS hu32
    rw [hwsz] at hsW
    have hE1 : ∀ k, (E k ∨ (w.heap.size ≤ k ∧ k < w.heap.size + 5)) → k < W.heap.size := fun k hk => by
      rcases hk with hk | hk
      · have := hE k hk; omega
      · omega
    have hsb := h1.sbox
    have hmb := h1.mbox
    have H1 := Sid.mk h1
    have HD : Sid (OrdV n0 B M many es S part most (fun k => E k ∨ (w.heap.size ≤ k ∧ k < w.heap.size + 5)) pre vc W.drew) := ⟨h1.no (Ext.refl No W).drew hMn⟩
    have HH2 := Sid.mk h2
    have H6 := Sid.mk h6
    have HRR := Sid.mk hrr
    clear h1 h2 h6 hrr
    obtain ⟨Fact, hFact⟩ : ∃ Fact : Value → World → Prop, Fact = fun v w' => Ext (fun k => k = M) W.drew w' ∧ IntsR .i64 (fun k => ¬(E k ∨ (w.heap.size ≤ k ∧ k < w.heap.size + 5)) ∧ vc.ownBlock ≠ some k) w' v rr ∧ KnownR (fun k => ¬(E k ∨ (w.heap.size ≤ k ∧ k < w.heap.size + 5)) ∧ vc.ownBlock ≠ some k) w' M S := ⟨_, rfl⟩
    have HF := Sid.mk hFact
    clear hFact
    obtain ⟨vals, hvals⟩ : ∃ vals : Nat → Value, vals = fun i => #[.pointer (some ⟨B, 0, none⟩), .pointer (some ⟨B, 0, none⟩), .int .i64 (u : Int), .int .u64 (gone : Int), .int .u64 (arF S u gone : Nat), undef, .int .i64 (rr.length : Int), .int .i64 most, .bool (decide (most < (rr.length : Int)))].getD i undef := ⟨_, rfl⟩
    have HVL := Sid.mk hvals
    clear hvals
    have hwo : ∀ w', (w' = W.drew ∨ ∃ v, Fact v w') → w'.cell? ⟨n0, 0, none⟩ = some (.pointer (some ⟨B, 0, none⟩)) ∧ w'.cell? ⟨n0 + 2, 0, none⟩ = some (.int .i64 most) ∧ w'.cell? ⟨w.heap.size, 0, none⟩ = some (.int .u64 (gone : Int)) := by
      rw [HF.out]
      rintro w' (rfl | ⟨v, hx, _, _⟩)
      · exact ⟨HD.out.sbox, HD.out.mbox, h3⟩
      · exact ⟨hx.cell (by simp; omega) HD.out.sbox, hx.cell (by simp; omega) HD.out.mbox, hx.cell (p := ⟨w.heap.size, 0, none⟩) (by simp; omega) h3⟩
    gi_wp2
    refine wpIn_slots (fun s => { tmps := #[.int .u64 (gone : Int), .pointer (some ⟨n0 + 1, 0, none⟩), .pointer (some ⟨n0 + 4, 0, none⟩), .pointer (some ⟨n0, 0, none⟩), .pointer (some ⟨n0 + 2, 0, none⟩), .pointer (some ⟨n0 + 5, 0, none⟩), .pointer (some ⟨n0 + 6, 0, none⟩), .pointer (some ⟨w.heap.size, 0, none⟩), .pointer (some ⟨w.heap.size + 1, 0, none⟩), .int .i64 (u : Int), .int .u64 (gone : Int), .int .u64 (part : Int), .bool false, .map (some (n0 + 3)), .int .u64 (gone : Int), .int .i64 0, .bool false, .int .u64 (part : Int), .int .u64 (gone : Int), .int .u64 ((sdn part gone : Nat) : Int), .func (.func 90) #[] #[.pointer (some ⟨w.heap.size + 1 + 1, 0, none⟩)], .int .i64 (u : Int), s 0, s 1, s 2, s 3, s 4, s 5, s 6, s 7, s 8, undef, undef, undef, undef, undef, undef, undef, undef, undef, undef, undef, undef, undef, undef, undef, undef, undef], defers := [] })
      (PhC vals 5 W.drew Fact) (fun _ => undef) (by kernel_rfl) (by kernel_rfl) ⟨fun _ _ => rfl, fun _ _ => rfl, fun _ _ => rfl, fun _ _ => rfl, fun _ _ => rfl, fun _ _ => rfl, fun _ _ => rfl, fun _ _ => rfl, fun _ _ => rfl, trivial⟩ rfl PhC.start ⟨?s0, ?s1, ?s2, ?s3, ?s4, ?s5, ?s6, ?s7, ?s8, trivial⟩ ?hend
    case s0 =>
      intro s l' w' K hl hd hp hK
      obtain ⟨hc1, hc2, hc3⟩ := hwo w' hp.world
      have HP := Sid.mk (hp.val 0 (by decide))
      rw [HVL.out] at HP
      clear hp hd
      gi_wp2
      rw [← HVL.out] at HP
      exact HP.out
    case s1 =>
      intro s l' w' K hl hd hp hK
      obtain ⟨hc1, hc2, hc3⟩ := hwo w' hp.world
      have HP := Sid.mk (hp.val 1 (by decide))
      rw [HVL.out] at HP
      clear hp hd
      gi_wp2
      rw [← HVL.out] at HP
      exact HP.out
    case s2 =>
      intro s l' w' K hl hd hp hK
      obtain ⟨hc1, hc2, hc3⟩ := hwo w' hp.world
      have HP := Sid.mk (hp.val 2 (by decide))
      rw [HVL.out] at HP
      clear hp hd
      gi_wp2
      rw [← HVL.out] at HP
      exact HP.out
    case s3 =>
      intro s l' w' K hl hd hp hK
      obtain ⟨hc1, hc2, hc3⟩ := hwo w' hp.world
      have HP := Sid.mk (hp.val 3 (by decide))
      rw [HVL.out] at HP
      clear hp hd
      gi_wp2
      rw [← HVL.out] at HP
      exact HP.out
    case s4 =>
      intro s l' w' K hl hd hp hK
      have e1 : s 1 = .pointer (some ⟨B, 0, none⟩) := (hp.get 1 (hd { on := 1, ground := .data } (by simp) rfl) (by decide)).trans (by rw [HVL.out]; rfl)
      have e2 : s 2 = .int .i64 (u : Int) := (hp.get 2 (hd { on := 2, ground := .data } (by simp) rfl) (by decide)).trans (by rw [HVL.out]; rfl)
      have e3 : s 3 = .int .u64 (gone : Int) := (hp.get 3 (hd { on := 3, ground := .data } (by simp) rfl) (by decide)).trans (by rw [HVL.out]; rfl)
      simp only [e1, e2, e3] at hK
      have hsr : SearchR (fun k => (k < n0 ∧ k ≠ M) ∧ ¬ (E k ∨ (w.heap.size ≤ k ∧ k < w.heap.size + 5))) w' B M many es S := by
        rcases hp.world with rfl | ⟨v, hv⟩
        · exact HD.out.search
        · rw [HF.out] at hv; exact HD.out.search.ext hv.1 (fun k hk => hk.1.2)
      have HP := Sid.mk (hp.val 4 (by decide))
      rw [HVL.out] at HP
      have HSR := Sid.mk hsr
      clear hp hd hsr
      gi_wp2_with (refine ⟨trivial, rfl, ?_⟩; gi_at_call 78; refine (CallsIn.inRound l (callsIn_wide.2 (sAround_any B M many es S _ HSR.out hS u gone hu32 hgl))).mono ?_; rintro e w1 ⟨rfl, rfl⟩)
      rw [← HVL.out] at HP
      exact HP.out
    case s5 =>
      intro s l' w' K hl hd hp hK
      have e0 : s 0 = .pointer (some ⟨B, 0, none⟩) := (hp.get 0 (hd { on := 0, ground := .data } (by simp) rfl) (by decide)).trans (by rw [HVL.out]; rfl)
      have e4 : s 4 = .int .u64 (arF S u gone : Nat) := (hp.get 4 (hd { on := 4, ground := .data } (by simp) rfl) (by decide)).trans (by rw [HVL.out]; rfl)
      obtain rfl := hp.bef hl
      simp only [e0, e4] at hK
      have HP := Sid.mk hp
      clear hp hd
      gi_wp2_with (refine ⟨trivial, rfl, ?_⟩; gi_at_call 36; refine (CallsIn.inRound l (callsIn_wide.2 (cover_any B M many es S hS hSl (arF S u gone) rr _ HD.out.search' HD.out.known HRR.out hal (fun k hk => ⟨fun hh => by have := hE1 k hh; simp at hk; omega, fun hh => by have := (H1.out.own hh).2; simp at hk; omega⟩) (fun hh => hh.1 (Or.inl hEM))))).mono ?_; rintro e w1 ⟨v1, rfl, hr1, hx1, hk1⟩; have HC := Sid.mk (HP.out.call (show Fact v1 w1 by rw [HF.out]; exact ⟨hx1, hr1, hk1⟩)); clear hr1 hx1 hk1)
      exact HC.out
    case s6 =>
      intro s l' w' K hl hd hp hK
      have hf := hp.aft (hd { on := 5, ground := .data } (by simp) rfl)
      rw [HF.out] at hf
      obtain ⟨A1, c1, e5, _⟩ := hf.2.1.at
      simp only [e5] at hK
      have HP := Sid.mk (hp.val 6 (by decide))
      rw [HVL.out] at HP
      clear hp hd hf
      gi_wp2
      rw [← HVL.out] at HP
      exact HP.out
    case s7 =>
      intro s l' w' K hl hd hp hK
      obtain ⟨hc1, hc2, hc3⟩ := hwo w' hp.world
      have HP := Sid.mk (hp.val 7 (by decide))
      rw [HVL.out] at HP
      clear hp hd
      gi_wp2
      rw [← HVL.out] at HP
      exact HP.out
    case s8 =>
      intro s l' w' K hl hd hp hK
      have e6 : s 6 = .int .i64 (rr.length : Int) := (hp.get 6 (hd { on := 6, ground := .data } (by simp) rfl) (by decide)).trans (by rw [HVL.out]; rfl)
      have e7 : s 7 = .int .i64 most := (hp.get 7 (hd { on := 7, ground := .data } (by simp) rfl) (by decide)).trans (by rw [HVL.out]; rfl)
      simp only [e6, e7] at hK
      have HP := Sid.mk (hp.val 8 (by decide))
      rw [HVL.out] at HP
      clear hp hd
      gi_wp2
      rw [← HVL.out] at HP
      exact HP.out
    case hend =>
      intro s l' w' hl hp
      have hf := hp.aft (hl 5 (by decide))
      rw [HF.out] at hf
      obtain ⟨hx1, hr1, hk1⟩ := hf
      have hob : OrdV n0 B M many es S part most (fun k => E k ∨ (w.heap.size ≤ k ∧ k < w.heap.size + 5)) pre vc w' := HD.out.covered hx1 hk1 hMn
      have hc0 : w'.cell? ⟨w.heap.size, 0, none⟩ = some (.int .u64 (gone : Int)) := hx1.cell (by simp; omega) h3
      have hc1 : w'.cell? ⟨w.heap.size + 1, 0, none⟩ = some (.bool false) := hx1.cell (by simp; omega) h4
      have hf1 : w'.frozen? ⟨w.heap.size + 1, 0, none⟩ = false := (hx1.frozen (p := ⟨w.heap.size + 1, 0, none⟩) (by simp; omega) (World.block_lt_of_cell? W.drew _ h4)).trans h5
      have e8 : s 8 = .bool (decide (most < (rr.length : Int))) := (hp.get 8 (hl 8 (by decide)) (by decide)).trans (by rw [HVL.out]; rfl)
      have hsx : w.heap.size + 5 ≤ w'.heap.size := by have := hx1.size; simp at this; omega
      have HOB := Sid.mk hob
      have HXW : Sid (Ext (fun k => k = M) W w') := ⟨((Ext.refl (fun k => k = M) W).drew).trans hx1⟩
      clear hp hx1 hr1 hk1 hl hob hwo h3 h4 h5 hsb hmb
      dsimp only
      by_cases hbig : most < (rr.length : Int)
      · rw [decide_eq_true hbig] at e8
        simp only [e8]
        gi_wp2
        refine ⟨HXW.out.mono (fun k h => Or.inl h), vc, HOB.out, HH2.out, hc0, hc1, hf1, findSome_snoc H6.out ?_⟩
        simp only [goY, Int.toNat_natCast, hlen, if_pos hbig]
      · rw [decide_eq_false hbig] at e8
        simp only [e8]
        have ho0 := HOB.out.obox
        have hof := HOB.out.ofro
        have hrow := HOB.out.row
        obtain ⟨A, c, rfl⟩ := Own.slice hrow
        have HR := Sid.mk hrow
        clear hrow
        gi_wp2_with (gi_at_builtin; refine app1In (n0 + 7) rfl (.tmp 31) (.tmp 33) 28 3 (.int .i64 0) 8 rfl Tryd.underlying28 info3 rfl (by decide) (.slice A pre.length c) _ _ _ rfl rfl (by simp) rfl HR.out (by omega) (by omega) ?_; intro v1 w1 ho1 hx1 hb1 hs1; obtain ⟨A1, c1, rfl⟩ := hs1; have ho1b := hx1.cell (p := ⟨n0 + 5, 0, none⟩) (fun hh => by have := (HR.out.ge _ hh.symm).1; simp at this <;> omega) ho0; have hof1 := (hx1.frozen (p := ⟨n0 + 5, 0, none⟩) (fun hh => by have := (HR.out.ge _ hh.symm).1; simp at this <;> omega) (by simp; omega)).trans hof; have HX1 := Sid.mk hx1; have HO1 := Sid.mk ho1; have HB1 := Sid.mk hb1; clear hx1 ho1 hb1)
        have hown1 : ∀ k, some k = (Value.slice A1 (pre.length + 1) c1).ownBlock → some k = v.ownBlock ∨ w.heap.size + 5 ≤ k := fun k hk => by
          rcases HB1.out with hb | ⟨b, hb, hbs⟩
          · rw [hb] at hk
            rcases HH2.out with h2 | ⟨b, h2, hb2⟩
            · exact Or.inl (by rw [← h2, hk])
            · rw [h2, Option.some.injEq] at hk; exact Or.inr (by omega)
          · rw [hb, Option.some.injEq] at hk; exact Or.inr (by omega)
        have hord2 : OrdV n0 B M many es S part most (fun k => E k ∨ (w.heap.size ≤ k ∧ k < w.heap.size + 5)) (pre ++ [(u : Int)]) (.slice A1 (pre.length + 1) c1) (w1.setCell ⟨n0 + 5, 0, none⟩ (.slice A1 (pre.length + 1) c1)) :=
          HOB.out.taken hMn HX1.out (by rw [List.map_append, List.length_append]; exact HO1.out) HB1.out rfl (Or.inl hE5)
        have hxa : Ext (fun k => some k = (Value.slice A pre.length c).ownBlock ∨ k = n0 + 5) w' (w1.setCell ⟨n0 + 5, 0, none⟩ (.slice A1 (pre.length + 1) c1)) := (HX1.out.mono (fun _ h => Or.inl h)).trans (((Ext.refl (fun k => k = n0 + 5) w1).setCell (p := ⟨n0 + 5, 0, none⟩) (Or.inl rfl) _).mono (fun _ h => Or.inr h))
        have hvo : ∀ k, some k = (Value.slice A pre.length c).ownBlock → some k = v.ownBlock ∨ w.heap.size + 5 ≤ k := fun k hk => by
          rcases HH2.out with h2 | ⟨b, h2, hb2⟩
          · exact Or.inl (by rw [← h2, hk])
          · rw [h2, Option.some.injEq] at hk; exact Or.inr (by omega)
        obtain ⟨W2, hW2⟩ : ∃ W2, w1.setCell ⟨n0 + 5, 0, none⟩ (.slice A1 (pre.length + 1) c1) = W2 := ⟨_, rfl⟩
        rw [hW2] at hord2 hxa ⊢
        have hnx : ∀ k, (some k = (Value.slice A pre.length c).ownBlock ∨ k = n0 + 5) → k ≠ w.heap.size ∧ k ≠ w.heap.size + 1 := fun k hk => by
          rcases hk with hk | hk
          · rcases hvo _ hk with h | h
            · have := (hown _ h).2; omega
            · omega
          · omega
        have hg2 : W2.cell? ⟨w.heap.size, 0, none⟩ = some (.int .u64 (gone : Int)) := hxa.cell (fun hh => (hnx _ hh).1 rfl) hc0
        have hr2 : W2.cell? ⟨w.heap.size + 1, 0, none⟩ = some (.bool false) := hxa.cell (fun hh => (hnx _ hh).2 rfl) hc1
        have hf2 : W2.frozen? ⟨w.heap.size + 1, 0, none⟩ = false := (hxa.frozen (p := ⟨w.heap.size + 1, 0, none⟩) (fun hh => (hnx _ hh).2 rfl) (by simp; omega)).trans hf1
        have hgb := hord2.gbox
        have hsz2 : w.heap.size + 5 ≤ W2.heap.size := Nat.le_trans hsx hxa.size
        have HO2 := Sid.mk hord2
        have HXA := Sid.mk hxa
        have HVO := Sid.mk hvo
        have HOW1 := Sid.mk hown1
        clear hord2 hxa hvo hown1 hc0 hc1 hf1 hof1 ho1b ho0 hof
        obtain ⟨Fact2, hFact2⟩ : ∃ Fact2 : Value → World → Prop, Fact2 = fun vv w3 => ∃ b v', vv = .bool b ∧ Ext (fun k => k = M ∨ k = n0 + 3 ∨ k = n0 + 5 ∨ some k = (Value.slice A1 (pre.length + 1) c1).ownBlock) W2.drew w3 ∧ (v'.ownBlock = (Value.slice A1 (pre.length + 1) c1).ownBlock ∨ ∃ b, v'.ownBlock = some b ∧ W2.heap.size ≤ b) ∧
          (b = true → ∃ path, goX S part most (gone ||| 2 ^ u) = some path ∧ OrdV n0 B M many es S part most (fun k => E k ∨ (w.heap.size ≤ k ∧ k < w.heap.size + 5)) ((pre ++ [(u : Int)]) ++ path) v' w3) ∧
          (b = false → goX S part most (gone ||| 2 ^ u) = none ∧ OrdV n0 B M many es S part most (fun k => E k ∨ (w.heap.size ≤ k ∧ k < w.heap.size + 5)) (pre ++ [(u : Int)]) v' w3) := ⟨_, rfl⟩
        have HF2 := Sid.mk hFact2
        clear hFact2
        obtain ⟨vals2, hvals2⟩ : ∃ vals2 : Nat → Value, vals2 = fun i => #[.func (.func 76) #[] #[.pointer (some ⟨n0 + 1, 0, none⟩), .pointer (some ⟨n0 + 4, 0, none⟩), .pointer (some ⟨n0, 0, none⟩), .pointer (some ⟨n0 + 2, 0, none⟩), .pointer (some ⟨n0 + 5, 0, none⟩), .pointer (some ⟨n0 + 6, 0, none⟩)], .int .u64 (gone : Int), .int .i64 (u : Int), .int .u64 ((2 ^ u : Nat) : Int), .int .u64 ((gone ||| 2 ^ u : Nat) : Int)].getD i undef := ⟨_, rfl⟩
        have HVL2 := Sid.mk hvals2
        clear hvals2
        have hn2 : ∀ k, (k = M ∨ k = n0 + 3 ∨ k = n0 + 5 ∨ some k = (Value.slice A1 (pre.length + 1) c1).ownBlock) → k ≠ n0 + 6 ∧ k ≠ w.heap.size ∧ k ≠ w.heap.size + 1 := fun k hk => by
          rcases hk with hk | hk | hk | hk
          · omega
          · omega
          · omega
          · have := (HO2.out.own hk.symm).1
            rcases HOW1.out _ hk with h | h
            · have := hown _ h; omega
            · omega
        have hwo2 : ∀ w', (w' = W2.drew ∨ ∃ v, Fact2 v w') → w'.cell? ⟨n0 + 6, 0, none⟩ = some (.func (.func 76) #[] #[.pointer (some ⟨n0 + 1, 0, none⟩), .pointer (some ⟨n0 + 4, 0, none⟩), .pointer (some ⟨n0, 0, none⟩), .pointer (some ⟨n0 + 2, 0, none⟩), .pointer (some ⟨n0 + 5, 0, none⟩), .pointer (some ⟨n0 + 6, 0, none⟩)]) ∧ w'.cell? ⟨w.heap.size, 0, none⟩ = some (.int .u64 (gone : Int)) := by
          rw [HF2.out]
          rintro w' (rfl | ⟨v, b, v', _, hx, _⟩)
          · exact ⟨hgb, hg2⟩
          · exact ⟨hx.cell (fun hh => (hn2 _ hh).1 rfl) hgb, hx.cell (p := ⟨w.heap.size, 0, none⟩) (fun hh => (hn2 _ hh).2.1 rfl) hg2⟩
        have HWO2 := Sid.mk hwo2
        clear hwo2
        refine wpIn_slots (fun t => { tmps := #[.int .u64 (gone : Int), .pointer (some ⟨n0 + 1, 0, none⟩), .pointer (some ⟨n0 + 4, 0, none⟩), .pointer (some ⟨n0, 0, none⟩), .pointer (some ⟨n0 + 2, 0, none⟩), .pointer (some ⟨n0 + 5, 0, none⟩), .pointer (some ⟨n0 + 6, 0, none⟩), .pointer (some ⟨w.heap.size, 0, none⟩), .pointer (some ⟨w.heap.size + 1, 0, none⟩), .int .i64 (u : Int), .int .u64 (gone : Int), .int .u64 (part : Int), .bool false, .map (some (n0 + 3)), .int .u64 (gone : Int), .int .i64 0, .bool false, .int .u64 (part : Int), .int .u64 (gone : Int), .int .u64 ((sdn part gone : Nat) : Int), .func (.func 90) #[] #[.pointer (some ⟨w.heap.size + 1 + 1, 0, none⟩)], .int .i64 (u : Int), s 0, s 1, s 2, s 3, s 4, s 5, s 6, s 7, .bool false,
            .slice A pre.length c, .int .i64 (u : Int), .slice (some ⟨w'.heap.size, 0, none⟩) 1 1, .slice A1 (pre.length + 1) c1, t 0, t 1, t 2, t 3, t 4, t 5, undef, undef, undef, undef, undef, undef, undef], defers := [] })
          (PhC vals2 5 W2.drew Fact2) (fun _ => undef) (by kernel_rfl) (by kernel_rfl) ⟨fun _ _ => rfl, fun _ _ => rfl, fun _ _ => rfl, fun _ _ => rfl, fun _ _ => rfl, fun _ _ => rfl, trivial⟩ rfl PhC.start ⟨?t0, ?t1, ?t2, ?t3, ?t4, ?t5, trivial⟩ ?hend2
        case t0 =>
          intro s l' w' K hl hd hp hK
          obtain ⟨hd1, hd2⟩ := HWO2.out w' hp.world
          have HP := Sid.mk (hp.val 0 (by decide))
          rw [HVL2.out] at HP
          clear hp hd
          gi_wp2
          rw [← HVL2.out] at HP
          exact HP.out
        case t1 =>
          intro s l' w' K hl hd hp hK
          obtain ⟨hd1, hd2⟩ := HWO2.out w' hp.world
          have HP := Sid.mk (hp.val 1 (by decide))
          rw [HVL2.out] at HP
          clear hp hd
          gi_wp2
          rw [← HVL2.out] at HP
          exact HP.out
        case t2 =>
          intro s l' w' K hl hd hp hK
          have HP := Sid.mk (hp.val 2 (by decide))
          rw [HVL2.out] at HP
          clear hp hd
          gi_wp2
          rw [← HVL2.out] at HP
          exact HP.out
        case t3 =>
          intro s l' w' K hl hd hp hK
          have e2 : s 2 = .int .i64 (u : Int) := (hp.get 2 (hd { on := 2, ground := .data } (by simp) rfl) (by decide)).trans (by rw [HVL2.out]; rfl)
          simp only [e2] at hK
          have HP := Sid.mk (hp.val 3 (by decide))
          rw [HVL2.out] at HP
          clear hp hd
          gi_wp2
          rw [← HVL2.out] at HP
          rw [wrap_pow hu32]
          exact HP.out
        case t4 =>
          intro s l' w' K hl hd hp hK
          have e1 : s 1 = .int .u64 (gone : Int) := (hp.get 1 (hd { on := 1, ground := .data } (by simp) rfl) (by decide)).trans (by rw [HVL2.out]; rfl)
          have e3 : s 3 = .int .u64 ((2 ^ u : Nat) : Int) := (hp.get 3 (hd { on := 3, ground := .data } (by simp) rfl) (by decide)).trans (by rw [HVL2.out]; rfl)
          have hor : bits .or .u64 (gone : Int) ((2 ^ u : Nat) : Int) = ((gone ||| 2 ^ u : Nat) : Int) := or_u64 hgl (pow_lt_32 hu32)
          obtain ⟨pu, hpu⟩ : ∃ pu : Int, ((2 ^ u : Nat) : Int) = pu := ⟨_, rfl⟩
          obtain ⟨gu, hgu⟩ : ∃ gu : Int, ((gone ||| 2 ^ u : Nat) : Int) = gu := ⟨_, rfl⟩
          rw [hpu] at e3 hor
          rw [hgu] at hor
          simp only [e1, e3] at hK
          have HP := Sid.mk (hp.val 4 (by decide))
          rw [HVL2.out] at HP
          have HGU := Sid.mk hgu
          have HOR := Sid.mk hor
          clear hp hd hgu hpu hor
          gi_wp2
          rw [← HVL2.out] at HP
          rw [HOR.out, ← HGU.out]
          exact HP.out
        case t5 =>
          intro s l' w' K hl hd hp hK
          have e0 : s 0 = .func (.func 76) #[] #[.pointer (some ⟨n0 + 1, 0, none⟩), .pointer (some ⟨n0 + 4, 0, none⟩), .pointer (some ⟨n0, 0, none⟩), .pointer (some ⟨n0 + 2, 0, none⟩), .pointer (some ⟨n0 + 5, 0, none⟩), .pointer (some ⟨n0 + 6, 0, none⟩)] := (hp.get 0 (hd { on := 0, ground := .data } (by simp) rfl) (by decide)).trans (by rw [HVL2.out]; rfl)
          have e4 : s 4 = .int .u64 ((gone ||| 2 ^ u : Nat) : Int) := (hp.get 4 (hd { on := 4, ground := .data } (by simp) rfl) (by decide)).trans (by rw [HVL2.out]; rfl)
          obtain rfl := hp.bef hl
          obtain ⟨gu, hgu⟩ : ∃ gu : Int, ((gone ||| 2 ^ u : Nat) : Int) = gu := ⟨_, rfl⟩
          rw [hgu] at e4
          simp only [e0, e4] at hK
          have HP := Sid.mk hp
          have HD2 : Sid (OrdV n0 B M many es S part most (fun k => E k ∨ (w.heap.size ≤ k ∧ k < w.heap.size + 5)) (pre ++ [(u : Int)]) (.slice A1 (pre.length + 1) c1) W2.drew) := ⟨HO2.out.no (Ext.refl No W2).drew hMn⟩
          have hlen2 : (pre ++ [(u : Int)]).length + (membersN (sdn part (gone ||| 2 ^ u))).length ≤ 100 := by
            have := membersN_drop hu
            rw [sdn_or, List.length_append]; simp; omega
          have HIH : Sid (Calls Tryd.prog 76 (goArgs n0 gu) W2.drew (GoPost n0 B M many es S part most (goX S part most (gone ||| 2 ^ u)) (fun k => E k ∨ (w.heap.size ≤ k ∧ k < w.heap.size + 5)) (pre ++ [(u : Int)]) (.slice A1 (pre.length + 1) c1) W2.drew)) :=
            ⟨by rw [← hgu]; exact ih u hu _ _ _ _ HD2.out (fun k hk => by
              have h1 : k < W2.drew.heap.size := by
                rcases hk with hk | hk
                · have := hE k hk; simp; omega
                · simp; omega
              exact h1) (Or.inl hEM) (Or.inl hE3) (Or.inl hE5) hlen2⟩
          clear hp hd hgu
          gi_wp2_with (refine ⟨trivial, rfl, ?_⟩; gi_at_call 76; refine (CallsIn.inRound l (callsIn_wide.2 HIH.out)).mono ?_; rintro e w3 hgp; obtain ⟨b, v', rfl, hfa⟩ := hgp.fact; have HC := Sid.mk (HP.out.call (v := .bool b) (w' := w3) (show Fact2 _ _ by rw [HF2.out]; exact ⟨b, v', rfl, hfa⟩)); clear hgp hfa)
          exact HC.out
        case hend2 =>
          intro t l' w' hl hp
          have hf := hp.aft (hl 5 (by decide))
          rw [HF2.out] at hf
          obtain ⟨b, v', e5, hx3, hb3, htrue, hfalse⟩ := hf
          have hr3 : w'.cell? ⟨w.heap.size + 1, 0, none⟩ = some (.bool false) := hx3.cell (fun hh => (hn2 _ hh).2.2 rfl) hr2
          have hf3 : w'.frozen? ⟨w.heap.size + 1, 0, none⟩ = false := (hx3.frozen (p := ⟨w.heap.size + 1, 0, none⟩) (fun hh => (hn2 _ hh).2.2 rfl) (by simp; omega)).trans hf2
          have hg3 : w'.cell? ⟨w.heap.size, 0, none⟩ = some (.int .u64 (gone : Int)) := hx3.cell (fun hh => (hn2 _ hh).2.1 rfl) hg2
          have HX3 := Sid.mk hx3
          have HB3 := Sid.mk hb3
          have HTR := Sid.mk htrue
          have HFA := Sid.mk hfalse
          clear hp hl hx3 hb3 htrue hfalse
          have hfrom : From (w.heap.size + 5) v v' := (From.trans HH2.out ((show From _ _ _ from HB1.out).mono hsx)).trans ((show From _ _ _ from HB3.out).mono hsz2)
          have HFR := Sid.mk hfrom
          have hX4 : Sid (Ext (GoXs n0 M v w.heap.size) W w') := ⟨((HXW.out.mono (Y := GoXs n0 M v w.heap.size) (fun k hk => Or.inl hk)).trans (HXA.out.mono (fun k hk => by
              unfold GoXs
              rcases hk with hk | hk
              · rcases HVO.out _ hk with h | h
                · exact Or.inr (Or.inr (Or.inr (Or.inl h)))
                · omega
              · omega))).trans (((Ext.refl _ W2).drew).trans (HX3.out.mono (fun k hk => by
              unfold GoXs
              rcases hk with hk | hk | hk | hk
              · omega
              · omega
              · omega
              · rcases HOW1.out _ hk with h | h
                · exact Or.inr (Or.inr (Or.inr (Or.inl h)))
                · omega)))⟩
          clear hfrom
          dsimp only
          simp only [e5]
          cases b with
          | true =>
            obtain ⟨path, hgp, ho⟩ := HTR.out rfl
            have HGP := Sid.mk hgp
            have HO4 := Sid.mk ho
            clear hgp ho HTR HFA
            gi_wp2
            have hgp := HGP.out
            have ho := HO4.out
            have hx5 : Ext (fun k => k = w.heap.size + 1) w' (w'.setCell ⟨w.heap.size + 1, 0, none⟩ (.bool true)) := (Ext.refl (fun k => k = w.heap.size + 1) w').setCell (p := ⟨w.heap.size + 1, 0, none⟩) (Or.inl rfl) _
            refine ⟨hX4.out.trans (hx5.mono (fun k hk => by unfold GoXs; omega)), v', (u : Int) :: path, ?_, HFR.out, World.cell?_setCell_same' _ _ _ (by rw [hr3]; rfl), ?_⟩
            · have ho' := ho.ext hx5 (fun k hk => ⟨by omega, Or.inr (by omega), fun hh => by
                rcases HFR.out.block hh.symm with h | h
                · have := hown _ h; omega
                · omega⟩) hMn
              rwa [List.append_assoc] at ho'
            · rw [goX_step hg, hL]
              refine findSome_pre H6.out ?_
              simp only [goY, Int.toNat_natCast, hlen, hgp, Option.map_some]
              rw [if_neg (by omega)]
          | false =>
            obtain ⟨hgn, ho⟩ := HFA.out rfl
            have hob3 := ho.obox
            have hof3 := ho.ofro
            have hrow := ho.row
            rw [List.map_append, List.length_append] at hrow
            obtain ⟨A2, c2, rfl⟩ := Own.slice hrow
            have hrow' : Own (n0 + 7) 3 1 w' (.slice A2 (pre.length + 1) c2) (pre.length + 1) (pre.map (.int .i64) ++ [.int .i64 (u : Int)]) := hrow
            obtain ⟨hcap, hA2⟩ := hrow'.cap
            obtain ⟨g2, rfl⟩ := hA2 (by omega)
            simp only [List.length_cons, List.length_nil, Nat.zero_add] at hob3
            have hs1 : (((pre.length + 1 : Nat) : Int) - 1) = (pre.length : Int) := by omega
            have HOR3 := Sid.mk ho
            have HRW3 := Sid.mk hrow'
            have HGN := Sid.mk hgn
            clear ho hrow hrow' hgn HTR HFA
            gi_wp2
            have hx5 : Ext (fun k => k = n0 + 5) w' (w'.setCell ⟨n0 + 5, 0, none⟩ (.slice (some ⟨g2, 0, none⟩) pre.length c2)) := (Ext.refl (fun k => k = n0 + 5) w').setCell (p := ⟨n0 + 5, 0, none⟩) (Or.inl rfl) _
            have ho5 := HOR3.out.taken (v1 := .slice (some ⟨g2, 0, none⟩) pre.length c2) (pre1 := pre) hMn (Ext.refl _ w') HRW3.out.trunc (Or.inl rfl) rfl (Or.inl hE5)
            refine ⟨hX4.out.trans (hx5.mono (fun k hk => by unfold GoXs; omega)), _, ho5, HFR.out, hx5.cell (p := ⟨w.heap.size, 0, none⟩) (by simp; omega) hg3, hx5.cell (p := ⟨w.heap.size + 1, 0, none⟩) (by simp; omega) hr3, (hx5.frozen (p := ⟨w.heap.size + 1, 0, none⟩) (by simp; omega) (World.block_lt_of_cell? w' _ hr3)).trans hf3, findSome_snoc H6.out ?_⟩
            simp only [goY, Int.toNat_natCast, hlen, HGN.out, Option.map_none]
            split <;> rfl
  case done =>
    rintro W ⟨vc, h1, h2, h3, h4, h5, h6⟩ hx hK
    rw [hwsz] at hK
    have hgn : goX S part most gone = none := by rw [goX_step hg]; exact h6
    obtain ⟨W2, hrun2, ho2, hx2⟩ := h1.marked hMn hgn (Or.inl hE3)
    have hd2 := h1.dbox
    have hr2 : W2.cell? ⟨w.heap.size + 1, 0, none⟩ = some (.bool false) := hx2.cell (by simp; omega) h4
    have hf2 : W2.frozen? ⟨w.heap.size + 1, 0, none⟩ = false := (hx2.frozen (p := ⟨w.heap.size + 1, 0, none⟩) (by simp; omega) (World.block_lt_of_cell? W _ h4)).trans h5
    have hK2 : W2.heap[w.heap.size + 3]? = some (.deferred (some [])) := hx2.heap (by omega) hK
    have HO2 := Sid.mk ho2
    have HX2 := Sid.mk hx2
    have HX := Sid.mk hx
    have HH2 := Sid.mk h2
    have HGN := Sid.mk hgn
    clear h1 ho2 hx2 hx h2 h6 hgn
    gi_wp2
    rw [hwsz]
    have hx3 : Ext (fun k => k = w.heap.size + 1) W2 (W2.setCell ⟨w.heap.size + 1, 0, none⟩ (.bool false)) := (Ext.refl (fun k => k = w.heap.size + 1) W2).setCell (p := ⟨w.heap.size + 1, 0, none⟩) (Or.inl rfl) _
    have hK3 := hx3.heap (by omega) hK2
    have hx4 : Ext (fun k => k = w.heap.size + 3) (W2.setCell ⟨w.heap.size + 1, 0, none⟩ (.bool false)) ((W2.setCell ⟨w.heap.size + 1, 0, none⟩ (.bool false)).putObj (w.heap.size + 3) (.deferred none)) := (Ext.refl (fun k => k = w.heap.size + 3) _).putObj rfl _
    have hc3 : ((W2.setCell ⟨w.heap.size + 1, 0, none⟩ (.bool false)).putObj (w.heap.size + 3) (.deferred none)).cell? ⟨w.heap.size + 1, 0, none⟩ = some (.bool false) := hx4.cell (by simp) (World.cell?_setCell_same' _ _ _ (by rw [hr2]; rfl))
    refine ⟨by simp, .inl ⟨w.heap.size + 3, _, by simp, run_takeDeferred hK3, ?_⟩⟩
    refine ⟨.bool false, by simp [results, Tryd.results76, go_sem, hc3], ?_⟩
    have hxx : Ext (fun k => k = w.heap.size + 1 ∨ k = w.heap.size + 3) W2 ((W2.setCell ⟨w.heap.size + 1, 0, none⟩ (.bool false)).putObj (w.heap.size + 3) (.deferred none)) := (hx3.mono (fun k hk => Or.inl hk)).trans (hx4.mono (fun k hk => Or.inr hk))
    refine goes_post (gone := gone) (HO2.out.ext hxx (fun k hk => ⟨by omega, Or.inr (by omega), fun hh => by
      rcases (show From _ _ _ from HH2.out).block hh.symm with h | h
      · have := hown _ h; omega
      · omega⟩) hMn) HH2.out ?_ (fun h => by cases h) (fun _ => ⟨HGN.out, rfl⟩)
    refine ((HX.out.mono (Y := fun k => GoXs n0 M v w.heap.size k ∨ k = w.heap.size + 2 ∨ k = w.heap.size + 3) (fun k hk => ?_)).trans (HX2.out.mono (fun k hk => ?_))).trans (hxx.mono (fun k hk => ?_))
    · rcases hk with hk | hk
      · exact Or.inl hk
      · exact Or.inr (Or.inl hk)
    · exact Or.inl (Or.inr (Or.inl hk))
    · rcases hk with hk | hk
      · exact Or.inl (by unfold GoXs; omega)
      · exact Or.inr (Or.inr hk)
  case stop =>
    rintro pre' post W _ ⟨vc, path, h1, h2, h3, h4⟩ hx hK
    rw [hwsz] at hK
    have hx3 : Ext (fun k => k = w.heap.size + 3) W (W.putObj (w.heap.size + 3) (.deferred none)) := (Ext.refl (fun k => k = w.heap.size + 3) W).putObj rfl _
    have hc3 : (W.putObj (w.heap.size + 3) (.deferred none)).cell? ⟨w.heap.size + 1, 0, none⟩ = some (.bool true) := hx3.cell (by simp) h3
    refine ⟨by simp, .inl ⟨w.heap.size + 3, _, by simp, run_takeDeferred hK, ?_⟩⟩
    refine ⟨.bool true, by simp [results, Tryd.results76, go_sem, hc3], ?_⟩
    refine goes_post (gone := gone) (h1.ext hx3 (fun k hk => ⟨by omega, Or.inr (by omega), fun hh => by
      rcases (show From _ _ _ from h2).block hh.symm with h | h
      · have := hown _ h; omega
      · omega⟩) hMn) h2 ?_ (fun _ => ⟨path, h4, rfl⟩) (fun h => by cases h)
    refine (hx.mono (Y := fun k => GoXs n0 M v w.heap.size k ∨ k = w.heap.size + 2 ∨ k = w.heap.size + 3) (fun k hk => ?_)).trans (hx3.mono (fun k hk => Or.inr (Or.inr hk)))
    rcases hk with hk | hk
    · exact Or.inl hk
    · exact Or.inr (Or.inl hk)
end Go.Proofs.YtceiaekkfabeaaaDoor

namespace Go.Proofs.YtceiaekkfabeaaaDoor
open Go.RowKit Go.Shelf Pl
variable {n0 B M : Nat} {many : Int} {es : List (List Int)} {S : List Nat} {part : Nat} {most : Int}

theorem goes_any (hS : smallS S) (hSl : S.length ≤ 1000) (hpart : part < 4294967296) (hMn : M < n0) (hcov : ∀ v, v < 32 → part.testBit v = true → ∀ gone, gone < 4294967296 → ∃ r, covO S (arF S v gone) = some r) :
    ∀ (m gone : Nat) (E : Nat → Prop) (pre : List Int) (v : Value) (w : World), (membersN (sdn part gone)).length ≤ m → gone < 4294967296 → OrdV n0 B M many es S part most E pre v w → (∀ k, E k → k < w.heap.size) → E M → E (n0 + 3) → E (n0 + 5) → pre.length + (membersN (sdn part gone)).length ≤ 100 →
      Calls Tryd.prog 76 (goArgs n0 (gone : Int)) w (GoPost n0 B M many es S part most (goX S part most gone) E pre v w) := by
  intro m
  induction m with
  | zero =>
    intro gone E pre v w hm hgl h hE hEM hE3 hE5 hpl
    by_cases hg : gone = part
    · subst hg
      rw [goX_part]
      exact goes_done h hMn
    · obtain ⟨f, hf, hv⟩ := h.dead
      cases hfg : f gone with
      | some u =>
        obtain ⟨rfl, g, hgg, hx⟩ := hv _ _ hfg
        obtain rfl : gone = g := by omega
        exact goes_dead h hMn hg hf hfg hx
      | none =>
        refine goes_loop hS hSl hpart hMn hcov hgl (fun x hx => ?_) h hE hEM hE3 hE5 hpl hg hf hfg
        have := List.length_pos_of_mem hx
        omega
  | succ m ih =>
    intro gone E pre v w hm hgl h hE hEM hE3 hE5 hpl
    by_cases hg : gone = part
    · subst hg
      rw [goX_part]
      exact goes_done h hMn
    · obtain ⟨f, hf, hv⟩ := h.dead
      cases hfg : f gone with
      | some u =>
        obtain ⟨rfl, g, hgg, hx⟩ := hv _ _ hfg
        obtain rfl : gone = g := by omega
        exact goes_dead h hMn hg hf hfg hx
      | none =>
        refine goes_loop hS hSl hpart hMn hcov hgl (fun x hx E pre v w h hE hEM hE3 hE5 hpl => ?_) h hE hEM hE3 hE5 hpl hg hf hfg
        have hd := membersN_drop hx
        exact ih (gone ||| 2 ^ x) E pre v w (by rw [sdn_or]; omega) (or_lt hgl (pow_lt_32 (membersN_mem.1 hx).1)) h hE hEM hE3 hE5 hpl

/-- The world where the search for an order begins. -/
abbrev ordW (w : World) (B part : Nat) (most : Int) : World :=
  ((((((w.alloc (.cells #[.pointer (some ⟨B, 0, none⟩)] 62)).alloc (.cells #[.int .u64 (part : Int)] 65)).alloc (.cells #[.int .i64 most] 3)).alloc (.map #[] 0)).alloc (.cells #[.map (some (w.heap.size + 1 + 1 + 1))] 112)).alloc (.cells #[.slice none 0 0] 28)).alloc
    (.cells #[.func (.func 76) #[] #[.pointer (some ⟨w.heap.size + 1, 0, none⟩), .pointer (some ⟨w.heap.size + 1 + 1 + 1 + 1, 0, none⟩), .pointer (some ⟨w.heap.size, 0, none⟩), .pointer (some ⟨w.heap.size + 1 + 1, 0, none⟩), .pointer (some ⟨w.heap.size + 1 + 1 + 1 + 1 + 1, 0, none⟩), .pointer (some ⟨w.heap.size + 1 + 1 + 1 + 1 + 1 + 1, 0, none⟩)]] 84)
theorem ordW_ext (w : World) (B part : Nat) (most : Int) : Ext No w (ordW w B part most) := (((((((Ext.refl No w).alloc _).alloc _).alloc _).alloc _).alloc _).alloc _).alloc _

theorem ordV_start {P : Nat → Prop} {w : World} (h : SearchR P w B M many es S) (hK : KnownR P w M S) (hPM : ¬ P M) (hT : TabW w) :
    OrdV w.heap.size B M many es S part most (fun k => k = M ∨ (w.heap.size ≤ k ∧ k < w.heap.size + 7) ∨ (k < w.heap.size ∧ ¬ P k)) [] (.slice none 0 0) (ordW w B part most) where
  sbox := by simp [go_sem]
  pbox := by simp [go_sem]
  mbox := by simp [go_sem]
  dbox := by simp [go_sem]
  obox := by simp [go_sem]
  ofro := by simp [go_sem]
  gbox := by simp [go_sem]
  row := Own.nil _ _ _ _
  known := (hK.imp (fun k hk hp => ⟨fun he => by
    rcases he with he | he | he
    · exact hPM (he ▸ hp)
    · omega
    · exact he.2 hp, by simp [Value.ownBlock]⟩)).no (ordW_ext w B part most)
  dead := ⟨fun _ => none, by
    have h1 := MapF.made .u64 (((w.alloc (.cells #[.pointer (some ⟨B, 0, none⟩)] 62)).alloc (.cells #[.int .u64 (part : Int)] 65)).alloc (.cells #[.int .i64 most] 3))
    have h2 := h1.ext ((((Ext.refl No _).alloc (.cells #[.map (some (w.heap.size + 1 + 1 + 1))] 112)).alloc (.cells #[.slice none 0 0] 28)).alloc (.cells #[.func (.func 76) #[] #[.pointer (some ⟨w.heap.size + 1, 0, none⟩), .pointer (some ⟨w.heap.size + 1 + 1 + 1 + 1, 0, none⟩), .pointer (some ⟨w.heap.size, 0, none⟩), .pointer (some ⟨w.heap.size + 1 + 1, 0, none⟩), .pointer (some ⟨w.heap.size + 1 + 1 + 1 + 1 + 1, 0, none⟩), .pointer (some ⟨w.heap.size + 1 + 1 + 1 + 1 + 1 + 1, 0, none⟩)]] 84)) (fun h => h)
    simpa using h2, by simp⟩
  search := (h.imp (fun k hk hp => ⟨⟨hk, fun he => hPM (he ▸ hp)⟩, fun he => by
    rcases he with he | he | he
    · exact hPM (he ▸ hp)
    · omega
    · exact he.2 hp⟩)).no (ordW_ext w B part most)
  tab := hT.no (ordW_ext w B part most)

/-- What a search for a part's order answers. -/
def ordB (r : Option (List Int)) : Bool := r.isSome
def ordL (r : Option (List Int)) : List Int := r.getD []

theorem GoPost.all {n0 B M : Nat} {many : Int} {es : List (List Int)} {S : List Nat} {part : Nat} {most : Int} {r : Option (List Int)} {E : Nat → Prop} {v : Value} {w w' : World} {e : Ending} (h : GoPost n0 B M many es S part most r E [] v w e w') :
    ∃ A c, e = .returned (.bool (ordB r)) ∧ Ext (fun k => k = M ∨ k = n0 + 3 ∨ k = n0 + 5 ∨ some k = v.ownBlock) w w' ∧ OrdV n0 B M many es S part most E (ordL r) (.slice A (ordL r).length c) w' := by
  obtain ⟨v', hx, hb, hm⟩ := h
  cases r with
  | some path =>
    obtain ⟨rfl, ho⟩ := hm
    rw [List.nil_append] at ho
    obtain ⟨A, c, rfl⟩ := Own.slice ho.row
    exact ⟨A, c, rfl, hx, ho⟩
  | none =>
    obtain ⟨rfl, ho⟩ := hm
    obtain ⟨A, c, rfl⟩ := Own.slice ho.row
    exact ⟨A, c, rfl, hx, ho⟩

set_option maxHeartbeats 4000000 in
set_option maxRecDepth 100000 in
theorem order_any (hS : smallS S) (hSl : S.length ≤ 1000) (hpart : part < 4294967296) (hcov : ∀ v, v < 32 → part.testBit v = true → ∀ gone, gone < 4294967296 → ∃ r, covO S (arF S v gone) = some r)
    {P : Nat → Prop} {w : World} (h : SearchR P w B M many es S) (hK : KnownR P w M S) (hP : ∀ k, w.heap.size ≤ k → P k) (hPM : ¬ P M) (hT : TabW w) :
    Calls Tryd.prog 44 #[.pointer (some ⟨B, 0, none⟩), .int .u64 (part : Int), .int .i64 most] w fun e w' => ∃ v', e = .returned (.tuple #[v', .bool (ordB (goX S part most 0))]) ∧ IntsR .i64 (fun k => w.heap.size ≤ k) w' v' (ordL (goX S part most 0)) ∧ Ext (fun k => k = M) w w' ∧ KnownR P w' M S := by
  have hmm := fun w => run_makeMap (P := Tryd.prog) 112 w
  have hMl := hK.lt
  have HG : Sid (Calls Tryd.prog 76 (goArgs w.heap.size ((0 : Nat) : Int)) (ordW w B part most) (GoPost w.heap.size B M many es S part most (goX S part most 0) (fun k => k = M ∨ (w.heap.size ≤ k ∧ k < w.heap.size + 7) ∨ (k < w.heap.size ∧ ¬ P k)) [] (.slice none 0 0) (ordW w B part most))) :=
    ⟨goes_any hS hSl hpart hMl hcov _ 0 _ [] _ _ (Nat.le_refl _) (by omega) (ordV_start h hK hPM hT) (fun k hk => by simp; omega) (Or.inl rfl) (Or.inr (Or.inl (by omega))) (Or.inr (Or.inl (by omega))) (by have := membersN_len (sdn part 0); simp; omega)⟩
  have H := Sid.mk h
  have HK := Sid.mk hK
  have HT := Sid.mk hT
  clear h hK hT
  go_enter Tryd.func44, Tryd.ntmps44
  go_wp2_with (go_at_call 76; refine HG.out.mono ?_; rintro e w1 hgp; obtain ⟨A, c, rfl, hx1, ho1⟩ := hgp.all; have hob : w1.cell? ⟨w.heap.size + 1 + 1 + 1 + 1 + 1, 0, none⟩ = some (.slice A (ordL (goX S part most 0)).length c) := ho1.obox; have HX1 := Sid.mk hx1; have HO1 := Sid.mk ho1; clear hgp hx1 ho1)
  go_ret2
  have hsz := HX1.out.size
  simp at hsz
  refine ⟨_, rfl, ints_own HO1.out.row (by have := goX_len S part most 0; unfold ordL; omega) (fun k hk => by have := (HO1.out.own hk).1; omega), ?_, ?_⟩
  · exact ((ordW_ext w B part most).mono (Y := fun k => k = M) (fun _ h => h.elim)).step HX1.out (fun i hi hh => by
      rcases hh with hh | hh | hh | hh
      · exact hh
      · omega
      · omega
      · simp [Value.ownBlock] at hh)
  · refine HO1.out.known.imp (fun k _ hp => ?_)
    rcases Nat.lt_or_ge k w.heap.size with hk | hk
    · exact Classical.byContradiction fun hh => hp.1 (Or.inr (Or.inr ⟨hk, hh⟩))
    · exact hP k hk
end Go.Proofs.YtceiaekkfabeaaaDoor

/- Bags of an order, plainly; and words for the walk. -/
namespace Go.Proofs.YtceiaekkfabeaaaDoor
open Go.RowKit Go.Shelf Pl

section
variable {P : Program} {w : World} {ops : Array Oper} {rest : List Oper} {o : Oper} {a : Act} {Q : Exit → Act → World → Prop}
theorem wpList_updF (hg : o.guard = none) (m x v : Operand) (t kt et : TypeId) (q : IntKind) (hop : o.op = Op.mapUpdate t m x v) (ht : P.underlying t = some (.map kt et)) (hk : P.underlying kt = some (.int q))
    {M : Nat} {xi : Int} {vv : Value} {f : Int → Option Value} (hm : a.eval m = .map (some M)) (hx : a.eval x = .int q xi) (hv : a.eval v = vv) (h : MapF q f w M)
    (hK : ∀ w', MapF q (upd f xi vv) w' M → Ext (fun k => k = M) w w' → wpList P ops Q rest (a.put o.dst undef) w') : wpList P ops Q (o :: rest) a w := by
  obtain ⟨w', hrun, h1, h2, _⟩ := h.update ht hk xi vv
  exact wpList_update w hg m x v t hop hm hx hv hrun (hK w' h1 h2)
theorem wpList_lookF (hg : o.guard = none) (m x : Operand) (t kt et : TypeId) (q : IntKind) (hop : o.op = Op.lookup t m x false) (ht : P.underlying t = some (.map kt et)) (hk : P.underlying kt = some (.int q))
    {M : Nat} {xi : Int} {z v : Value} {f : Int → Option Value} (hz : (zeroValue et).run P w = .ok z w) (hm : a.eval m = .map (some M)) (hx : a.eval x = .int q xi) (h : MapF q f w M) (hf : f xi = some v)
    (hK : wpList P ops Q rest (a.put o.dst v) w) : wpList P ops Q (o :: rest) a w := by
  have hrun := h.look ht hk hz xi false
  rw [hf] at hrun
  exact wpList_look w hg m x t false hop hm hx (by simpa using hrun) hK
end

/-- What is around a vertex of an order when those ahead of it are gone. -/
def arI (S : List Nat) (ord : List Int) (k : Nat) : Nat := arF S (ord.getD k 0).toNat (ofTo (ord.take k))
/-- Where an order's vertices stand among the bags. -/
def posF (ord : List Int) (behind : Int) : Nat → Int → Option Value
  | 0 => fun _ => none
  | k + 1 => upd (posF ord behind k) (ord.getD k 0) (.int .i64 (behind + ord.length - 1 - k))
/-- The bag on which a bag hangs: that of the first vertex behind it that is around it. -/
def parF (ord : List Int) (behind : Int) (ar : Nat) (i : Nat) : Int :=
  match (List.range' (i + 1) (ord.length - (i + 1))).find? (fun j => ar.testBit (ord.getD j 0).toNat) with
  | some j => behind + ord.length - 1 - j
  | none => -1
/-- The bag of an order's vertex. -/
def bagI (S : List Nat) (ord : List Int) (behind : Int) (i : Nat) : Bag := ⟨membersL (arI S ord i), (covO S (arI S ord i)).getD [], parF ord behind (arI S ord i) i⟩
/-- The bags of an order, so many of them. -/
def bagsL (S : List Nat) (ord : List Int) (behind : Int) (m : Nat) : List Bag := (List.range m).map fun k => bagI S ord behind (ord.length - 1 - k)
theorem bagsL_succ (S : List Nat) (ord : List Int) (behind : Int) (m : Nat) : bagsL S ord behind (m + 1) = bagsL S ord behind m ++ [bagI S ord behind (ord.length - 1 - m)] := by
  simp [bagsL, List.range_succ]
theorem posF_old {ord : List Int} {behind : Int} : ∀ {k j : Nat}, k ≤ ord.length → ord.Nodup → j < k → posF ord behind k (ord.getD j 0) = some (.int .i64 (behind + ord.length - 1 - j))
  | 0, j, _, _, h => by omega
  | k + 1, j, hk, hn, h => by
    unfold posF upd
    by_cases hjk : j = k
    · subst hjk; simp
    · rw [if_neg, posF_old (by omega) hn (by omega)]
      intro he
      have h1 : j < ord.length := by omega
      have h2 : k < ord.length := by omega
      simp only [List.getD_eq_getElem?_getD, List.getElem?_eq_getElem h1, List.getElem?_eq_getElem h2, Option.getD_some] at he
      exact hjk ((List.getElem_inj hn).1 he)
theorem zero3' (w : World) : (zeroValue 3).run Tryd.prog w = .ok (.int .i64 0) w := zero3 w
theorem shr_bit {a u : Nat} (ha : a < 4294967296) : (bits .and .u64 ((a : Int) / 2 ^ u) 1 == 1) = a.testBit u := by
  have h1 : ((a : Int) / 2 ^ u) = ((a / 2 ^ u : Nat) : Int) := by
    rw [Int.natCast_ediv, Int.natCast_pow]; rfl
  have h2 : a / 2 ^ u < 4294967296 := Nat.lt_of_le_of_lt (Nat.div_le_self _ _) ha
  rw [h1, show (1 : Int) = ((1 : Nat) : Int) from rfl, and_u64 h2 (by omega), Nat.testBit, Nat.shiftRight_eq_div_pow, Nat.and_comm 1]
  have : a / 2 ^ u &&& 1 < 2 := Nat.and_lt_two_pow _ (n := 1) (by omega)
  rcases (by omega : a / 2 ^ u &&& 1 = 0 ∨ a / 2 ^ u &&& 1 = 1) with h | h <;> rw [h] <;> rfl
theorem parF_none {ord : List Int} {behind : Int} {ar i : Nat} (h : ∀ q, q < ord.length - (i + 1) → ar.testBit (ord.getD (i + 1 + q) 0).toNat = false) : parF ord behind ar i = -1 := by
  have : (List.range' (i + 1) (ord.length - (i + 1))).find? (fun j => ar.testBit (ord.getD j 0).toNat) = none := by
    rw [List.find?_eq_none]
    intro j hj
    obtain ⟨h1, h2⟩ := List.mem_range'_1.1 hj
    have := h (j - (i + 1)) (by omega)
    rw [show i + 1 + (j - (i + 1)) = j from by omega] at this
    rw [this]; simp
  rw [parF, this]
theorem parF_some {ord : List Int} {behind : Int} {ar i q : Nat} (hq : q < ord.length - (i + 1)) (h : ∀ p, p < q → ar.testBit (ord.getD (i + 1 + p) 0).toNat = false) (ht : ar.testBit (ord.getD (i + 1 + q) 0).toNat = true) : parF ord behind ar i = behind + ord.length - 1 - (i + 1 + q : Nat) := by
  have : (List.range' (i + 1) (ord.length - (i + 1))).find? (fun j => ar.testBit (ord.getD j 0).toNat) = some (i + 1 + q) := by
    rw [show ord.length - (i + 1) = q + (1 + (ord.length - (i + 1) - q - 1)) from by omega, ← List.range'_append_1, ← List.range'_append_1, List.find?_append, List.find?_append]
    have h1 : (List.range' (i + 1) q).find? (fun j => ar.testBit (ord.getD j 0).toNat) = none := by
      rw [List.find?_eq_none]
      intro j hj
      obtain ⟨h1, h2⟩ := List.mem_range'_1.1 hj
      have := h (j - (i + 1)) (by omega)
      rw [show i + 1 + (j - (i + 1)) = j from by omega] at this
      rw [this]; simp
    rw [h1]
    simp only [List.range'_one, List.find?_singleton, ht, if_true]
    rfl
  rw [parF, this]
end Go.Proofs.YtceiaekkfabeaaaDoor

/- The parts of a hypergraph: the plain answer, and the walk over hyper.Parts. -/
namespace Go.Proofs.YtceiaekkfabeaaaDoor
open Go.RowKit Go.Shelf Pl

/-- An edge meets a part, and isn't in it. -/
def meetsB (p s : Nat) : Bool := (s &&& p != 0) && (sdn s p != 0)
/-- A part grows, as long as an edge meets it. -/
def growF (S : List Nat) : Nat → Nat → Nat
  | 0, p => p
  | n + 1, p => match S.find? (meetsB p) with | some s => growF S n (p ||| s) | none => p
def growX (S : List Nat) (p : Nat) : Nat := growF S 32 p
theorem growX_eq (S : List Nat) (p : Nat) : growX S p = growF S 32 p := rfl
theorem growF_none {S : List Nat} {p : Nat} (h : S.find? (meetsB p) = none) : ∀ n, growF S n p = p
  | 0 => rfl
  | n + 1 => by rw [growF, h]
theorem growF_some {S : List Nat} {p s : Nat} (h : S.find? (meetsB p) = some s) (n : Nat) : growF S (n + 1) p = growF S n (p ||| s) := by rw [growF, h]
theorem growF_lt {S : List Nat} (hS : smallS S) : ∀ n p, p < 4294967296 → growF S n p < 4294967296
  | 0, p, h => h
  | n + 1, p, h => by
    rw [growF]
    cases hf : S.find? (meetsB p) with
    | none => exact h
    | some s => exact growF_lt hS n _ (or_lt h (hS s (List.mem_of_find?_eq_some hf)))
theorem members_sub_len {a b : Nat} (h : ∀ i, i < 32 → a.testBit i = true → b.testBit i = true) : (membersN a).length ≤ (membersN b).length := by
  unfold membersN
  rw [← List.countP_eq_length_filter, ← List.countP_eq_length_filter]
  exact List.countP_mono_left fun i hi ha => h i (List.mem_range.1 hi) ha
theorem members_or_len {p s : Nat} (hs : s < 4294967296) (h : meetsB p s = true) : (membersN p).length + 1 ≤ (membersN (p ||| s)).length := by
  simp only [meetsB, Bool.and_eq_true, bne_iff_ne, ne_eq] at h
  obtain ⟨i, hi⟩ := Nat.exists_testBit_of_ne_zero h.2
  rw [sdn_testBit, Bool.and_eq_true, Bool.not_eq_true'] at hi
  have h32 : i < 32 := Classical.byContradiction fun hh => by
    rw [Nat.testBit_lt_two_pow (Nat.lt_of_lt_of_le hs (by simpa using Nat.pow_le_pow_right (n := 2) (by omega) (by omega : 32 ≤ i)))] at hi
    exact absurd hi.1 (by simp)
  have hm : i ∈ membersN (p ||| s) := membersN_mem.2 ⟨h32, by simp [hi.1]⟩
  have h1 := membersN_drop hm
  have h2 : (membersN p).length ≤ (membersN (sdn (p ||| s) (2 ^ i))).length := members_sub_len fun j hj ha => by
    rw [sdn_testBit, Nat.testBit_or, ha, Nat.testBit_two_pow]
    by_cases hij : i = j
    · subst hij; rw [hi.2] at ha; cases ha
    · simp [hij]
  omega
/-- All parts, and what they have met. -/
def partsF (S : List Nat) (n : Nat) : List Nat × Nat :=
  (List.range n).foldl (fun om v => if om.2.testBit v then om else (om.1 ++ [growX S (2 ^ v)], om.2 ||| growX S (2 ^ v))) ([], 0)
theorem partsF_succ (S : List Nat) (n : Nat) : partsF S (n + 1) = if (partsF S n).2.testBit n then partsF S n else ((partsF S n).1 ++ [growX S (2 ^ n)], (partsF S n).2 ||| growX S (2 ^ n)) := by
  rw [partsF, List.range_succ, List.foldl_append]; rfl
theorem partsF_lt {S : List Nat} (hS : smallS S) : ∀ n, n ≤ 32 → (partsF S n).2 < 4294967296
  | 0, _ => by show (0 : Nat) < _; omega
  | n + 1, h => by
    rw [partsF_succ]
    split
    · exact partsF_lt hS n (by omega)
    · exact or_lt (partsF_lt hS n (by omega)) (growF_lt hS _ _ (pow_lt_32 (by omega)))
theorem partsF_len (S : List Nat) : ∀ n, (partsF S n).1.length ≤ n
  | 0 => Nat.le_refl _
  | n + 1 => by
    have := partsF_len S n
    rw [partsF_succ]
    split
    · omega
    · simp; omega
def partsL (S : List Nat) (n : Nat) : List Nat := (partsF S n).1
theorem ofTo_one (v : Nat) : ofTo [(v : Int)] = 2 ^ v := by simp [ofTo]
theorem members_pow_len {v : Nat} (hv : v < 32) : 1 ≤ (membersN (2 ^ v)).length := by
  have : v ∈ membersN (2 ^ v) := membersN_mem.2 ⟨hv, by simp⟩
  exact List.length_pos_of_mem this

set_option maxHeartbeats 1600000 in
theorem sets_any {P : Nat → Prop} (many : Int) (ev : Value) (es : List (List Int)) (w : World) (he : RowsR P w ev es) (hs : smallE es) (hl : es.length ≤ 100000) :
    Calls Tryd.prog 74 #[.agg #[.int .i64 many, ev]] w fun e w' => ∃ v', e = .returned v' ∧ IntsR .u64 (fun k => w.heap.size ≤ k) w' v' (natsI (es.map ofTo)) ∧ Ext No w w' := by
  obtain ⟨A, c, rfl, hc, hm, hat⟩ := he.at
  have HAT := Sid.mk hat
  have HS := Sid.mk hs
  clear hat he hs
  go_enter Tryd.func74, Tryd.ntmps74
  go_wp2
  go_loopw [3, 9] (fun v i wr => ∃ (k : Nat), k ≤ es.length ∧ i = .int .i64 k ∧ Sid (Own w.heap.size 96 1 wr v k ((natsI ((es.take k).map ofTo)).map (.int .u64))) ∧ Sid (Ext No w wr)) (fun _ i _ => es.length - (intOf i).toNat)
  case atStart => exact ⟨0, Nat.zero_le _, rfl, ⟨by simpa [natsI] using Own.nil _ _ _ _⟩, ⟨ext_box _⟩⟩
  case round =>
    obtain ⟨k, hk, rfl, HO, HX⟩ := hrel
    have HSZ : Sid (w.heap.size ≤ wr.heap.size) := ⟨HX.out.size⟩
    by_cases hlt : k < es.length
    · obtain ⟨b, off, A1, c1, r, rfl, _, q0, HR, HI⟩ := HAT.out k hlt
      have hq0 := HX.out.no q0
      clear q0
      have HSM : Sid (smallL r) := ⟨HS.out _ (List.mem_of_getElem? HR.out)⟩
      go_wp2_with (first | (go_at_call 67; refine (hof_any _ r _ (HI.out.no HX.out) HSM.out).mono ?_; rintro e w1 ⟨rfl, rfl⟩) | (at_builtin; refine app1 w.heap.size rfl (.tmp 13) (.tmp 16) 109 96 (.int .u64 0) 8 rfl Tryd.underlying109 info96 rfl (by decide) _ _ _ _ rfl rfl (by simp) rfl HO.out HSZ.out (by omega) ?_; intro v1 w2 ho1 hx1 hb1 hs1; have HO1 := Sid.mk ho1; have HX2 := Sid.mk hx1; clear ho1 hx1 hb1 hs1))
      go_roundw
      case rel => exact ⟨k+1, by omega, by go_num, ⟨by rw [take_map_succ HR.out]; simpa [natsI] using HO1.out⟩, ⟨HO.out.step HX.out HX2.out⟩⟩
      case measure => simp [intOf]; omega
    · go_wp2
      go_ret
      have h1 := HO.out
      rw [List.take_of_length_le (by omega)] at h1
      exact ⟨_, rfl, ints_own h1 (by simp [natsI]; omega) (fun k hk => (h1.ge k hk).1), HX.out⟩
end Go.Proofs.YtceiaekkfabeaaaDoor
