/- Words and contracts for: DecompAcyclic: for every hypergraph the law answers true, and its arguments read as before. No condition; the library's table math/bits.deBruijn64tab is laid by its text. -/
import Derived.Test.YtceiaekkfabeaaaDoorZyg
namespace Go.Proofs.YtceiaekkfabeaaaDoor
open Go.RowKit Go.Shelf Pl
variable {B M : Nat} {many : Int} {es : List (List Int)} {S : List Nat}

/-- The first loop's state: the places of the first k vertices, what is around them. -/
structure BgA (S : List Nat) (ord : List Int) (behind : Int) (w : World) (k : Nat) (wr : World) : Prop where
  ext : Ext No w wr
  map : MapF .i64 (posF ord behind k) wr w.heap.size
  size : w.heap.size + 2 ≤ wr.heap.size
  row : wr.rowIs (w.heap.size + 1) 65 ord.length (fun j => if j < k then .int .u64 (arI S ord j : Nat) else .int .u64 0)

theorem BgA.start (S : List Nat) (ord : List Int) (behind : Int) (w : World) : BgA S ord behind w 0 ((w.alloc (.map #[] 0)).alloc (.cells (madeCells #[.int .u64 0] ord.length) 65)) where
  ext := ((Ext.refl No w).alloc _).alloc _
  map := (MapF.made .i64 w).ext (ext_box _) (fun h => h)
  size := by simp
  row := by
    have := World.rowIs_made (w.alloc (.map #[] 0)) (.int .u64 0) ord.length 65
    rw [World.size_alloc] at this
    exact this.congr (fun i _ => by simp)
theorem BgA.step {S : List Nat} {ord : List Int} {behind : Int} {w wr w2 : World} {k u : Nat} (h : BgA S ord behind w k wr) (hk : k < ord.length) (hu : ord[k]? = some (u : Int))
    (hx : Ext (fun i => i = w.heap.size) (wr.setCell ⟨w.heap.size + 1, k, none⟩ (.int .u64 (arF S u (ofTo (ord.take k)) : Nat))) w2) (hm : MapF .i64 (upd (posF ord behind k) (u : Int) (.int .i64 (behind + ord.length - 1 - k))) w2 w.heap.size) : BgA S ord behind w (k + 1) w2 := by
  have hgd : ord.getD k 0 = (u : Int) := by rw [List.getD_eq_getElem?_getD, hu]; rfl
  have har : arI S ord k = arF S u (ofTo (ord.take k)) := by rw [arI, hgd, Int.toNat_natCast]
  have hx2 : Ext (fun i => i = w.heap.size + 1) wr (wr.setCell ⟨w.heap.size + 1, k, none⟩ (.int .u64 (arF S u (ofTo (ord.take k)) : Nat))) := (Ext.refl (fun i => i = w.heap.size + 1) wr).setCell (p := ⟨w.heap.size + 1, k, none⟩) (Or.inl rfl) _
  have hs := h.size
  have hs2 := hx2.size
  refine ⟨h.ext.step (hx2.mono (Y := fun i => i = w.heap.size + 1 ∨ i = w.heap.size) (fun _ h => Or.inl h) |>.trans (hx.mono (fun _ h => Or.inr h))) (fun i hi hh => by omega), ?_, by have := hx.size; omega, ?_⟩
  · unfold posF; rw [hgd]; exact hm
  · have h1 := h.row.set k (.int .u64 (arF S u (ofTo (ord.take k)) : Nat))
    have h2 := h1.of_block (w' := w2) (hx.block _ h1.lt (by omega))
    refine h2.congr (fun i hi => ?_)
    by_cases hik : i = k
    · subst hik; simp [har]
    · by_cases h3 : i < k
      · simp [hik, h3, Nat.lt_succ_of_lt h3]
      · simp [hik, h3, show ¬ i < k + 1 from by omega]

set_option maxHeartbeats 4000000 in
set_option maxRecDepth 100000 in
set_option pp.deepTerms true in
set_option pp.maxSteps 1000000 in
theorem bags_any (hS : smallS S) (hSl : S.length ≤ 1000) {P P0 : Nat → Prop} {w : World} {ov : Value} {ord : List Int} {behind : Int} (h : SearchR P w B M many es S) (hK : KnownR P w M S) (hP : ∀ k, w.heap.size ≤ k → P k) (hPM : ¬ P M) (hT : TabW w)
    (ho : IntsR .i64 P0 w ov ord) (hol : ord.length ≤ 32) (hos : smallL ord) (hon : ord.Nodup) (hb0 : 0 ≤ behind) (hb1 : behind ≤ 100000) (hcov : ∀ j, j < ord.length → ∃ r, covO S (arI S ord j) = some r) (hP0 : ∀ k, P0 k → k ≠ M) :
    Calls Tryd.prog 45 #[.pointer (some ⟨B, 0, none⟩), ov, .int .i64 behind] w fun e w' => ∃ v', e = .returned v' ∧ BagsR (fun k => w.heap.size ≤ k) w' v' (bagsL S ord behind ord.length) ∧ Ext (fun k => k = M) w w' ∧ KnownR P w' M S := by
  obtain ⟨A, c, rfl, hc, hm, hat⟩ := ho.at
  have hmm := fun w => run_makeMap (P := Tryd.prog) 55 w
  have hmk := fun w => run_make_row' (P := Tryd.prog) 79 65 (.int .u64 0) 8 Tryd.underlying79 info65 rfl .i64 .i64 ord.length (by omega) (by omega) w
  have HAT := Sid.mk hat
  have H := Sid.mk h
  have HK := Sid.mk hK
  have HT := Sid.mk hT
  have HO := Sid.mk ho
  have HON := Sid.mk hon
  have HOS := Sid.mk hos
  clear h hK hT hat ho hon hos
  go_enter Tryd.func45, Tryd.ntmps45
  go_wp2
  go_loopw [8, 23] (fun gv kv wr => ∃ k : Nat, k ≤ ord.length ∧ kv = .int .i64 (k : Int) ∧ gv = .int .u64 (ofTo (ord.take k) : Nat) ∧ Sid (BgA S ord behind w k wr)) (fun _ kv _ => ord.length - (intOf kv).toNat)
  case atStart =>
    exact ⟨0, Nat.zero_le _, rfl, by simp [ofTo], ⟨BgA.start S ord behind w⟩⟩
  case round =>
    obtain ⟨k, hk, rfl, rfl, HA⟩ := hrel
    by_cases hlt : k < ord.length
    · obtain ⟨b, off, x, rfl, _, hcell0, HX⟩ := HAT.out k hlt
      have hcell := HA.out.ext.no hcell0
      obtain ⟨hx0, hx1⟩ := HOS.out x (List.mem_of_getElem? HX.out)
      obtain ⟨u, rfl⟩ := Int.eq_ofNat_of_zero_le hx0
      have hu : u < 32 := by omega
      have hold := HA.out.row.cell hlt
      have hcf := HA.out.row.frozen k
      have hgl : ofTo (ord.take k) < 4294967296 := ofTo_lt (fun y hy => HOS.out y (List.mem_of_mem_take hy))
      have hx2 : Ext (fun i => i = w.heap.size + 1) wr (wr.setCell ⟨w.heap.size + 1, k, none⟩ (.int .u64 (arF S u (ofTo (ord.take k)) : Nat))) := (Ext.refl (fun i => i = w.heap.size + 1) wr).setCell (p := ⟨w.heap.size + 1, k, none⟩) (Or.inl rfl) _
      have HX2 := Sid.mk hx2
      clear hcell0 hx2
      go_wp2_with (first
        | (go_at_call 78; refine (sAround_any B M many es S _ (H.out.no HA.out.ext) hS u _ hu hgl).mono ?_; rintro e w1 ⟨rfl, rfl⟩)
        | (at_mapUpdate; refine wpList_updF (vv := .int .i64 (behind + ord.length - 1 - k)) rfl _ _ _ 55 3 3 .i64 rfl Tryd.underlying55 Tryd.underlying3 rfl rfl rfl (HA.out.map.ext HX2.out (by simp)) ?_; intro w2 hm2 hx2; have HM2 := Sid.mk hm2; have HX3 := Sid.mk hx2; clear hm2 hx2))
      go_roundw
      case rel => exact ⟨k + 1, by omega, by go_num, congrArg _ (by rw [wrap_pow hu, or_u64 hgl (pow_lt_32 hu), ofTo_succ HX.out, Int.toNat_natCast]), ⟨HA.out.step hlt HX.out HX3.out HM2.out⟩⟩
      case measure => simp [intOf]; omega
    · obtain rfl : k = ord.length := by omega
      simp only [List.take_length]
      obtain ⟨w1, rfl⟩ : ∃ w1 : World, w1 = wr := ⟨_, rfl⟩
      have hw1 := HA.out.size
      have hMl : M < w.heap.size := HK.out.lt
      have h0w : 0 < w.heap.size := World.block_lt_of_cell? w _ (HT.out 0 (by decide))
      have hM0 : M ≠ 0 := by
        rintro rfl
        obtain ⟨f, ⟨es, clock, hb, _⟩, _⟩ := HK.out
        have := HT.out 0 (by decide)
        simp [World.cell?, hb] at this
      go_wp2
      go_loopw [12, 13] (fun ov2 iv wr => ∃ (m : Nat) (i : Int), m ≤ ord.length ∧ iv = .int .i64 i ∧ Sid (i = (ord.length : Int) - 1 - m) ∧ Sid (OwnBags (fun k => w.heap.size ≤ k) w1.heap.size wr ov2 (bagsL S ord behind m)) ∧ Sid (Ext (fun k => k = M) w1 wr) ∧ Sid (KnownR (fun k => P k ∧ some k ≠ ov2.ownBlock) wr M S)) (fun _ iv _ => (intOf iv + 1).toNat)
      case atStart =>
        refine ⟨0, (ord.length : Int) - 1, Nat.zero_le _, rfl, ⟨by omega⟩, ⟨by simpa [bagsL] using OwnBags.nil _ _ _⟩, ⟨Ext.refl _ _⟩, ⟨(HK.out.no HA.out.ext).imp (fun k _ hk => ⟨hk, by simp [Value.ownBlock]⟩)⟩⟩
      case round =>
        obtain ⟨m, i, hm', rfl, HI, HOB, HX, HKN⟩ := hrel
        by_cases hlt : m < ord.length
        · have hi0 : 0 ≤ i := by have := HI.out; omega
          obtain ⟨ii, rfl⟩ := Int.eq_ofNat_of_zero_le hi0
          have hii : ii < ord.length := by have := HI.out; omega
          obtain ⟨A3, c3, rfl⟩ := HOB.out.slice
          have har : arI S ord ii < 4294967296 := by
            have h1 : ord.getD ii 0 ∈ ord := by rw [List.getD_eq_getElem?_getD, List.getElem?_eq_getElem hii]; exact List.getElem_mem _
            have := HOS.out _ h1
            exact arF_lt hS (by omega)
          have hcell := HX.out.cell (p := ⟨w.heap.size + 1, ii, none⟩) (by simp; omega) (HA.out.row.cell hii)
          rw [if_pos hii] at hcell
          obtain ⟨rr, hrr⟩ := hcov ii hii
          have hge : ∀ k, some k = (Value.slice A3 (bagsL S ord behind m).length c3).ownBlock → w1.heap.size ≤ k ∧ k < wr.heap.size := fun k hk => HOB.out.ge k hk.symm
          have hsz1 := HX.out.size
          obtain ⟨vals, hvals⟩ : ∃ vals : Nat → Value, vals = fun i => #[.slice (some ⟨w.heap.size + 1, 0, none⟩) ord.length ord.length, .int .i64 (ii : Int), .pointer (some ⟨w.heap.size + 1, ii, none⟩), .int .u64 (arI S ord ii : Nat), undef, .pointer (some ⟨B, 0, none⟩), .slice (some ⟨w.heap.size + 1, 0, none⟩) ord.length ord.length, .int .i64 (ii : Int), .pointer (some ⟨w.heap.size + 1, ii, none⟩), .int .u64 (arI S ord ii : Nat)].getD i undef := ⟨_, rfl⟩
          have HVL := Sid.mk hvals
          have HRR := Sid.mk hrr
          obtain ⟨P1, hP1⟩ : ∃ P1 : Nat → Prop, P1 = fun k => P k ∧ some k ≠ (Value.slice A3 (bagsL S ord behind m).length c3).ownBlock := ⟨_, rfl⟩
          obtain ⟨P2, hP2⟩ : ∃ P2 : Nat → Prop, P2 = fun k => w.heap.size ≤ k ∧ some k ≠ (Value.slice A3 (bagsL S ord behind m).length c3).ownBlock := ⟨_, rfl⟩
          have HP1 := Sid.mk hP1
          have HP2 := Sid.mk hP2
          clear hvals hrr hP1 hP2
          have HST : Sid (BgP wr.drew M S P1 P2 vals (membersL (arI S ord ii)) rr none (fun i => #[u56, u57, u58, u59, u60, u61, u62, u63, u64, u65, u66, u67, u68, u14].getD i undef) (fun _ => false) wr.drew) := ⟨{
            get := by simp
            ext := Ext.refl _ _
            known := by rw [HP1.out]; exact (HKN.out.no (Ext.refl No wr).drew).imp (fun k _ hk => ⟨hk, by simp⟩)
            r4 := by simp
            r10 := by simp
            r11 := by simp
            r12 := by simp
            r13 := by simp
            r13' := by simp
            r14 := by simp }⟩
          go_wp2
          refine (wpIn_wide (n := 0)).1 ?_
          refine wpIn_slots (fun s => { tmps := #[.pointer (some ⟨B, 0, none⟩), .slice A ord.length c, .int .i64 behind, undef, undef, undef, .slice none 0 0, .map (some w.heap.size), .int .u64 ((ofTo ord : Nat) : Int), .slice (some ⟨w.heap.size + 1, 0, none⟩) ord.length ord.length, u10, u11, .slice A3 (bagsL S ord behind m).length c3, .int .i64 (ii : Int), s 13, undef, u16, .map (some w.heap.size), .slice A ord.length c, .int .i64 (ord.length : Int), .slice (some ⟨w.heap.size + 1, 0, none⟩) ord.length ord.length, .slice A ord.length c, .int .i64 (ord.length : Int), .int .i64 (ord.length : Int), .bool false, u25, u26, u27, u28, u29, u30, u31, u32, u33, u34, u35, u36, u37, u38, u39, u40, u41, u42, u43, u44, u45, u46, u47, u48, .slice A ord.length c, .int .i64 (ord.length : Int), .int .i64 ((ord.length : Int) - 1), .int .i64 (ii : Int), .bool true, u54, u55, s 0, s 1, s 2, s 3, s 4, s 5, s 6, s 7, s 8, s 9, s 10, s 11, s 12, u69, u70, u71, u72, u73, u74, u75, u76, u77, u78, u79, u80, u81, u82, u83, u84, u85, u86, u87, u88, u89, u90, u91, u92, u93, u94, undef], defers := [] })
            (fun s l w' => ∃ bo, BgP wr.drew M S P1 P2 vals (membersL (arI S ord ii)) rr bo s l w') (fun i => #[u56, u57, u58, u59, u60, u61, u62, u63, u64, u65, u66, u67, u68, u14].getD i undef) (by kernel_rfl) (by kernel_rfl) ⟨fun _ _ => rfl, fun _ _ => rfl, fun _ _ => rfl, fun _ _ => rfl, fun _ _ => rfl, fun _ _ => rfl, fun _ _ => rfl, fun _ _ => rfl, fun _ _ => rfl, fun _ _ => rfl, fun _ _ => rfl, fun _ _ => rfl, fun _ _ => rfl, fun _ _ => rfl, fun _ _ => rfl, trivial⟩ ?ha ?h0
            ⟨?s0, ?s1, ?s2, ?s3, ?s4, ?s5, ?s6, ?s7, ?s8, ?s9, ?s10, ?s11, ?s12, ?s13, ?s14, trivial⟩ ?hend
          case ha => rfl
          case h0 => exact ⟨none, HST.out⟩
          case s0 =>
            rintro s l w' K hl hd ⟨bo, hp⟩ hK
            have HP := Sid.mk (hp.val 0 (by decide) (by decide))
            rw [HVL.out] at HP
            clear hp hd
            gi_wp2
            rw [← HVL.out] at HP
            exact ⟨bo, HP.out⟩
          case s1 =>
            rintro s l w' K hl hd ⟨bo, hp⟩ hK
            have HP := Sid.mk (hp.val 1 (by decide) (by decide))
            rw [HVL.out] at HP
            clear hp hd
            gi_wp2
            rw [← HVL.out] at HP
            exact ⟨bo, HP.out⟩
          case s2 =>
            rintro s l w' K hl hd ⟨bo, hp⟩ hK
            have e0 : s 0 = .slice (some ⟨w.heap.size + 1, 0, none⟩) ord.length ord.length := (hp.get 0 (by decide) (by decide) (hd { on := 0, ground := .data } (by simp) rfl)).trans (by rw [HVL.out]; rfl)
            have e1 : s 1 = .int .i64 (ii : Int) := (hp.get 1 (by decide) (by decide) (hd { on := 1, ground := .data } (by simp) rfl)).trans (by rw [HVL.out]; rfl)
            simp only [e0, e1] at hK
            have HP := Sid.mk (hp.val 2 (by decide) (by decide))
            rw [HVL.out] at HP
            clear hp hd
            gi_wp2
            rw [← HVL.out] at HP
            exact ⟨bo, HP.out⟩
          case s3 =>
            rintro s l w' K hl hd ⟨bo, hp⟩ hK
            have e2 : s 2 = .pointer (some ⟨w.heap.size + 1, ii, none⟩) := (hp.get 2 (by decide) (by decide) (hd { on := 2, ground := .data } (by simp) rfl)).trans (by rw [HVL.out]; rfl)
            simp only [e2] at hK
            have hcw : w'.cell? ⟨w.heap.size + 1, ii, none⟩ = some (.int .u64 (arI S ord ii : Nat)) := hp.ext.cell (p := ⟨w.heap.size + 1, ii, none⟩) (by simp; omega) hcell
            have HP := Sid.mk (hp.val 3 (by decide) (by decide))
            rw [HVL.out] at HP
            clear hp hd
            gi_wp2
            rw [← HVL.out] at HP
            exact ⟨bo, HP.out⟩
          case s5 =>
            rintro s l w' K hl hd ⟨bo, hp⟩ hK
            have HP := Sid.mk (hp.val 5 (by decide) (by decide))
            rw [HVL.out] at HP
            clear hp hd
            gi_wp2
            rw [← HVL.out] at HP
            exact ⟨bo, HP.out⟩
          case s6 =>
            rintro s l w' K hl hd ⟨bo, hp⟩ hK
            have HP := Sid.mk (hp.val 6 (by decide) (by decide))
            rw [HVL.out] at HP
            clear hp hd
            gi_wp2
            rw [← HVL.out] at HP
            exact ⟨bo, HP.out⟩
          case s7 =>
            rintro s l w' K hl hd ⟨bo, hp⟩ hK
            have HP := Sid.mk (hp.val 7 (by decide) (by decide))
            rw [HVL.out] at HP
            clear hp hd
            gi_wp2
            rw [← HVL.out] at HP
            exact ⟨bo, HP.out⟩
          case s8 =>
            rintro s l w' K hl hd ⟨bo, hp⟩ hK
            have e6 : s 6 = .slice (some ⟨w.heap.size + 1, 0, none⟩) ord.length ord.length := (hp.get 6 (by decide) (by decide) (hd { on := 6, ground := .data } (by simp) rfl)).trans (by rw [HVL.out]; rfl)
            have e7 : s 7 = .int .i64 (ii : Int) := (hp.get 7 (by decide) (by decide) (hd { on := 7, ground := .data } (by simp) rfl)).trans (by rw [HVL.out]; rfl)
            simp only [e6, e7] at hK
            have HP := Sid.mk (hp.val 8 (by decide) (by decide))
            rw [HVL.out] at HP
            clear hp hd
            gi_wp2
            rw [← HVL.out] at HP
            exact ⟨bo, HP.out⟩
          case s9 =>
            rintro s l w' K hl hd ⟨bo, hp⟩ hK
            have e8 : s 8 = .pointer (some ⟨w.heap.size + 1, ii, none⟩) := (hp.get 8 (by decide) (by decide) (hd { on := 8, ground := .data } (by simp) rfl)).trans (by rw [HVL.out]; rfl)
            simp only [e8] at hK
            have hcw : w'.cell? ⟨w.heap.size + 1, ii, none⟩ = some (.int .u64 (arI S ord ii : Nat)) := hp.ext.cell (p := ⟨w.heap.size + 1, ii, none⟩) (by simp; omega) hcell
            have HP := Sid.mk (hp.val 9 (by decide) (by decide))
            rw [HVL.out] at HP
            clear hp hd
            gi_wp2
            rw [← HVL.out] at HP
            exact ⟨bo, HP.out⟩
          case s4 =>
            rintro s l w' K hl hd ⟨bo, hp⟩ hK
            have e3 : s 3 = .int .u64 (arI S ord ii : Nat) := (hp.get 3 (by decide) (by decide) (hd { on := 3, ground := .data } (by simp) rfl)).trans (by rw [HVL.out]; rfl)
            simp only [e3] at hK
            have HTW : Sid (TabW w') := ⟨((HT.out.no HA.out.ext).ext HX.out (fun h => hM0 h.symm)).ext (((Ext.refl _ wr).drew).trans hp.ext) (fun h => hM0 h.symm)⟩
            have HPP := Sid.mk hp
            have hsw : wr.heap.size ≤ w'.heap.size := by have := hp.ext.size; simpa using this
            have hbo := fun b (hb : bo = some b) => hp.bo_lt hb
            have HBO : Sid (∀ b, bo = some b → wr.drew.heap.size ≤ b ∧ b < w'.heap.size) := ⟨hbo⟩
            clear hp hd hbo
            gi_wp2_with (refine ⟨trivial, rfl, ?_⟩; gi_at_call 79; refine (callsIn_wide.2 (rising_any (arI S ord ii) har _ HTW.out)).mono ?_; rintro e w2 ⟨v2, rfl, hr2, hx2⟩; have HR2 := Sid.mk hr2; have HX2 := Sid.mk hx2; clear hr2 hx2)
            have hgr := HPP.out.grow (HX2.out.mono (fun _ h => h.elim)) (HPP.out.known.no HX2.out) (by rw [HP1.out]; exact fun h => hPM h.1) (by rw [HP2.out]; exact fun h => by have := h.1; omega) (by simp; omega)
            refine ⟨bo, hgr.vert hl (HR2.out.imp (fun k _ hk => ⟨by rw [HP2.out]; exact ⟨by omega, fun h => by have := hge k h; omega⟩, fun h => by have := HBO.out k h; omega⟩))⟩
          case s10 =>
            rintro s l w' K hl hd ⟨bo, hp⟩ hK
            have e5 : s 5 = .pointer (some ⟨B, 0, none⟩) := (hp.get 5 (by decide) (by decide) (hd { on := 5, ground := .data } (by simp) rfl)).trans (by rw [HVL.out]; rfl)
            have e9 : s 9 = .int .u64 (arI S ord ii : Nat) := (hp.get 9 (by decide) (by decide) (hd { on := 9, ground := .data } (by simp) rfl)).trans (by rw [HVL.out]; rfl)
            simp only [e5, e9] at hK
            have HPP := Sid.mk hp
            have hsw : wr.heap.size ≤ w'.heap.size := by have := hp.ext.size; simpa using this
            have hbo := fun b (hb : bo = some b) => hp.bo_lt hb
            have HBO : Sid (∀ b, bo = some b → wr.drew.heap.size ≤ b ∧ b < w'.heap.size) := ⟨hbo⟩
            have HXW : Sid (Ext (fun k => k = M) w w') := ⟨((HA.out.ext.mono (fun _ h => h.elim)).trans HX.out).trans (((Ext.refl _ wr).drew).trans hp.ext)⟩
            have HSR : Sid (SearchR (fun k => P1 k ∧ bo ≠ some k) w' B M many es S) := ⟨((H.out.imp (P' := fun k => (P1 k ∧ bo ≠ some k) ∧ k ≠ M) (fun k hk hpk => ⟨⟨by rw [HP1.out]; exact ⟨hpk, fun h => by have := hge k h; omega⟩, fun h => by have := (HBO.out k h).1; simp at this; omega⟩, fun h => hPM (h ▸ hpk)⟩)).ext HXW.out (fun k hk => hk.2)).imp (fun k _ hk => hk.1)⟩
            clear hp hd hbo
            gi_wp2_with (refine ⟨trivial, rfl, ?_⟩; gi_at_call 36; refine (callsIn_wide.2 (cover_any B M many es S hS hSl (arI S ord ii) rr _ HSR.out HPP.out.known HRR.out har (fun k hk => ⟨by rw [HP1.out]; exact ⟨hP k (by omega), fun h => by have := hge k h; omega⟩, fun h => by have := HBO.out k h; omega⟩) (by rw [HP1.out]; exact fun h => hPM h.1.1))).mono ?_; rintro e w2 ⟨v2, rfl, hr2, hx2, hk2⟩; have HR2 := Sid.mk hr2; have HX2 := Sid.mk hx2; have HK2 := Sid.mk hk2; clear hr2 hx2 hk2)
            have hgr := HPP.out.grow HX2.out HK2.out (by rw [HP1.out]; exact fun h => hPM h.1) (by rw [HP2.out]; exact fun h => by have := h.1; omega) (by simp; omega)
            exact ⟨bo, hgr.edges HR2.out⟩
          case s11 =>
            rintro s l w' K hl hd ⟨bo, hp⟩ hK
            have HR10 := Sid.mk (hp.r10 (hd { on := 10, ground := .data } (by simp) rfl))
            have HPP := Sid.mk hp
            have hsw : wr.heap.size ≤ w'.heap.size := by have := hp.ext.size; simpa using this
            have hbo := fun b (hb : bo = some b) => hp.bo_lt hb
            have HBO : Sid (∀ b, bo = some b → wr.drew.heap.size ≤ b ∧ b < w'.heap.size) := ⟨hbo⟩
            clear hp hd hbo
            gi_wp2_with (refine ⟨trivial, rfl, ?_⟩; gi_at_call 10; refine (callsIn_wide.2 (Clone_any _ rr _ HR10.out (by have := covO_len HRR.out; omega))).mono ?_; rintro e w2 ⟨v2, rfl, hr2, hx2⟩; have HR2 := Sid.mk hr2; have HX2 := Sid.mk hx2; clear hr2 hx2)
            have hgr := HPP.out.grow (HX2.out.mono (fun _ h => h.elim)) (HPP.out.known.no HX2.out) (by rw [HP1.out]; exact fun h => hPM h.1) (by rw [HP2.out]; exact fun h => by have := h.1; omega) (by simp; omega)
            refine ⟨bo, hgr.copied hl (HR2.out.imp (fun k _ hk => ⟨by rw [HP2.out]; exact ⟨by omega, fun h => by have := hge k h; omega⟩, fun h => by have := HBO.out k h; omega⟩))⟩
          case s12 =>
            rintro s l w' K hl hd ⟨bo, hp⟩ hK
            have hl4 := hd { on := 4, ground := .data } (by simp) rfl
            have hl11 := hd { on := 11, ground := .data } (by simp) rfl
            obtain ⟨A4, c4, e4, _⟩ := (hp.r4 hl4).at
            obtain ⟨A5, c5, e11, _⟩ := (hp.r11 hl11).at
            have HPP := Sid.mk (hp.built hl4 hl11)
            rw [e4, e11] at HPP
            simp only [e4, e11] at hK
            clear hp hd
            gi_wp2
            exact ⟨bo, HPP.out⟩
          case s13 =>
            rintro s l w' K hl hd ⟨bo, hp⟩ hK
            have HPP := Sid.mk (hp.boxed hl (.slice none 0 0) (.slice none 0 0) (.int .i64 0))
            clear hp hd
            gi_wp2
            exact ⟨_, HPP.out⟩
          case s14 =>
            rintro s l w' K hl hd ⟨bo, hp⟩ hK
            have hl13 := hd { on := 13, ground := .data } (by simp) rfl
            obtain ⟨e12, hl4, hl11⟩ := hp.r12 (hd { on := 12, ground := .data } (by simp) rfl)
            obtain ⟨A4, c4, e4, _⟩ := (hp.r4 hl4).at
            obtain ⟨A5, c5, e11, _⟩ := (hp.r11 hl11).at
            obtain ⟨b, hbo, e13, hbg, hbl, hcs⟩ := hp.r13' hl13
            obtain ⟨hf0, hi0⟩ := hcs 0 (by omega)
            obtain ⟨hf1, hi1⟩ := hcs 1 (by omega)
            obtain ⟨hf2, hi2⟩ := hcs 2 (by omega)
            obtain ⟨o0, ho0⟩ := Option.isSome_iff_exists.1 hi0
            obtain ⟨o1, ho1⟩ := Option.isSome_iff_exists.1 hi1
            obtain ⟨o2, ho2⟩ := Option.isSome_iff_exists.1 hi2
            rw [e4, e11] at e12
            simp only [e12, e13] at hK
            have HPP := Sid.mk hp
            have E4 := Sid.mk e4
            have E11 := Sid.mk e11
            clear hp hd hcs e4 e11
            gi_wp2
            obtain ⟨v0, hv0⟩ : ∃ v0 : Value, Value.slice A4 (membersL (arI S ord ii)).length c4 = v0 := ⟨_, rfl⟩
            obtain ⟨v1, hv1⟩ : ∃ v1 : Value, Value.slice A5 rr.length c5 = v1 := ⟨_, rfl⟩
            have hx3 : Ext (fun k => k = b) w' (((w'.setCell ⟨b, 0, none⟩ v0).setCell ⟨b, 1, none⟩ v1).setCell ⟨b, 2, none⟩ (.int .i64 (-1))) := (((Ext.refl (fun k => k = b) w').setCell (p := ⟨b, 0, none⟩) (Or.inl rfl) _).setCell (p := ⟨b, 1, none⟩) (Or.inl rfl) _).setCell (p := ⟨b, 2, none⟩) (Or.inl rfl) _
            have hst := HPP.out.stored hl4 hl11 hl13 hbo hx3 (by simp; omega) (by rw [E4.out, hv0]; simp [go_sem, ho0, ho1, ho2]) (by rw [E11.out, hv1]; simp [go_sem, ho0, ho1, ho2]) (by simp [go_sem, ho0, ho1, ho2]) (fun i hi => by
              rcases (by omega : i = 0 ∨ i = 1 ∨ i = 2) with rfl | rfl | rfl
              · simp [hf0]
              · simp [hf1]
              · simp [hf2]) undef
            rw [← hv0, ← hv1] at hst
            exact hK undef _ ⟨bo, hst⟩
          case hend =>
            rintro t l w' hl ⟨bo, hp⟩
            obtain ⟨b, hbo, e13, hbg, hbl, hcs⟩ := hp.r13' (hl 13 (by decide))
            obtain ⟨b', hb', ec0, ec1, ec2, _⟩ := hp.r14 (hl 14 (by decide))
            obtain rfl : b' = b := by rw [hbo] at hb'; exact (Option.some.inj hb').symm
            have hi4 := hp.r4 (hl 4 (by decide))
            have hi11 := hp.r11 (hl 11 (by decide))
            obtain ⟨A4, c4, e4, _⟩ := hi4.at
            obtain ⟨A5, c5, e11, _⟩ := hi11.at
            rw [e4] at ec0 hi4
            rw [e11] at ec1 hi11
            have hf2 := (hcs 2 (by omega)).1
            have HI4 := Sid.mk hi4
            have HI11 := Sid.mk hi11
            have HPX : Sid (Ext (fun k => k = M) wr w') := ⟨((Ext.refl _ wr).drew).trans hp.ext⟩
            have HPK := Sid.mk hp.known
            subst hbo
            simp at hbg
            clear hp hl hcs hi4 hi11 hb'
            obtain ⟨b0, off0, x0, rfl, hpb0, _, _⟩ := HAT.out ii hii
            have hii1 : ((ii : Int) + 1) ≤ (ord.length : Int) := by omega
            have hii2 : ((ii + 1 : Nat) : Int) = (ii : Int) + 1 := by omega
            dsimp only
            simp only [e13]
            rcases Nat.lt_or_ge (ii + 1) c with hcc | hcc
            · go_wp2
              go_loop [16, 74] (fun _ jv => ∃ j : Nat, jv = .int .i64 (j : Int) ∧ j ≤ ord.length - (ii + 1) ∧ Sid (∀ q, q < j → (arI S ord ii).testBit (ord.getD (ii + 1 + q) 0).toNat = false)) (fun _ jv => ord.length - (intOf jv).toNat)
              case atStart => exact ⟨0, rfl, Nat.zero_le _, ⟨fun q hq => by omega⟩⟩
              case round =>
                obtain ⟨j, rfl, hj, HQ⟩ := hrel
                by_cases hjl : j < ord.length - (ii + 1)
                · obtain ⟨b2, off2, x2, hA2, _, hcx, HX2⟩ := HAT.out (ii + 1 + j) (by omega)
                  simp only [Option.some.injEq, Addr.mk.injEq, and_true] at hA2
                  obtain ⟨rfl, rfl⟩ := hA2
                  have hcx2 := HPX.out.cell (p := ⟨b0, off0 + (ii + 1) + j, none⟩) (hP0 _ hpb0) (HX.out.cell (p := ⟨b0, off0 + (ii + 1) + j, none⟩) (hP0 _ hpb0) (HA.out.ext.no (by rw [Nat.add_assoc off0]; exact hcx)))
                  obtain ⟨hx0, hx1⟩ := HOS.out x2 (List.mem_of_getElem? HX2.out)
                  obtain ⟨u2, rfl⟩ := Int.eq_ofNat_of_zero_le hx0
                  have hcr := HPX.out.cell (p := ⟨w.heap.size + 1, ii, none⟩) (by simp; omega) hcell
                  have hgd : ord.getD (ii + 1 + j) 0 = (u2 : Int) := by rw [List.getD_eq_getElem?_getD, HX2.out]; rfl
                  have hsb := shr_bit (u := u2) har
                  cases htb : (arI S ord ii).testBit u2 with
                  | false =>
                    rw [htb] at hsb
                    go_wp2
                    go_round
                    case rel => exact ⟨j + 1, by go_num, by omega, ⟨fun q hq => by
                      by_cases hqj : q = j
                      · subst hqj; rw [hgd]; exact htb
                      · exact HQ.out q (by omega)⟩⟩
                    case measure => simp [intOf]; omega
                  | true =>
                    rw [htb] at hsb
                    have HPAR : Sid (parF ord behind (arI S ord ii) ii = behind + ord.length - 1 - (ii + 1 + j : Nat)) := ⟨parF_some hjl HQ.out (by rw [hgd]; exact htb)⟩
                    have HPOS : Sid (posF ord behind ord.length (u2 : Int) = some (.int .i64 (behind + ord.length - 1 - (ii + 1 + j : Nat)))) := ⟨by rw [← hgd]; exact posF_old (Nat.le_refl _) HON.out (by omega)⟩
                    have HMP : Sid (MapF .i64 (posF ord behind ord.length) w' w.heap.size) := ⟨(HA.out.map.ext HX.out (by omega)).ext HPX.out (by omega)⟩
                    have hx5 : Ext (fun k => k = b') w' (w'.setCell ⟨b', 2, none⟩ (.int .i64 (bagI S ord behind ii).parent)) := (Ext.refl (fun k => k = b') w').setCell (p := ⟨b', 2, none⟩) (Or.inl rfl) _
                    have HXT : Sid (Ext (fun k => k = M) wr (w'.setCell ⟨b', 2, none⟩ (.int .i64 (bagI S ord behind ii).parent))) := ⟨HPX.out.step hx5 (fun i hi hh => by omega)⟩
                    have HKT : Sid (KnownR (fun k => P1 k ∧ some b' ≠ some k) (w'.setCell ⟨b', 2, none⟩ (.int .i64 (bagI S ord behind ii).parent)) M S) := ⟨HPK.out.ext hx5 (by omega) (fun k hk hh => hk.2 (by rw [hh]))⟩
                    have HT4 : Sid (IntsR .i64 (fun k => P2 k ∧ some b' ≠ some k) (w'.setCell ⟨b', 2, none⟩ (.int .i64 (bagI S ord behind ii).parent)) (.slice A4 (membersL (arI S ord ii)).length c4) (membersL (arI S ord ii))) := ⟨HI4.out.ext hx5 (fun k hk hh => hk.2 (by rw [hh]))⟩
                    have HT11 : Sid (IntsR .i64 (fun k => P2 k ∧ some b' ≠ some k) (w'.setCell ⟨b', 2, none⟩ (.int .i64 (bagI S ord behind ii).parent)) (.slice A5 rr.length c5) rr) := ⟨HI11.out.ext hx5 (fun k hk hh => hk.2 (by rw [hh]))⟩
                    have HOB2 : Sid (OwnBags (fun k => w.heap.size ≤ k) w1.heap.size (w'.setCell ⟨b', 2, none⟩ (.int .i64 (bagI S ord behind ii).parent)) (.slice A3 (bagsL S ord behind m).length c3) (bagsL S ord behind m)) := ⟨HOB.out.ext HXT.out (fun k hk hh => by have := hge k hk.symm; omega) (fun k hk hh => by omega)⟩
                    have HS4 : Sid (IntsR .i64 (fun k => w.heap.size ≤ k ∧ some k ≠ (Value.slice A3 (bagsL S ord behind m).length c3).ownBlock) (w'.setCell ⟨b', 2, none⟩ (.int .i64 (bagI S ord behind ii).parent)) (.slice A4 (membersL (arI S ord ii)).length c4) (bagI S ord behind ii).vs) := ⟨HT4.out.imp (fun k _ hk => by have := hk.1; rw [HP2.out] at this; exact this)⟩
                    have HS11 : Sid (IntsR .i64 (fun k => w.heap.size ≤ k ∧ some k ≠ (Value.slice A3 (bagsL S ord behind m).length c3).ownBlock) (w'.setCell ⟨b', 2, none⟩ (.int .i64 (bagI S ord behind ii).parent)) (.slice A5 rr.length c5) (bagI S ord behind ii).es) := ⟨by have h := HT11.out.imp (P' := fun k => w.heap.size ≤ k ∧ some k ≠ (Value.slice A3 (bagsL S ord behind m).length c3).ownBlock) (fun k _ hk => by have := hk.1; rw [HP2.out] at this; exact this); simpa [bagI, HRR.out] using h⟩
                    have hszT : w1.heap.size ≤ (w'.setCell ⟨b', 2, none⟩ (.int .i64 (bagI S ord behind ii).parent)).heap.size := by have := HXT.out.size; omega
                    have hbl2 : (bagsL S ord behind m).length ≤ 1000000000 := by simp [bagsL]; omega
                    go_wp2_with (first | (at_lookup; refine wpList_lookF rfl _ _ 55 3 3 .i64 rfl Tryd.underlying55 Tryd.underlying3 (zero3 _) rfl rfl HMP.out HPOS.out ?_; rw [show Value.int .i64 (behind + ord.length - 1 - (ii + 1 + j : Nat)) = .int .i64 (bagI S ord behind ii).parent from by rw [← HPAR.out]; rfl]) | (at_builtin; refine appBag w1.heap.size rfl (.tmp 91) (.tmp 93) 42 rfl Tryd.underlying42 info51 (.slice A3 (bagsL S ord behind m).length c3) (bagsL S ord behind m) _ _ (bagI S ord behind ii) rfl rfl (by simp) HOB2.out HS4.out HS11.out hszT hbl2 ?_; intro v3 w3 ho3 hx3 hb3 hs3; have HO3 := Sid.mk ho3; have HX3 := Sid.mk hx3; have HB3 := Sid.mk hb3; clear ho3 hx3 hb3 hs3))
                    go_roundw
                    case rel =>
                      first | refine ⟨m + 1, (ii : Int) - 1, by omega, by first | rfl | go_num, ⟨by have := HI.out; omega⟩, ⟨by rw [bagsL_succ, show ord.length - 1 - m = ii from by have := HI.out; omega]; exact HO3.out⟩, ⟨((HX.out.trans HXT.out).step HX3.out (fun i hi hh => by have := hge i hh; omega))⟩, ⟨?_⟩⟩ | refine ⟨m + 1, by omega, ⟨by have := HI.out; omega⟩, ⟨by rw [bagsL_succ, show ord.length - 1 - m = ii from by have := HI.out; omega]; exact HO3.out⟩, ⟨((HX.out.trans HXT.out).step HX3.out (fun i hi hh => by have := hge i hh; omega))⟩, ⟨?_⟩⟩ | refine ⟨m + 1, by omega, (ii : Int) - 1, by first | rfl | go_num, ⟨by have := HI.out; omega⟩, ⟨by rw [bagsL_succ, show ord.length - 1 - m = ii from by have := HI.out; omega]; exact HO3.out⟩, ⟨((HX.out.trans HXT.out).step HX3.out (fun i hi hh => by have := hge i hh; omega))⟩, ⟨?_⟩⟩
                      refine ((HKT.out.imp (P' := fun k => (P k ∧ some k ≠ v3.ownBlock) ∧ some k ≠ (Value.slice A3 (bagsL S ord behind m).length c3).ownBlock) (fun k hk hp => ?_)).ext HX3.out (fun hh => by have := hge _ hh; omega) (fun k hk => hk.2)).imp (fun k _ hk => hk.1)
                      have hp1 := hp.1
                      rw [HP1.out] at hp1
                      refine ⟨⟨hp1.1, fun hh => ?_⟩, hp1.2⟩
                      rcases (show From _ _ _ from HB3.out).block hh with h | h
                      · exact hp1.2 h
                      · omega
                    case measure => (simp [intOf] <;> omega)
                · have HPAR : Sid (parF ord behind (arI S ord ii) ii = -1) := ⟨parF_none (fun q hq => HQ.out q (by omega))⟩
                  have ec3 : w'.cell? ⟨b', 2, none⟩ = some (.int .i64 (bagI S ord behind ii).parent) := by rw [ec2]; congr 2; exact HPAR.out.symm
                  have HXT := HPX
                  have HKT := HPK
                  have HT4 := HI4
                  have HT11 := HI11
                  clear ec2
                  have HOB2 : Sid (OwnBags (fun k => w.heap.size ≤ k) w1.heap.size w' (.slice A3 (bagsL S ord behind m).length c3) (bagsL S ord behind m)) := ⟨HOB.out.ext HXT.out (fun k hk hh => by have := hge k hk.symm; omega) (fun k hk hh => by omega)⟩
                  have HS4 : Sid (IntsR .i64 (fun k => w.heap.size ≤ k ∧ some k ≠ (Value.slice A3 (bagsL S ord behind m).length c3).ownBlock) w' (.slice A4 (membersL (arI S ord ii)).length c4) (bagI S ord behind ii).vs) := ⟨HT4.out.imp (fun k _ hk => by have := hk.1; rw [HP2.out] at this; exact this)⟩
                  have HS11 : Sid (IntsR .i64 (fun k => w.heap.size ≤ k ∧ some k ≠ (Value.slice A3 (bagsL S ord behind m).length c3).ownBlock) w' (.slice A5 rr.length c5) (bagI S ord behind ii).es) := ⟨by have h := HT11.out.imp (P' := fun k => w.heap.size ≤ k ∧ some k ≠ (Value.slice A3 (bagsL S ord behind m).length c3).ownBlock) (fun k _ hk => by have := hk.1; rw [HP2.out] at this; exact this); simpa [bagI, HRR.out] using h⟩
                  have hszT : w1.heap.size ≤ w'.heap.size := by have := HXT.out.size; omega
                  have hbl2 : (bagsL S ord behind m).length ≤ 1000000000 := by simp [bagsL]; omega
                  go_wp2_with (first | (at_builtin; refine appBag w1.heap.size rfl (.tmp 91) (.tmp 93) 42 rfl Tryd.underlying42 info51 (.slice A3 (bagsL S ord behind m).length c3) (bagsL S ord behind m) _ _ (bagI S ord behind ii) rfl rfl (by simp) HOB2.out HS4.out HS11.out hszT hbl2 ?_; intro v3 w3 ho3 hx3 hb3 hs3; have HO3 := Sid.mk ho3; have HX3 := Sid.mk hx3; have HB3 := Sid.mk hb3; clear ho3 hx3 hb3 hs3))
                  go_roundw
                  case rel =>
                    first | refine ⟨m + 1, (ii : Int) - 1, by omega, by first | rfl | go_num, ⟨by have := HI.out; omega⟩, ⟨by rw [bagsL_succ, show ord.length - 1 - m = ii from by have := HI.out; omega]; exact HO3.out⟩, ⟨((HX.out.trans HXT.out).step HX3.out (fun i hi hh => by have := hge i hh; omega))⟩, ⟨?_⟩⟩ | refine ⟨m + 1, by omega, ⟨by have := HI.out; omega⟩, ⟨by rw [bagsL_succ, show ord.length - 1 - m = ii from by have := HI.out; omega]; exact HO3.out⟩, ⟨((HX.out.trans HXT.out).step HX3.out (fun i hi hh => by have := hge i hh; omega))⟩, ⟨?_⟩⟩ | refine ⟨m + 1, by omega, (ii : Int) - 1, by first | rfl | go_num, ⟨by have := HI.out; omega⟩, ⟨by rw [bagsL_succ, show ord.length - 1 - m = ii from by have := HI.out; omega]; exact HO3.out⟩, ⟨((HX.out.trans HXT.out).step HX3.out (fun i hi hh => by have := hge i hh; omega))⟩, ⟨?_⟩⟩
                    refine ((HKT.out.imp (P' := fun k => (P k ∧ some k ≠ v3.ownBlock) ∧ some k ≠ (Value.slice A3 (bagsL S ord behind m).length c3).ownBlock) (fun k hk hp => ?_)).ext HX3.out (fun hh => by have := hge _ hh; omega) (fun k hk => hk.2)).imp (fun k _ hk => hk.1)
                    have hp1 := hp.1
                    rw [HP1.out] at hp1
                    refine ⟨⟨hp1.1, fun hh => ?_⟩, hp1.2⟩
                    rcases (show From _ _ _ from HB3.out).block hh with h | h
                    · exact hp1.2 h
                    · omega
                  case measure => (simp [intOf] <;> omega)
            · go_wp2
              go_loop [16, 74] (fun _ jv => ∃ j : Nat, jv = .int .i64 (j : Int) ∧ j ≤ ord.length - (ii + 1) ∧ Sid (∀ q, q < j → (arI S ord ii).testBit (ord.getD (ii + 1 + q) 0).toNat = false)) (fun _ jv => ord.length - (intOf jv).toNat)
              case atStart => exact ⟨0, rfl, Nat.zero_le _, ⟨fun q hq => by omega⟩⟩
              case round =>
                obtain ⟨j, rfl, hj, HQ⟩ := hrel
                have hjl : ¬ j < ord.length - (ii + 1) := by omega
                have HPAR : Sid (parF ord behind (arI S ord ii) ii = -1) := ⟨parF_none (fun q hq => HQ.out q (by omega))⟩
                have ec3 : w'.cell? ⟨b', 2, none⟩ = some (.int .i64 (bagI S ord behind ii).parent) := by rw [ec2]; congr 2; exact HPAR.out.symm
                have HXT := HPX
                have HKT := HPK
                have HT4 := HI4
                have HT11 := HI11
                clear ec2
                have HOB2 : Sid (OwnBags (fun k => w.heap.size ≤ k) w1.heap.size w' (.slice A3 (bagsL S ord behind m).length c3) (bagsL S ord behind m)) := ⟨HOB.out.ext HXT.out (fun k hk hh => by have := hge k hk.symm; omega) (fun k hk hh => by omega)⟩
                have HS4 : Sid (IntsR .i64 (fun k => w.heap.size ≤ k ∧ some k ≠ (Value.slice A3 (bagsL S ord behind m).length c3).ownBlock) w' (.slice A4 (membersL (arI S ord ii)).length c4) (bagI S ord behind ii).vs) := ⟨HT4.out.imp (fun k _ hk => by have := hk.1; rw [HP2.out] at this; exact this)⟩
                have HS11 : Sid (IntsR .i64 (fun k => w.heap.size ≤ k ∧ some k ≠ (Value.slice A3 (bagsL S ord behind m).length c3).ownBlock) w' (.slice A5 rr.length c5) (bagI S ord behind ii).es) := ⟨by have h := HT11.out.imp (P' := fun k => w.heap.size ≤ k ∧ some k ≠ (Value.slice A3 (bagsL S ord behind m).length c3).ownBlock) (fun k _ hk => by have := hk.1; rw [HP2.out] at this; exact this); simpa [bagI, HRR.out] using h⟩
                have hszT : w1.heap.size ≤ w'.heap.size := by have := HXT.out.size; omega
                have hbl2 : (bagsL S ord behind m).length ≤ 1000000000 := by simp [bagsL]; omega
                go_wp2_with (first | (at_builtin; refine appBag w1.heap.size rfl (.tmp 91) (.tmp 93) 42 rfl Tryd.underlying42 info51 (.slice A3 (bagsL S ord behind m).length c3) (bagsL S ord behind m) _ _ (bagI S ord behind ii) rfl rfl (by simp) HOB2.out HS4.out HS11.out hszT hbl2 ?_; intro v3 w3 ho3 hx3 hb3 hs3; have HO3 := Sid.mk ho3; have HX3 := Sid.mk hx3; have HB3 := Sid.mk hb3; clear ho3 hx3 hb3 hs3))
                go_roundw
                case rel =>
                  first | refine ⟨m + 1, (ii : Int) - 1, by omega, by first | rfl | go_num, ⟨by have := HI.out; omega⟩, ⟨by rw [bagsL_succ, show ord.length - 1 - m = ii from by have := HI.out; omega]; exact HO3.out⟩, ⟨((HX.out.trans HXT.out).step HX3.out (fun i hi hh => by have := hge i hh; omega))⟩, ⟨?_⟩⟩ | refine ⟨m + 1, by omega, ⟨by have := HI.out; omega⟩, ⟨by rw [bagsL_succ, show ord.length - 1 - m = ii from by have := HI.out; omega]; exact HO3.out⟩, ⟨((HX.out.trans HXT.out).step HX3.out (fun i hi hh => by have := hge i hh; omega))⟩, ⟨?_⟩⟩ | refine ⟨m + 1, by omega, (ii : Int) - 1, by first | rfl | go_num, ⟨by have := HI.out; omega⟩, ⟨by rw [bagsL_succ, show ord.length - 1 - m = ii from by have := HI.out; omega]; exact HO3.out⟩, ⟨((HX.out.trans HXT.out).step HX3.out (fun i hi hh => by have := hge i hh; omega))⟩, ⟨?_⟩⟩
                  refine ((HKT.out.imp (P' := fun k => (P k ∧ some k ≠ v3.ownBlock) ∧ some k ≠ (Value.slice A3 (bagsL S ord behind m).length c3).ownBlock) (fun k hk hp => ?_)).ext HX3.out (fun hh => by have := hge _ hh; omega) (fun k hk => hk.2)).imp (fun k _ hk => hk.1)
                  have hp1 := hp.1
                  rw [HP1.out] at hp1
                  refine ⟨⟨hp1.1, fun hh => ?_⟩, hp1.2⟩
                  rcases (show From _ _ _ from HB3.out).block hh with h | h
                  · exact hp1.2 h
                  · omega
                case measure => (simp [intOf] <;> omega)
        · obtain rfl : m = ord.length := by omega
          obtain rfl : i = -1 := by have := HI.out; omega
          obtain ⟨A3, c3, rfl⟩ := HOB.out.slice
          go_wp2
          go_ret
          exact ⟨_, rfl, HOB.out.bags (by simp [bagsL]; omega) (fun k hk => by have := (HOB.out.ge k hk).1; omega) (fun k hk => hk), (HA.out.ext.mono (fun _ h => h.elim)).trans HX.out, HKN.out.imp (fun k _ hk => hk.1)⟩
end Go.Proofs.YtceiaekkfabeaaaDoor

/- Of's plain answer, and what it wants of orders. -/
namespace Go.Proofs.YtceiaekkfabeaaaDoor
open Go.RowKit Go.Shelf Pl

theorem lookE_sub (gone i : Nat) : ∀ (S : List Nat) (mo : Nat × Nat), (lookE S gone mo).2.testBit i = true → mo.2.testBit i = true ∨ S.any (·.testBit i) = true
  | [], mo, h => Or.inl h
  | e :: S, mo, h => by
    rw [lookE, List.foldl_cons] at h
    rcases lookE_sub gone i S _ h with h | h
    · split at h
      · rw [Nat.testBit_or, Bool.or_eq_true] at h
        rcases h with h | h
        · exact Or.inl h
        · exact Or.inr (by simp [h])
      · exact Or.inl h
    · exact Or.inr (by simp only [List.any_cons, h, Bool.or_true])
theorem lookN_sub (S : List Nat) (gone i : Nat) : ∀ (f : Nat) (mo : Nat × Nat), (lookN S gone f mo).2.testBit i = true → mo.2.testBit i = true ∨ (orTo S).testBit i = true
  | 0, mo, h => Or.inl h
  | f + 1, mo, h => by
    rw [lookN] at h
    split at h
    · rw [orTo_testBit]; exact lookE_sub gone i S mo h
    · rcases lookN_sub S gone i f _ h with h | h
      · rw [orTo_testBit]; exact lookE_sub gone i S mo h
      · exact Or.inr h
theorem arF_sub {S : List Nat} {v gone : Nat} (hv : (orTo S).testBit v = true) : sdn (arF S v gone) (orTo S) = 0 := by
  rw [sdn_zero]
  intro i hi
  rw [arF, Nat.testBit_or, Bool.or_eq_true, sdn_testBit, Bool.and_eq_true, Nat.testBit_two_pow, decide_eq_true_eq] at hi
  rcases hi with ⟨hi, _⟩ | rfl
  · rcases lookN_sub S gone i _ _ hi with h | h
    · simp at h
    · exact h
  · exact hv
theorem arF_cov {S : List Nat} {v gone : Nat} (hv : (orTo S).testBit v = true) : ∃ r, covO S (arF S v gone) = some r := covO_some (arF_sub hv)

/-- What an order's numbers are. -/
theorem goN_ord {S : List Nat} {part : Nat} {most : Int} : ∀ (f gone : Nat) (l : List Int), goN S part most f gone = some l → l.Nodup ∧ ∀ x ∈ l, ∃ v : Nat, x = (v : Int) ∧ v < 32 ∧ part.testBit v = true ∧ gone.testBit v = false
  | 0, gone, l, h => by
    rw [goN_zero] at h
    split at h
    · simp only [Option.some.injEq] at h; subst h; simp
    · cases h
  | f + 1, gone, l, h => by
    rw [goN_succ] at h
    split at h
    · simp only [Option.some.injEq] at h; subst h; simp
    · obtain ⟨x, hx, hg⟩ := List.exists_of_findSome?_eq_some h
      obtain ⟨v, rfl, hv⟩ := membersL_mem.1 hx
      obtain ⟨hv1, hv2⟩ := membersN_mem.1 hv
      rw [sdn_testBit, Bool.and_eq_true, Bool.not_eq_true'] at hv2
      rw [goV] at hg
      split at hg
      · cases hg
      · rw [Option.map_eq_some_iff] at hg
        obtain ⟨l', hl', rfl⟩ := hg
        obtain ⟨h1, h2⟩ := goN_ord f _ l' hl'
        refine ⟨List.nodup_cons.2 ⟨fun hm => ?_, h1⟩, fun y hy => ?_⟩
        · obtain ⟨u, hu, _, _, hg2⟩ := h2 _ hm
          have : u = v := by omega
          subst this
          simp at hg2
        · rcases List.mem_cons.1 hy with rfl | hy
          · exact ⟨v, rfl, hv1, hv2.1, hv2.2⟩
          · obtain ⟨u, rfl, a1, a2, a3⟩ := h2 y hy
            rw [Nat.testBit_or, Bool.or_eq_false_iff] at a3
            exact ⟨u, rfl, a1, a2, a3.1⟩
theorem goX_ord {S : List Nat} {part : Nat} {most : Int} {gone : Nat} {l : List Int} (h : goX S part most gone = some l) : l.Nodup ∧ ∀ x ∈ l, ∃ v : Nat, x = (v : Int) ∧ v < 32 ∧ part.testBit v = true ∧ gone.testBit v = false := goN_ord 32 gone l h
theorem goX_pos {S : List Nat} {part : Nat} {most : Int} {l : List Int} (hp : part ≠ 0) (h : goX S part most 0 = some l) : 0 < l.length := by
  rw [goX_step (Ne.symm hp)] at h
  obtain ⟨x, hx, hg⟩ := List.exists_of_findSome?_eq_some h
  rw [goY] at hg
  split at hg
  · cases hg
  · rw [Option.map_eq_some_iff] at hg
    obtain ⟨l', _, rfl⟩ := hg
    simp

/-- The bags of parts, behind others. -/
def ofF (S : List Nat) (most : Int) : List Nat → List Bag → Option (List Bag)
  | [], out => some out
  | p :: ps, out => match goX S p most 0 with
    | none => none
    | some ord => ofF S most ps (out ++ bagsL S ord out.length ord.length)
theorem ofF_take {S : List Nat} {most : Int} : ∀ {ps : List Nat} {out : List Bag} {k p : Nat} {o1 : List Bag}, ofF S most (ps.take k) out = some o1 → ps[k]? = some p →
    ofF S most (ps.take (k + 1)) out = (goX S p most 0).map (fun ord => o1 ++ bagsL S ord o1.length ord.length)
  | [], _, _, _, _, _, h => by simp at h
  | q :: ps, out, 0, p, o1, h0, h => by
    simp only [List.getElem?_cons_zero, Option.some.injEq] at h
    subst h
    simp only [List.take_zero, ofF, Option.some.injEq] at h0
    subst h0
    rw [List.take_succ_cons, List.take_zero, ofF]
    cases goX S q most 0 <;> rfl
  | q :: ps, out, k + 1, p, o1, h0, h => by
    rw [List.take_succ_cons, ofF] at h0 ⊢
    cases hg : goX S q most 0 with
    | none => rw [hg] at h0; cases h0
    | some ord =>
      rw [hg] at h0
      simp only at h0 ⊢
      exact ofF_take h0 (by simpa using h)
theorem ofF_none {S : List Nat} {most : Int} : ∀ {ps : List Nat} {out : List Bag} {k p : Nat} {o1 : List Bag}, ofF S most (ps.take k) out = some o1 → ps[k]? = some p → goX S p most 0 = none → ofF S most ps out = none
  | [], _, _, _, _, _, h, _ => by simp at h
  | q :: ps, out, 0, p, o1, h0, h, hn => by
    simp only [List.getElem?_cons_zero, Option.some.injEq] at h
    subst h
    rw [ofF, hn]
  | q :: ps, out, k + 1, p, o1, h0, h, hn => by
    rw [List.take_succ_cons, ofF] at h0
    rw [ofF]
    cases hg : goX S q most 0 with
    | none => rfl
    | some ord =>
      rw [hg] at h0
      exact ofF_none h0 (by simpa using h) hn
/-- Edges without vertices want a bag. -/
def endO (es : List (List Int)) (out : List Bag) : List Bag := if out.length = 0 ∧ 0 < es.length then [⟨[], [], -1⟩] else out
/-- What Of answers: the error, the bags. -/
def ofA (many : Int) (es : List (List Int)) (most : Int) : Int × List Bag :=
  if beginE many es most ≠ 0 then (beginE many es most, []) else match ofF (es.map ofTo) most (partsL (es.map ofTo) many.toNat) [] with
    | none => (4, [])
    | some out => (0, endO es out)
theorem partsL_pos {S : List Nat} : ∀ n, ∀ p ∈ partsL S n, p ≠ 0
  | 0, p, hp => by simp [partsL, partsF] at hp
  | n + 1, p, hp => by
    rw [partsL, partsF_succ] at hp
    split at hp
    · exact partsL_pos n p hp
    · rcases List.mem_append.1 hp with hp | hp
      · exact partsL_pos n p hp
      · obtain rfl := List.mem_singleton.1 hp
        have : ∀ (m q : Nat), q ≠ 0 → growF S m q ≠ 0 := by
          intro m
          induction m with
          | zero => exact fun q h => h
          | succ m ih =>
            intro q hq
            rw [growF]
            cases S.find? (meetsB q) with
            | none => exact hq
            | some s =>
              refine ih _ fun h => hq ?_
              refine Nat.eq_of_testBit_eq fun i => ?_
              have := congrArg (fun x => x.testBit i) h
              simp only [Nat.testBit_or, Nat.zero_testBit, Bool.or_eq_false_iff] at this
              simp [this.1]
        exact this _ _ (Nat.ne_of_gt (Nat.two_pow_pos n))
theorem bagsR_nil (P : Nat → Prop) (w : World) : BagsR P w (.slice none 0 0) [] := ⟨none, 0, rfl, ⟨Nat.le_refl _, fun _ => rfl⟩, by simp, fun hp => by simp at hp⟩
theorem bagsR_one {P : Nat → Prop} (w : World) (hP : P w.heap.size) : BagsR P (w.alloc (.cells #[.slice none 0 0, .slice none 0 0, .int .i64 (-1)] 51)) (.slice (some ⟨w.heap.size, 0, none⟩) 1 1) [⟨[], [], -1⟩] := by
  refine ⟨some ⟨w.heap.size, 0, none⟩, 1, rfl, ⟨Nat.le_refl _, fun h => by cases h⟩, by simp, fun _ => ⟨_, rfl, hP, rfl, fun j hj => ?_⟩⟩
  have hj0 : j = 0 := by simpa using hj
  subst hj0
  refine ⟨[.slice none 0 0, .slice none 0 0, .int .i64 (-1)], ⟨_, _, rfl, ints_nil _ _ _, ints_nil _ _ _⟩, rfl, fun i u hu => ?_⟩
  have hh : (w.alloc (.cells #[.slice none 0 0, .slice none 0 0, .int .i64 (-1)] 51)).heap[w.heap.size]? = some (.cells #[.slice none 0 0, .slice none 0 0, .int .i64 (-1)] 51) := World.alloc_heap_new w _
  simp only [World.cell?, hh]
  simpa using hu
theorem ofTo_members (p : Nat) (hp : p < 4294967296) : ofTo (membersL p) = p := by
  have key : ∀ (l : List Int) (s : Nat), (∀ x ∈ l, 0 ≤ x) → ∀ i, (l.foldl (fun s v => s ||| 2 ^ v.toNat) s).testBit i = (s.testBit i || decide ((i : Int) ∈ l)) := by
    intro l
    induction l with
    | nil => intro s _ i; simp
    | cons x l ih =>
      intro s hl i
      have hx := hl x (by simp)
      rw [List.foldl_cons, ih _ (fun y hy => hl y (by simp [hy])), Nat.testBit_or, Nat.testBit_two_pow]
      by_cases h1 : (i : Int) = x
      · subst h1; simp
      · have : ¬ x.toNat = i := by omega
        simp [this, h1]
  apply Nat.eq_of_testBit_eq
  intro i
  rw [ofTo, key _ _ (fun x hx => by obtain ⟨v, rfl, _⟩ := membersL_mem.1 hx; omega), Nat.zero_testBit, Bool.false_or]
  by_cases hi : i < 32
  · cases hb : p.testBit i with
    | true => simpa using membersL_mem.2 ⟨i, rfl, membersN_mem.2 ⟨hi, hb⟩⟩
    | false =>
      simp only [decide_eq_false_iff_not]
      intro hm
      obtain ⟨v, hv, hv2⟩ := membersL_mem.1 hm
      obtain rfl : i = v := by omega
      rw [(membersN_mem.1 hv2).2] at hb; cases hb
  · have : p.testBit i = false := Nat.testBit_lt_two_pow (Nat.lt_of_lt_of_le (show p < 2 ^ 32 by omega) (Nat.pow_le_pow_right (by omega) (by omega)))
    rw [this]
    simp only [decide_eq_false_iff_not]
    intro hm
    obtain ⟨v, hv, hv2⟩ := membersL_mem.1 hm
    have := (membersN_mem.1 hv2).1
    omega
end Go.Proofs.YtceiaekkfabeaaaDoor
