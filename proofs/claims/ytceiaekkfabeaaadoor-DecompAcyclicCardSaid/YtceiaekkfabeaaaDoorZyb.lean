/- Words and contracts for: DecompAcyclic: for every hypergraph the law answers true, and its arguments read as before. No condition; the library's table math/bits.deBruijn64tab is laid by its text. -/
import Derived.Lib.SliceRun
import Derived.Deep.RegionHeld3
import Derived.Deep.RegionLawGrows
import Derived.Deep.AppendLies
import Derived.Test.YtceiaekkfabeaaaDoorZya
/- Walks: functions of the references that only read rows of numbers. -/
namespace Go.Proofs.YtceiaekkfabeaaaDoor
open Go.RowKit Pl

theorem ret_bool {a b : Bool} (h : a = b) : Ending.returned (.bool a) = .returned (.bool b) := by rw [h]
theorem ret_int {k : IntKind} {a b : Int} (h : a = b) : Ending.returned (.int k a) = .returned (.int k b) := by rw [h]

set_option maxHeartbeats 400000 in
theorem has_any {P : Nat → Prop} (v : Value) (xs : List Int) (n : Int) (w : World) (hv : IntsR .i64 P w v xs) :
    Calls Tryd.prog 40 #[v, .int .i64 n] w fun e w' => e = .returned (.bool (hasB xs n)) ∧ w = w' := by
  obtain ⟨A, c, rfl, hc, hm, hat⟩ := hv.at
  have HAT := Sid.mk hat
  clear hat hv
  go_enter Tryd.func40, Tryd.ntmps40
  go_wp2
  go_loop [9] (fun i => ∃ k : Nat, k ≤ xs.length ∧ i = .int .i64 k ∧ Sid (hasB (xs.take k) n = false)) (fun i => xs.length - (intOf i).toNat)
  case atStart => exact ⟨0, Nat.zero_le _, rfl, ⟨by simp [hasB]⟩⟩
  case round =>
    obtain ⟨k, hk, rfl, hs⟩ := hrel
    by_cases hlt : k < xs.length
    · obtain ⟨b, off, x, rfl, _, hcell, HX⟩ := HAT.out k hlt
      cases he : (x == n) with
      | true =>
        have HE := Sid.mk he
        go_wp2
        go_ret
        exact ⟨ret_bool (hasB_of HX.out HE.out).symm, rfl⟩
      | false =>
        have HE := Sid.mk he
        go_wp2
        go_round
        case rel => exact ⟨k+1, by omega, by go_num, ⟨hasB_false_succ hs.out HX.out HE.out⟩⟩
        case measure => simp [intOf]; omega
    · go_wp2
      go_ret
      exact ⟨ret_bool (hasB_all hlt hs.out).symm, rfl⟩

set_option maxHeartbeats 400000 in
theorem within_any {P P' : Nat → Prop} (v u : Value) (xs ys : List Int) (w : World) (hv : IntsR .i64 P w v xs) (hu : IntsR .i64 P' w u ys) :
    Calls Tryd.prog 46 #[v, u] w fun e w' => e = .returned (.bool (withinB xs ys)) ∧ w = w' := by
  obtain ⟨A, c, rfl, hc, hm, hat⟩ := hv.at
  have HAT := Sid.mk hat
  have HU := Sid.mk hu
  clear hat hv hu
  go_enter Tryd.func46, Tryd.ntmps46
  go_wp2
  go_loop [9] (fun i => ∃ k : Nat, k ≤ xs.length ∧ i = .int .i64 k ∧ Sid (allB (hasB ys) (xs.take k) = true)) (fun i => xs.length - (intOf i).toNat)
  case atStart => exact ⟨0, Nat.zero_le _, rfl, ⟨by simp [allB]⟩⟩
  case round =>
    obtain ⟨k, hk, rfl, hs⟩ := hrel
    by_cases hlt : k < xs.length
    · obtain ⟨b, off, x, rfl, _, hcell, HX⟩ := HAT.out k hlt
      cases he : hasB ys x with
      | false =>
        have HE := Sid.mk he
        go_wp2_with (go_at_call 40; refine (has_any _ ys _ _ HU.out).mono ?_; rintro e w' ⟨rfl, rfl⟩)
        go_ret
        exact ⟨ret_bool (allB_false HX.out HE.out).symm, rfl⟩
      | true =>
        have HE := Sid.mk he
        go_wp2_with (go_at_call 40; refine (has_any _ ys _ _ HU.out).mono ?_; rintro e w' ⟨rfl, rfl⟩)
        go_round
        case rel => exact ⟨k+1, by omega, by go_num, ⟨allB_succ hs.out HX.out HE.out⟩⟩
        case measure => simp [intOf]; omega
    · go_wp2
      go_ret
      exact ⟨ret_bool (allB_all hlt hs.out).symm, rfl⟩

set_option maxHeartbeats 800000 in
theorem Rises_any {P : Nat → Prop} (v : Value) (xs : List Int) (many : Int) (w : World) (hv : IntsR .i64 P w v xs) :
    Calls Tryd.prog 13 #[v, .int .i64 many] w fun e w' => e = .returned (.bool (risesB xs many)) ∧ w = w' := by
  obtain ⟨A, c, rfl, hc, hm, hat⟩ := hv.at
  have HAT := Sid.mk hat
  clear hat hv
  go_enter Tryd.func13, Tryd.ntmps13
  go_wp2
  go_loop [9] (fun i => ∃ k : Nat, k ≤ xs.length ∧ i = .int .i64 k ∧ Sid (∀ i, i < k → goodAt xs many i)) (fun i => xs.length - (intOf i).toNat)
  case atStart => exact ⟨0, Nat.zero_le _, rfl, ⟨by omega⟩⟩
  case round =>
    obtain ⟨k, hk, rfl, hs⟩ := hrel
    by_cases hlt : k < xs.length
    · obtain ⟨b, off, x, rfl, _, hcell, HX⟩ := HAT.out k hlt
      by_cases h1 : x < 0
      · go_wp2
        go_ret
        exact ⟨ret_bool (risesB_false (i := k) (fun hg => by have := hg x HX.out; omega)).symm, rfl⟩
      · by_cases h2 : many ≤ x
        · go_wp2
          go_ret
          exact ⟨ret_bool (risesB_false (i := k) (fun hg => by have := hg x HX.out; omega)).symm, rfl⟩
        · by_cases h0 : k = 0
          · subst h0
            simp only [Nat.add_zero] at hcell
            go_wp2
            go_round
            case rel => exact ⟨1, by omega, by go_num, ⟨fun i hi z hz => by obtain rfl : i = 0 := by omega
                                                                            rw [HX.out] at hz; cases hz; exact ⟨by omega, by omega, by omega⟩⟩⟩
            case measure => simp [intOf]; omega
          · have hk0 : 0 < k := by omega
            obtain ⟨b', off', y, hb, _, hcell', HY⟩ := HAT.out (k - 1) (by omega)
            cases hb
            by_cases h3 : x ≤ y
            · go_wp2
              go_ret
              exact ⟨ret_bool (risesB_false (i := k) (fun hg => by have := (hg x HX.out).2.2 y hk0 HY.out; omega)).symm, rfl⟩
            · go_wp2
              go_round
              case rel => exact ⟨k+1, by omega, by go_num, ⟨fun i hi => by
                            by_cases hik : i < k
                            · exact hs.out i hik
                            · obtain rfl : i = k := by omega
                              intro z hz
                              rw [HX.out] at hz; cases hz
                              exact ⟨by omega, by omega, fun u _ hu => by rw [HY.out] at hu; cases hu; omega⟩⟩⟩
              case measure => simp [intOf]; omega
    · go_wp2
      go_ret
      exact ⟨ret_bool (risesB_iff.2 (fun i => by
        by_cases hik : i < k
        · exact hs.out i hik
        · intro z hz; rw [List.getElem?_eq_none (by omega)] at hz; cases hz)).symm, rfl⟩
set_option maxHeartbeats 800000 in
theorem rises_any {P : Nat → Prop} (v : Value) (xs : List Int) (many : Int) (w : World) (hv : IntsR .i64 P w v xs) :
    Calls Tryd.prog 32 #[v, .int .i64 many] w fun e w' => e = .returned (.bool (risesB xs many)) ∧ w = w' := by
  obtain ⟨A, c, rfl, hc, hm, hat⟩ := hv.at
  have HAT := Sid.mk hat
  clear hat hv
  go_enter Tryd.func32, Tryd.ntmps32
  go_wp2
  go_loop [9] (fun i => ∃ k : Nat, k ≤ xs.length ∧ i = .int .i64 k ∧ Sid (∀ i, i < k → goodAt xs many i)) (fun i => xs.length - (intOf i).toNat)
  case atStart => exact ⟨0, Nat.zero_le _, rfl, ⟨by omega⟩⟩
  case round =>
    obtain ⟨k, hk, rfl, hs⟩ := hrel
    by_cases hlt : k < xs.length
    · obtain ⟨b, off, x, rfl, _, hcell, HX⟩ := HAT.out k hlt
      by_cases h1 : x < 0
      · go_wp2
        go_ret
        exact ⟨ret_bool (risesB_false (i := k) (fun hg => by have := hg x HX.out; omega)).symm, rfl⟩
      · by_cases h2 : many ≤ x
        · go_wp2
          go_ret
          exact ⟨ret_bool (risesB_false (i := k) (fun hg => by have := hg x HX.out; omega)).symm, rfl⟩
        · by_cases h0 : k = 0
          · subst h0
            simp only [Nat.add_zero] at hcell
            go_wp2
            go_round
            case rel => exact ⟨1, by omega, by go_num, ⟨fun i hi z hz => by obtain rfl : i = 0 := by omega
                                                                            rw [HX.out] at hz; cases hz; exact ⟨by omega, by omega, by omega⟩⟩⟩
            case measure => simp [intOf]; omega
          · have hk0 : 0 < k := by omega
            obtain ⟨b', off', y, hb, _, hcell', HY⟩ := HAT.out (k - 1) (by omega)
            cases hb
            by_cases h3 : x ≤ y
            · go_wp2
              go_ret
              exact ⟨ret_bool (risesB_false (i := k) (fun hg => by have := (hg x HX.out).2.2 y hk0 HY.out; omega)).symm, rfl⟩
            · go_wp2
              go_round
              case rel => exact ⟨k+1, by omega, by go_num, ⟨fun i hi => by
                            by_cases hik : i < k
                            · exact hs.out i hik
                            · obtain rfl : i = k := by omega
                              intro z hz
                              rw [HX.out] at hz; cases hz
                              exact ⟨by omega, by omega, fun u _ hu => by rw [HY.out] at hu; cases hu; omega⟩⟩⟩
              case measure => simp [intOf]; omega
    · go_wp2
      go_ret
      exact ⟨ret_bool (risesB_iff.2 (fun i => by
        by_cases hik : i < k
        · exact hs.out i hik
        · intro z hz; rw [List.getElem?_eq_none (by omega)] at hz; cases hz)).symm, rfl⟩
end Go.Proofs.YtceiaekkfabeaaaDoor

namespace Go.Proofs.YtceiaekkfabeaaaDoor
open Go.RowKit Pl

theorem ext_box {w : World} (o : Obj) : Ext No w (w.alloc o) := (Ext.refl No w).alloc o

set_option maxHeartbeats 800000 in
theorem covers_any {P P1 P2 : Nat → Prop} (many : Int) (ev rv vv : Value) (es : List (List Int)) (row vs : List Int) (w : World) (he : RowsR P w ev es) (hr : IntsR .i64 P1 w rv row) (hv : IntsR .i64 P2 w vv vs) (hin : inB row es.length) :
    Calls Tryd.prog 38 #[.agg #[.int .i64 many, ev], rv, vv] w fun e w' => e = .returned (.bool (coversB es row vs)) ∧ Ext No w w' := by
  obtain ⟨Ae, ce, rfl, hce, hme, hate⟩ := (he.ext (ext_box (w := w) (.cells #[.int .i64 many, ev] 24)) (fun _ _ h => h)).at
  obtain ⟨Ar, cr, rfl, hcr, hmr, hatr⟩ := (hr.ext (ext_box (w := w) (.cells #[.int .i64 many, .slice Ae es.length ce] 24)) (fun _ _ h => h)).at
  obtain ⟨Av, cv, rfl, hcv, hmv, hatv⟩ := (hv.ext (ext_box (w := w) (.cells #[.int .i64 many, .slice Ae es.length ce] 24)) (fun _ _ h => h)).at
  have HE := Sid.mk hate
  have HR := Sid.mk hatr
  have HV := Sid.mk hatv
  have HIN := Sid.mk hin
  clear hate hatr hatv hin he hr hv
  go_enter Tryd.func38, Tryd.ntmps38
  go_wp2
  go_loop [14] (fun i => ∃ k : Nat, k ≤ vs.length ∧ i = .int .i64 k ∧ Sid (allB (fun v => anyB (fun e => hasB (edgeAt es e) v) row) (vs.take k) = true)) (fun i => vs.length - (intOf i).toNat)
  case atStart => exact ⟨0, Nat.zero_le _, rfl, ⟨by simp [allB]⟩⟩
  case round =>
    obtain ⟨k, hk, rfl, hs⟩ := hrel
    by_cases hlt : k < vs.length
    · obtain ⟨bv, offv, x, rfl, _, hcellv, HX⟩ := HV.out k hlt
      go_wp2
      go_loop [9, 20] (fun b i => ∃ j : Nat, j ≤ row.length ∧ i = .int .i64 j ∧ b = .bool (anyB (fun e => hasB (edgeAt es e) x) (row.take j))) (fun _ i => row.length - (intOf i).toNat)
      case atStart => exact ⟨0, Nat.zero_le _, rfl, by simp [anyB]⟩
      case round =>
        obtain ⟨j, hj, rfl, rfl⟩ := hrel
        by_cases hjt : j < row.length
        · obtain ⟨br, offr, e, rfl, _, hcellr, HEj⟩ := HR.out j hjt
          obtain ⟨m, rfl, hm⟩ := HIN.out.at HEj.out
          obtain ⟨be, offe, A', c', r, rfl, _, hcelle, HR', HI'⟩ := HE.out m hm
          cases hb : anyB (fun e => hasB (edgeAt es e) x) (row.take j) with
          | true =>
            have HB := Sid.mk hb
            clear hb
            go_wp2
            go_round
            case rel => exact ⟨j+1, by omega, by go_num, by rw [anyB_succ HEj.out, HB.out]; rfl⟩
            case measure => simp [intOf]; omega
          | false =>
            have HB := Sid.mk hb
            clear hb
            go_wp2_with (go_at_call 40; refine (has_any _ r _ _ HI'.out).mono ?_; rintro e w' ⟨rfl, rfl⟩)
            go_round
            case rel => exact ⟨j+1, by omega, by go_num, by rw [anyB_succ HEj.out, HB.out, edgeAt_of rfl HR'.out]; rfl⟩
            case measure => simp [intOf]; omega
        · cases hb : anyB (fun e => hasB (edgeAt es e) x) (row.take j) with
          | true =>
            have HB := Sid.mk hb
            clear hb
            go_wp2
            go_round
            case rel => exact ⟨k+1, by omega, by go_num, ⟨allB_succ hs.out HX.out (by have := HB.out; rwa [List.take_of_length_le (by omega)] at this)⟩⟩
            case measure => simp [intOf]; omega
          | false =>
            have HB := Sid.mk hb
            clear hb
            go_wp2
            go_ret
            exact ⟨ret_bool (allB_false HX.out (by have := HB.out; rwa [List.take_of_length_le (by omega)] at this)).symm, ext_box _⟩
    · go_wp2
      go_ret
      exact ⟨ret_bool (allB_all hlt hs.out).symm, ext_box _⟩
end Go.Proofs.YtceiaekkfabeaaaDoor

namespace Go.Proofs.YtceiaekkfabeaaaDoor
open Go.RowKit Pl

/-- A function of the program's own is entered. -/
def Enters (g : Nat) : Prop := ∀ (l : Array Value) (w : World), Sem.run Tryd.prog (callFunc g l) w = .ok (.enter g l) w

set_option maxHeartbeats 400000 in
set_option maxRecDepth 100000 in
theorem allInts_any {P : Nat → Prop} (g : Nat) (hg : Enters g) (caps : Array Value) (f : Nat → Int → Bool) (v : Value) (xs : List Int) (w : World) (hv : IntsR .i64 P w v xs)
    (hf : ∀ (i : Nat) (x : Int) (wx : World), Ext No w wx → xs[i]? = some x → Calls Tryd.prog g (#[.int .i64 i, .int .i64 x] ++ caps) wx fun e w' => e = .returned (.bool (f i x)) ∧ Ext No wx w') :
    Calls Tryd.prog 63 #[v, .func (.func g) #[] caps] w fun e w' => e = .returned (.bool (allI f 0 xs)) ∧ Ext No w w' := by
  obtain ⟨A, c, rfl, hc, hm, hat⟩ := hv.at
  have HAT := Sid.mk hat
  have HF := Sid.mk hf
  clear hat hv hf
  unfold Enters at hg
  go_enter Tryd.func63, Tryd.ntmps63
  go_wp2
  go_loopw [9] (fun i wr => ∃ k : Nat, k ≤ xs.length ∧ i = .int .i64 k ∧ Sid (∀ i x, i < k → xs[i]? = some x → f i x = true) ∧ Sid (Ext No w wr)) (fun i _ => xs.length - (intOf i).toNat)
  case atStart => exact ⟨0, Nat.zero_le _, rfl, ⟨by omega⟩, ⟨Ext.refl _ _⟩⟩
  case round =>
    obtain ⟨k, hk, rfl, HS, HX⟩ := hrel
    by_cases hlt : k < xs.length
    · obtain ⟨b, off, x, rfl, _, hcell0, HB⟩ := HAT.out k hlt
      have hcell := HX.out.no hcell0
      clear hcell0
      cases hb : f k x with
      | false =>
        have HH := Sid.mk hb
        clear hb
        go_wp2_with (refine (HF.out k x _ HX.out HB.out).mono ?_; rintro e w1 ⟨rfl, hx1⟩; rw [HH.out]; have HX1 := Sid.mk hx1; clear hx1)
        go_ret
        exact ⟨ret_bool (allI_false HB.out HH.out).symm, HX.out.trans HX1.out⟩
      | true =>
        have HH := Sid.mk hb
        clear hb
        go_wp2_with (refine (HF.out k x _ HX.out HB.out).mono ?_; rintro e w1 ⟨rfl, hx1⟩; rw [HH.out]; have HX1 := Sid.mk hx1; clear hx1)
        go_roundw
        case rel => exact ⟨k+1, by omega, by go_num, ⟨fun i y hi hy => by
          by_cases hik : i < k
          · exact HS.out i y hik hy
          · obtain rfl : i = k := by omega
            rw [HB.out] at hy; cases hy; exact HH.out⟩, ⟨HX.out.trans HX1.out⟩⟩
        case measure => simp [intOf]; omega
    · go_wp2
      go_ret
      exact ⟨ret_bool (allI_of hlt HS.out).symm, HX.out⟩

set_option maxHeartbeats 400000 in
set_option maxRecDepth 100000 in
theorem allRows_any {P : Nat → Prop} (g : Nat) (hg : Enters g) (caps : Array Value) (f : Nat → List Int → Bool) (v : Value) (xss : List (List Int)) (w : World) (hv : RowsR P w v xss)
    (hf : ∀ (i : Nat) (u : Value) (x : List Int) (wx : World), Ext No w wx → xss[i]? = some x → IntsR .i64 P wx u x → Calls Tryd.prog g (#[.int .i64 i, u] ++ caps) wx fun e w' => e = .returned (.bool (f i x)) ∧ Ext No wx w') :
    Calls Tryd.prog 60 #[v, .func (.func g) #[] caps] w fun e w' => e = .returned (.bool (allI f 0 xss)) ∧ Ext No w w' := by
  obtain ⟨A, c, rfl, hc, hm, hat⟩ := hv.at
  have HAT := Sid.mk hat
  have HF := Sid.mk hf
  clear hat hv hf
  unfold Enters at hg
  go_enter Tryd.func60, Tryd.ntmps60
  go_wp2
  go_loopw [9] (fun i wr => ∃ k : Nat, k ≤ xss.length ∧ i = .int .i64 k ∧ Sid (∀ i x, i < k → xss[i]? = some x → f i x = true) ∧ Sid (Ext No w wr)) (fun i _ => xss.length - (intOf i).toNat)
  case atStart => exact ⟨0, Nat.zero_le _, rfl, ⟨by omega⟩, ⟨Ext.refl _ _⟩⟩
  case round =>
    obtain ⟨k, hk, rfl, HS, HX⟩ := hrel
    by_cases hlt : k < xss.length
    · obtain ⟨b, off, A', c', x, rfl, _, hcell0, HB, HI⟩ := HAT.out k hlt
      have hcell := HX.out.no hcell0
      clear hcell0
      cases hb : f k x with
      | false =>
        have HH := Sid.mk hb
        clear hb
        go_wp2_with (refine (HF.out k _ x _ HX.out HB.out (HI.out.no HX.out)).mono ?_; rintro e w1 ⟨rfl, hx1⟩; rw [HH.out]; have HX1 := Sid.mk hx1; clear hx1)
        go_ret
        exact ⟨ret_bool (allI_false HB.out HH.out).symm, HX.out.trans HX1.out⟩
      | true =>
        have HH := Sid.mk hb
        clear hb
        go_wp2_with (refine (HF.out k _ x _ HX.out HB.out (HI.out.no HX.out)).mono ?_; rintro e w1 ⟨rfl, hx1⟩; rw [HH.out]; have HX1 := Sid.mk hx1; clear hx1)
        go_roundw
        case rel => exact ⟨k+1, by omega, by go_num, ⟨fun i y hi hy => by
          by_cases hik : i < k
          · exact HS.out i y hik hy
          · obtain rfl : i = k := by omega
            rw [HB.out] at hy; cases hy; exact HH.out⟩, ⟨HX.out.trans HX1.out⟩⟩
        case measure => simp [intOf]; omega
    · go_wp2
      go_ret
      exact ⟨ret_bool (allI_of hlt HS.out).symm, HX.out⟩

theorem enters61 : Enters 61 := fun l w => by kernel_rfl
theorem enters64 : Enters 64 := fun l w => by kernel_rfl
theorem enters82 : Enters 82 := fun l w => by kernel_rfl

set_option maxHeartbeats 400000 in
theorem verts1_any (i x many : Int) (B : Nat) (w : World) (hb : w.cell? ⟨B, 0, none⟩ = some (.int .i64 many)) :
    Calls Tryd.prog 82 #[.int .i64 i, .int .i64 x, .pointer (some ⟨B, 0, none⟩)] w fun e w' => e = .returned (.bool (vertB many x)) ∧ Ext No w w' := by
  by_cases h1 : 0 ≤ x
  · by_cases h2 : x < many
    · go_enter Tryd.func82, Tryd.ntmps82
      go_wp2
      go_ret
      exact ⟨ret_bool (by simp [vertB]; omega), Ext.refl _ _⟩
    · go_enter Tryd.func82, Tryd.ntmps82
      go_wp2
      go_ret
      exact ⟨ret_bool (by simp [vertB]; omega), Ext.refl _ _⟩
  · go_enter Tryd.func82, Tryd.ntmps82
    go_wp2
    go_ret
    exact ⟨ret_bool (by simp [vertB]; omega), Ext.refl _ _⟩

set_option maxHeartbeats 400000 in
theorem vertices_any {P : Nat → Prop} (v : Value) (xs : List Int) (many : Int) (w : World) (hv : IntsR .i64 P w v xs) :
    Calls Tryd.prog 62 #[v, .int .i64 many] w fun e w' => e = .returned (.bool (allI (fun _ x => vertB many x) 0 xs)) ∧ Ext No w w' := by
  have HV := Sid.mk (hv.no (ext_box (.cells #[.int .i64 many] 3)))
  obtain ⟨A, c, rfl, _⟩ := hv.at
  clear hv
  have HB : Sid ((w.alloc (.cells #[.int .i64 many] 3)).cell? ⟨w.heap.size, 0, none⟩ = some (.int .i64 many)) := ⟨by simp⟩
  go_enter Tryd.func62, Tryd.ntmps62
  go_wp2_with (go_at_call 63; refine (allInts_any 82 enters82 #[.pointer (some ⟨w.heap.size, 0, none⟩)] (fun _ x => vertB many x) _ xs _ HV.out ?hf).mono ?_; (case hf => exact fun i x wx hwx _ => verts1_any i x many _ wx (hwx.no HB.out)); rintro e w1 ⟨rfl, hx1⟩; have HX1 := Sid.mk hx1; clear hx1)
  go_ret
  exact ⟨rfl, (ext_box _).trans HX1.out⟩

set_option maxHeartbeats 400000 in
theorem prec_any {P : Nat → Prop} (i : Nat) (x : Int) (B : Nat) (v : Value) (xs : List Int) (w : World) (hv : IntsR .i64 P w v xs) (hb : w.cell? ⟨B, 0, none⟩ = some v) (hi : i < xs.length) :
    Calls Tryd.prog 64 #[.int .i64 i, .int .i64 x, .pointer (some ⟨B, 0, none⟩)] w fun e w' => e = .returned (.bool (precB xs i x)) ∧ Ext No w w' := by
  obtain ⟨A, c, rfl, hc, hm, hat⟩ := hv.at
  clear hv
  by_cases h0 : i = 0
  · subst h0
    clear hat
    go_enter Tryd.func64, Tryd.ntmps64
    go_wp2
    go_ret
    exact ⟨ret_bool (by simp [precB]), Ext.refl _ _⟩
  · obtain ⟨b, off, y, rfl, _, hcell, HY⟩ := hat (i - 1) (by omega)
    clear hat
    have hpos : 0 < i := by omega
    have hne : (i == 0) = false := by simp; omega
    have HN := Sid.mk hne
    clear hne
    have hne2 : ((i : Int) == 0) = false := by simp; omega
    by_cases h3 : y < x
    · go_enter Tryd.func64, Tryd.ntmps64
      go_wp2
      go_ret
      exact ⟨ret_bool (by simp [precB, HN.out, HY.out, h3]), Ext.refl _ _⟩
    · go_enter Tryd.func64, Tryd.ntmps64
      go_wp2
      go_ret
      exact ⟨ret_bool (by simp [precB, HN.out, HY.out]; omega), Ext.refl _ _⟩
end Go.Proofs.YtceiaekkfabeaaaDoor

namespace Go.Proofs.YtceiaekkfabeaaaDoor
open Go.RowKit Pl

def sizesB (many n : Int) : Bool := decide (0 ≤ many) && decide (many ≤ 32) && decide (n ≤ 40)
set_option maxHeartbeats 400000 in
theorem sizes_any (many n : Int) (w : World) :
    Calls Tryd.prog 59 #[.int .i64 many, .int .i64 n] w fun e w' => e = .returned (.bool (sizesB many n)) ∧ w = w' := by
  by_cases h1 : 0 ≤ many
  · by_cases h2 : many ≤ 32
    · by_cases h3 : n ≤ 40
      · go_enter Tryd.func59, Tryd.ntmps59
        go_wp2
        go_ret
        exact ⟨ret_bool (by simp [sizesB]; omega), rfl⟩
      · go_enter Tryd.func59, Tryd.ntmps59
        go_wp2
        go_ret
        exact ⟨ret_bool (by simp [sizesB]; omega), rfl⟩
    · go_enter Tryd.func59, Tryd.ntmps59
      go_wp2
      go_ret
      exact ⟨ret_bool (by simp [sizesB]; omega), rfl⟩
  · go_enter Tryd.func59, Tryd.ntmps59
    go_wp2
    go_ret
    exact ⟨ret_bool (by simp [sizesB]; omega), rfl⟩

def eqB (xs ys : List Int) : Bool := xs == ys
set_option maxHeartbeats 400000 in
theorem Equal_any {P P1 : Nat → Prop} (v u : Value) (xs ys : List Int) (w : World) (hv : IntsR .i64 P w v xs) (hu : IntsR .i64 P1 w u ys) :
    Calls Tryd.prog 15 #[v, u] w fun e w' => e = .returned (.bool (eqB xs ys)) ∧ ∃ n, w' = w.drewN n := by
  obtain ⟨A, c, rfl, hc, hm, hat⟩ := hv.at
  obtain ⟨A1, c1, rfl, hc1, hm1, hat1⟩ := hu.at
  have HAT := Sid.mk hat
  have HAT1 := Sid.mk hat1
  clear hat hat1 hv hu
  by_cases hl : xs.length = ys.length
  · have hl' : ((xs.length : Int) != (ys.length : Int)) = false := by simp [hl]
    have HL := Sid.mk hl
    clear hl
    go_enter Tryd.func15, Tryd.ntmps15
    go_wp2
    go_loopw [13] (fun i wr => ∃ k : Nat, k ≤ xs.length ∧ i = .int .i64 k ∧ Sid (xs.take k = ys.take k) ∧ Sid (∃ n, wr = w.drewN n)) (fun i _ => xs.length - (intOf i).toNat)
    case atStart => exact ⟨0, Nat.zero_le _, rfl, ⟨by simp⟩, ⟨0, rfl⟩⟩
    case round =>
      obtain ⟨k, hk, rfl, hs, ⟨m, hwm⟩⟩ := hrel
      subst hwm
      by_cases hlt : k < xs.length
      · obtain ⟨b, off, x, rfl, _, hcell, HX⟩ := HAT.out k hlt
        have hlt1 : k < ys.length := by have := HL.out; omega
        obtain ⟨b1, off1, y, rfl, _, hcell1, HY⟩ := HAT1.out k hlt1
        have hcella : ∀ n, (w.drewN n).cell? ⟨b, off + k, none⟩ = some (.int .i64 x) := fun _ => hcell
        have hcellb : ∀ n, (w.drewN n).cell? ⟨b1, off1 + k, none⟩ = some (.int .i64 y) := fun _ => hcell1
        cases he : (x != y) with
        | true =>
          have HE := Sid.mk he
          go_wp2
          go_quiet (fail)
          go_wp2
          go_ret
          refine ⟨ret_bool ?_, _, by rw [World.drewN_drewN]⟩
          have h1 := HE.out
          have hne : xs ≠ ys := by
            rintro rfl
            have := HX.out.symm.trans HY.out
            simp at this; subst this; simp at h1
          simp [eqB, hne]
        | false =>
          have HE := Sid.mk he
          go_wp2
          go_quiet (fail)
          go_wp2
          go_roundw
          case rel =>
            have h1 := HE.out
            simp at h1
            subst h1
            obtain ⟨hk1, hx1⟩ := List.getElem?_eq_some_iff.1 HX.out
            obtain ⟨hk2, hx2⟩ := List.getElem?_eq_some_iff.1 HY.out
            exact ⟨k+1, by omega, by go_num, ⟨by rw [List.take_succ_eq_append_getElem hk1, List.take_succ_eq_append_getElem hk2, hs.out, hx1, hx2]⟩, ⟨_, rfl⟩⟩
          case measure => simp [intOf]; omega
      · go_wp2
        go_ret
        refine ⟨ret_bool ?_, _, rfl⟩
        have h1 := hs.out
        rw [List.take_of_length_le (by omega), List.take_of_length_le (by have := HL.out; omega)] at h1
        simp [eqB, h1]
  · have hl' : ((xs.length : Int) != (ys.length : Int)) = true := by simp; omega
    have HL := Sid.mk hl
    clear hl
    go_enter Tryd.func15, Tryd.ntmps15
    go_wp2
    go_ret
    refine ⟨ret_bool ?_, 0, rfl⟩
    have hne : xs ≠ ys := fun h => HL.out (by rw [h])
    simp [eqB, hne]
end Go.Proofs.YtceiaekkfabeaaaDoor

namespace Go.Proofs.YtceiaekkfabeaaaDoor
open Go.RowKit Pl

set_option maxHeartbeats 400000 in
theorem of_any {P : Nat → Prop} (v : Value) (xs : List Int) (w : World) (hv : IntsR .i64 P w v xs) (hs : smallL xs) :
    Calls Tryd.prog 34 #[v] w fun e w' => e = .returned (.int .u64 (ofTo xs : Nat)) ∧ w = w' := by
  obtain ⟨A, c, rfl, hc, hm, hat⟩ := hv.at
  have HAT := Sid.mk hat
  have HS := Sid.mk hs
  clear hat hv hs
  go_enter Tryd.func34, Tryd.ntmps34
  go_wp2
  go_loop [3, 8] (fun s i => ∃ k s' : Nat, k ≤ xs.length ∧ i = .int .i64 k ∧ s = .int .u64 (s' : Int) ∧ Sid (s' = ofTo (xs.take k)) ∧ s' < 4294967296) (fun _ i => xs.length - (intOf i).toNat)
  case atStart => exact ⟨0, 0, Nat.zero_le _, rfl, rfl, ⟨by simp [ofTo]⟩, by omega⟩
  case round =>
    obtain ⟨k, s, hk, rfl, rfl, HO, hs⟩ := hrel
    by_cases hlt : k < xs.length
    · obtain ⟨b, off, x, rfl, _, hcell, HX⟩ := HAT.out k hlt
      obtain ⟨hx0, hx1⟩ := HS.out x (List.mem_of_getElem? HX.out)
      obtain ⟨n, rfl⟩ := Int.eq_ofNat_of_zero_le hx0
      have hn : n < 32 := by omega
      go_wp2
      go_round
      case rel => exact ⟨k+1, s ||| 2 ^ n, by omega, by go_num, congrArg _ (by first | (rw [Int.toNat_natCast, wrap_pow hn, or_u64 hs (pow_lt_32 hn)]) | (rw [wrap_pow hn, or_u64 hs (pow_lt_32 hn)])), ⟨by rw [ofTo_succ HX.out, ← HO.out, Int.toNat_natCast]⟩, or_lt hs (pow_lt_32 hn)⟩
      case measure => simp [intOf]; omega
    · go_wp2
      go_ret
      have := HO.out
      rw [List.take_of_length_le (by omega)] at this
      subst this
      exact ⟨rfl, rfl⟩
set_option maxHeartbeats 400000 in
theorem hof_any {P : Nat → Prop} (v : Value) (xs : List Int) (w : World) (hv : IntsR .i64 P w v xs) (hs : smallL xs) :
    Calls Tryd.prog 67 #[v] w fun e w' => e = .returned (.int .u64 (ofTo xs : Nat)) ∧ w = w' := by
  obtain ⟨A, c, rfl, hc, hm, hat⟩ := hv.at
  have HAT := Sid.mk hat
  have HS := Sid.mk hs
  clear hat hv hs
  go_enter Tryd.func67, Tryd.ntmps67
  go_wp2
  go_loop [3, 8] (fun s i => ∃ k s' : Nat, k ≤ xs.length ∧ i = .int .i64 k ∧ s = .int .u64 (s' : Int) ∧ Sid (s' = ofTo (xs.take k)) ∧ s' < 4294967296) (fun _ i => xs.length - (intOf i).toNat)
  case atStart => exact ⟨0, 0, Nat.zero_le _, rfl, rfl, ⟨by simp [ofTo]⟩, by omega⟩
  case round =>
    obtain ⟨k, s, hk, rfl, rfl, HO, hs⟩ := hrel
    by_cases hlt : k < xs.length
    · obtain ⟨b, off, x, rfl, _, hcell, HX⟩ := HAT.out k hlt
      obtain ⟨hx0, hx1⟩ := HS.out x (List.mem_of_getElem? HX.out)
      obtain ⟨n, rfl⟩ := Int.eq_ofNat_of_zero_le hx0
      have hn : n < 32 := by omega
      go_wp2
      go_round
      case rel => exact ⟨k+1, s ||| 2 ^ n, by omega, by go_num, congrArg _ (by first | (rw [Int.toNat_natCast, wrap_pow hn, or_u64 hs (pow_lt_32 hn)]) | (rw [wrap_pow hn, or_u64 hs (pow_lt_32 hn)])), ⟨by rw [ofTo_succ HX.out, ← HO.out, Int.toNat_natCast]⟩, or_lt hs (pow_lt_32 hn)⟩
      case measure => simp [intOf]; omega
    · go_wp2
      go_ret
      have := HO.out
      rw [List.take_of_length_le (by omega)] at this
      subst this
      exact ⟨rfl, rfl⟩

/-- Sets that are read. -/
def natsI (S : List Nat) : List Int := S.map fun (s : Nat) => (s : Int)
theorem natsI_at {S : List Nat} {k : Nat} {x : Int} (h : (natsI S)[k]? = some x) : ∃ s : Nat, x = (s : Int) ∧ S[k]? = some s := by
  simp only [natsI, List.getElem?_map, Option.map_eq_some_iff] at h
  obtain ⟨s, h1, rfl⟩ := h
  exact ⟨s, rfl, h1⟩
theorem natsI_len (S : List Nat) : (natsI S).length = S.length := by simp [natsI]

theorem SetsR_at {P : Nat → Prop} {w : World} {A : Option Addr} {n c : Nat} {S : List Nat} (h : IntsR .u64 P w (.slice A n c) (natsI S)) : S.length ≤ 140737488355328 ∧
    ∀ j, j < S.length → ∃ b off s, A = some ⟨b, off, none⟩ ∧ P b ∧ w.cell? ⟨b, off + j, none⟩ = some (.int .u64 ((s : Nat) : Int)) ∧ Sid (S[j]? = some s) := by
  obtain ⟨A', c', hA, _, hm, hat⟩ := h.at
  simp only [Value.slice.injEq] at hA
  obtain ⟨rfl, _, rfl⟩ := hA
  rw [natsI_len] at hm hat
  refine ⟨hm, fun j hj => ?_⟩
  obtain ⟨b, off, x, h1, h2, h3, h4⟩ := hat j hj
  obtain ⟨s, rfl, hs⟩ := natsI_at h4.out
  exact ⟨b, off, s, h1, h2, h3, ⟨hs⟩⟩

theorem enters34 : Enters 34 := fun l w => by kernel_rfl
theorem nums_u64 (xs : List Int) (k : IntKind) : xs.map (Value.int k) = xs.map (Value.int k) := rfl

set_option maxHeartbeats 800000 in
theorem madeOf_any {P : Nat → Prop} (v : Value) (es : List (List Int)) (w : World) (hv : RowsR P w v es) (hs : ∀ r ∈ es, smallL r) (hl : es.length ≤ 100000) :
    Calls Tryd.prog 49 #[v, .func (.func 34) #[] #[]] w fun e w' => ∃ v', e = .returned v' ∧ IntsR .u64 (fun k => w.heap.size ≤ k) w' v' (natsI (es.map ofTo)) ∧ Ext No w w' := by
  obtain ⟨A, c, rfl, hc, hm, hat⟩ := hv.at
  have HAT := Sid.mk hat
  have HS := Sid.mk hs
  clear hat hv hs
  go_enter Tryd.func49, Tryd.ntmps49
  go_wp2
  go_loopw [5, 10] (fun v i wr => ∃ (k : Nat), k ≤ es.length ∧ i = .int .i64 k ∧ Sid (Own w.heap.size 65 1 wr v k ((natsI ((es.take k).map ofTo)).map (.int .u64))) ∧ Sid (Ext No w wr)) (fun _ i _ => es.length - (intOf i).toNat)
  case atStart => exact ⟨0, Nat.zero_le _, rfl, ⟨by simpa [natsI] using Own.nil _ _ _ _⟩, ⟨Ext.refl _ _⟩⟩
  case round =>
    obtain ⟨k, hk, rfl, HO, HX⟩ := hrel
    by_cases hlt : k < es.length
    · obtain ⟨b, off, A', c', r, rfl, _, hcell0, HB, HI⟩ := HAT.out k hlt
      have hcell := HX.out.no hcell0
      clear hcell0
      have HSM : Sid (smallL r) := ⟨HS.out r (List.mem_of_getElem? HB.out)⟩
      go_wp2_with (first | (go_at_call 34; refine (of_any _ r _ (HI.out.no HX.out) HSM.out).mono ?_; rintro e w1 ⟨rfl, rfl⟩) | (at_builtin; refine app1 w.heap.size rfl (.tmp 14) (.tmp 18) 79 65 (.int .u64 0) 8 rfl Tryd.underlying79 info65 rfl (by decide) _ _ _ _ rfl rfl (by simp) rfl HO.out HX.out.size (by omega) ?_; intro v1 w1 ho1 hx1 hb1 hs1; have HO1 := Sid.mk ho1; have HX1 := Sid.mk hx1; have HB1 := Sid.mk hb1; have HS1 := Sid.mk hs1; clear ho1 hx1 hb1 hs1))
      go_roundw
      case rel => exact ⟨k+1, by omega, by go_num, ⟨by rw [take_map_succ HB.out]; simpa [natsI] using HO1.out⟩, ⟨HO.out.step HX.out HX1.out⟩⟩
      case measure => simp [intOf]; omega
    · go_wp2
      go_ret
      have h1 := HO.out
      rw [List.take_of_length_le (by omega)] at h1
      exact ⟨_, rfl, ints_own h1 (by simp [natsI]; omega) (fun k hk => (h1.ge k hk).1), HX.out⟩

/-- A search: where its parts lie. -/
structure SearchR (P : Nat → Prop) (w : World) (B M : Nat) (many : Int) (es : List (List Int)) (S : List Nat) : Prop where
  pb : P B
  many : w.cell? ⟨B, 0, none⟩ = some (.int .i64 many)
  edges : ∃ ev, w.cell? ⟨B, 1, none⟩ = some ev ∧ RowsR P w ev es
  sets : ∃ A c, w.cell? ⟨B, 2, none⟩ = some (.slice A S.length c) ∧ IntsR .u64 P w (.slice A S.length c) (natsI S)
  known : w.cell? ⟨B, 3, none⟩ = some (.map (some M))
theorem SearchR.ext {P X : Nat → Prop} {w w' : World} {B M : Nat} {many : Int} {es : List (List Int)} {S : List Nat} (h : SearchR P w B M many es S) (hx : Ext X w w') (hP : ∀ k, P k → ¬ X k) : SearchR P w' B M many es S := by
  obtain ⟨h0, h1, ⟨ev, h2, h3⟩, ⟨A, c, h4, h5⟩, h6⟩ := h
  exact ⟨h0, hx.cell (hP _ h0) h1, ⟨ev, hx.cell (hP _ h0) h2, h3.ext hx hP⟩, ⟨A, c, hx.cell (hP _ h0) h4, h5.ext hx hP⟩, hx.cell (hP _ h0) h6⟩
theorem SearchR.no {P : Nat → Prop} {w w' : World} {B M : Nat} {many : Int} {es : List (List Int)} {S : List Nat} (h : SearchR P w B M many es S) (hx : Ext No w w') : SearchR P w' B M many es S := h.ext hx (fun _ _ h => h)
theorem SearchR.imp {P P' : Nat → Prop} {w : World} {B M : Nat} {many : Int} {es : List (List Int)} {S : List Nat} (h : SearchR P w B M many es S) (hP : ∀ k, k < w.heap.size → P k → P' k) : SearchR P' w B M many es S := by
  obtain ⟨h0, h1, ⟨ev, h2, h3⟩, ⟨A, c, h4, h5⟩, h6⟩ := h
  exact ⟨hP _ (World.block_lt_of_cell? w _ h1) h0, h1, ⟨ev, h2, h3.imp hP⟩, ⟨A, c, h4, h5.imp hP⟩, h6⟩

/-- All of some sets together. -/
def orTo (S : List Nat) : Nat := S.foldl (· ||| ·) 0
theorem orTo_succ {l : List Nat} {k : Nat} {x : Nat} (hx : l[k]? = some x) : orTo (l.take (k+1)) = orTo (l.take k) ||| x := by
  obtain ⟨hk, rfl⟩ := List.getElem?_eq_some_iff.1 hx
  unfold orTo
  rw [List.take_succ_eq_append_getElem hk, List.foldl_append]; rfl
def smallS (S : List Nat) : Prop := ∀ s ∈ S, s < 4294967296

set_option maxHeartbeats 400000 in
theorem covered_any {P : Nat → Prop} (B M : Nat) (many : Int) (es : List (List Int)) (S : List Nat) (w : World) (h : SearchR P w B M many es S) (hs : smallS S) :
    Calls Tryd.prog 35 #[.pointer (some ⟨B, 0, none⟩)] w fun e w' => e = .returned (.int .u64 (orTo S : Nat)) ∧ w = w' := by
  obtain ⟨A, c, hcell2, hr⟩ := h.sets
  obtain ⟨A', c', hA, _, hm, hat⟩ := hr.at
  simp only [Value.slice.injEq] at hA
  obtain ⟨rfl, _, rfl⟩ := hA
  have HAT := Sid.mk hat
  have HS := Sid.mk hs
  rw [natsI_len] at hm
  clear hat hr h hs
  go_enter Tryd.func35, Tryd.ntmps35
  go_wp2
  go_loop [3, 11] (fun s i => ∃ k s' : Nat, k ≤ S.length ∧ i = .int .i64 k ∧ s = .int .u64 (s' : Int) ∧ Sid (s' = orTo (S.take k)) ∧ s' < 4294967296) (fun _ i => S.length - (intOf i).toNat)
  case atStart => exact ⟨0, 0, Nat.zero_le _, rfl, rfl, ⟨by simp [orTo]⟩, by omega⟩
  case round =>
    obtain ⟨k, s, hk, rfl, rfl, HO, hs⟩ := hrel
    by_cases hlt : k < S.length
    · obtain ⟨b, off, x, rfl, _, hcell, HX⟩ := HAT.out k (by rw [natsI_len]; omega)
      obtain ⟨n, rfl, hn⟩ := natsI_at HX.out
      have HN := Sid.mk hn
      have hn' : n < 4294967296 := HS.out n (List.mem_of_getElem? hn)
      clear hn
      go_wp2
      go_round
      case rel => exact ⟨k+1, s ||| n, by omega, by go_num, congrArg _ (or_u64 hs hn'), ⟨by rw [orTo_succ HN.out, ← HO.out]⟩, or_lt hs hn'⟩
      case measure => simp [intOf]; omega
    · go_wp2
      go_ret
      have := HO.out
      rw [List.take_of_length_le (by omega)] at this
      subst this
      exact ⟨rfl, rfl⟩
end Go.Proofs.YtceiaekkfabeaaaDoor

namespace Go.Proofs.YtceiaekkfabeaaaDoor
open Go.RowKit Pl

theorem ones_int (k : IntKind) (xs : List Int) : ∀ u ∈ xs.map (Value.int k), u.oneCell' = true := by
  intro u hu
  obtain ⟨x, _, rfl⟩ := List.mem_map.1 hu
  rfl

set_option maxHeartbeats 400000 in
theorem Clone_any {P : Nat → Prop} (v : Value) (xs : List Int) (w : World) (hv : IntsR .i64 P w v xs) (hb : xs.length ≤ 1000000) :
    Calls Tryd.prog 10 #[v] w fun e w' => ∃ v', e = .returned v' ∧ IntsR .i64 (fun k => w.heap.size ≤ k) w' v' xs ∧ Ext No w w' := by
  obtain ⟨A, c, rfl, hc, hm, hat⟩ := hv.at
  have HV := Sid.mk hv
  clear hat hv
  have heq := fun (w : World) (A : Option Addr) (n c : Nat) => Lib.run_eql_slice_nil (P := Tryd.prog) w 28 3 A n c 0 0 Tryd.underlying28
  cases A with
  | none =>
    go_enter Tryd.func10, Tryd.ntmps10
    go_wp2
    go_ret
    have h0 : xs = [] := (RowR.none HV.out).2.2
    subst h0
    exact ⟨_, rfl, ⟨none, 0, rfl, by simp [(RowR.none HV.out).2.1], by simp, by simp⟩, Ext.refl _ _⟩
  | some ad =>
    have hl : w.heap.size ≤ (w.alloc (.cells #[] 3)).heap.size := by simp
    go_enter Tryd.func10, Tryd.ntmps10
    go_wp2_with (at_builtin; refine appN w.heap.size rfl (.tmp 5) (.tmp 6) 28 3 (.int .i64 0) 8 rfl Tryd.underlying28 info3 rfl (by decide) _ 0 [] ad xs.length c (xs.map (.int .i64)) rfl rfl (by simp) ((HV.out.no (ext_box _)).news) (ones_int _ _) (Own.lit w _ _ _ (Nat.le_refl _)) hl (by omega) ?_; intro v1 w1 ho1 hx1 hb1 hs1; have HO1 := Sid.mk ho1; have HX1 := Sid.mk hx1; have HB1 := Sid.mk hb1; have HS1 := Sid.mk hs1; clear ho1 hx1 hb1 hs1)
    go_ret
    have h1 := HO1.out
    rw [Nat.zero_add, List.nil_append] at h1
    exact ⟨_, rfl, h1.ints (by omega) (fun k hk => (h1.ge k hk).1), (Own.lit w _ _ 1 (Nat.le_refl _)).step (ext_box _) HX1.out⟩

set_option maxHeartbeats 1000000 in
theorem around_any {P : Nat → Prop} (ev : Value) (es : List (List Int)) (x many : Int) (w : World) (he : RowsR P w ev es) (hm1 : many ≤ 1000) :
    Calls Tryd.prog 41 #[ev, .int .i64 x, .int .i64 many] w fun e w' => ∃ v', e = .returned v' ∧ IntsR .i64 (fun k => w.heap.size ≤ k) w' v' (aroundL es x many) ∧ Ext No w w' := by
  obtain ⟨Ae, ce, rfl, hce, hme, hate⟩ := he.at
  have HE := Sid.mk hate
  clear hate he
  go_enter Tryd.func41, Tryd.ntmps41
  go_wp2
  go_loopw [7, 13] (fun v i wr => ∃ (k : Nat), (k : Int) ≤ max 0 many ∧ i = .int .i64 k ∧ Sid (Own w.heap.size 3 1 wr v (((vertsL many).take k).filter (nearB es x)).length ((((vertsL many).take k).filter (nearB es x)).map (.int .i64))) ∧ Sid (Ext No w wr)) (fun _ i _ => many.toNat - (intOf i).toNat)
  case atStart => exact ⟨0, by omega, rfl, ⟨by simpa using Own.nil _ _ _ _⟩, ⟨Ext.refl _ _⟩⟩
  case round =>
    obtain ⟨k, hk, rfl, HO, HX⟩ := hrel
    by_cases hlt : (k : Int) < many
    · have HV := Sid.mk (vertsL_at hlt)
      have hl : (((vertsL many).take k).filter (nearB es x)).length ≤ 1000 := by
        have h1 := List.length_filter_le (nearB es x) ((vertsL many).take k)
        have h2 : ((vertsL many).take k).length ≤ 1000 := by simp [vertsL_len]; omega
        omega
      have HL := Sid.mk hl
      clear hl
      go_wp2
      go_loop [9, 21] (fun b i => ∃ j : Nat, j ≤ es.length ∧ i = .int .i64 j ∧ b = .bool (((k : Int) == x) || anyB (fun e => hasB e x && hasB e k) (es.take j))) (fun _ i => es.length - (intOf i).toNat)
      case atStart => exact ⟨0, Nat.zero_le _, rfl, by simp [anyB]⟩
      case round =>
        obtain ⟨j, hj, rfl, rfl⟩ := hrel
        by_cases hjt : j < es.length
        · obtain ⟨be, offe, A', c', r, rfl, _, hcelle, HR', HI'⟩ := HE.out j hjt
          replace hcelle := HX.out.no hcelle
          cases hb : (((k : Int) == x) || anyB (fun e => hasB e x && hasB e k) (es.take j)) with
          | true =>
            have HB := Sid.mk hb
            clear hb
            go_wp2
            go_round
            case rel => exact ⟨j+1, by omega, by go_num, by rw [anyB_succ HR'.out, ← Bool.or_assoc, HB.out]; rfl⟩
            case measure => simp [intOf]; omega
          | false =>
            have HB := Sid.mk hb
            clear hb
            cases h1 : hasB r x with
            | false =>
              have H1 := Sid.mk h1
              clear h1
              go_wp2_with (go_at_call 40; refine (has_any _ r _ _ (HI'.out.no HX.out)).mono ?_; rintro e w' ⟨rfl, rfl⟩; rw [H1.out])
              go_round
              case rel => exact ⟨j+1, by omega, by go_num, by rw [anyB_succ HR'.out, ← Bool.or_assoc, HB.out, H1.out]; rfl⟩
              case measure => simp [intOf]; omega
            | true =>
              have H1 := Sid.mk h1
              clear h1
              go_wp2_with (go_at_call 40; first | (with_reducible refine (has_any _ r x _ (HI'.out.no HX.out)).mono ?_; rintro e w' ⟨rfl, rfl⟩; rw [H1.out]) | (refine (has_any _ r k _ (HI'.out.no HX.out)).mono ?_; rintro e w' ⟨rfl, rfl⟩))
              go_round
              case rel => exact ⟨j+1, by omega, by go_num, by rw [anyB_succ HR'.out, ← Bool.or_assoc, HB.out, H1.out]; rfl⟩
              case measure => simp [intOf]; omega
        · cases hb : (((k : Int) == x) || anyB (fun e => hasB e x && hasB e k) (es.take j)) with
          | false =>
            have HB := Sid.mk hb
            clear hb
            go_wp2
            go_roundw
            case rel => exact ⟨k+1, by omega, by go_num, ⟨by
              have h1 := HB.out
              rw [List.take_of_length_le (by omega)] at h1
              rw [filter_no HV.out h1]; exact HO.out⟩, HX⟩
            case measure => simp [intOf]; omega
          | true =>
            have HB := Sid.mk hb
            clear hb
            go_wp2_with (at_builtin; refine app1 w.heap.size rfl (.tmp 38) (.tmp 40) 28 3 (.int .i64 0) 8 rfl Tryd.underlying28 info3 rfl (by decide) _ _ _ _ rfl rfl (by simp) rfl HO.out HX.out.size (by have := HL.out; omega) ?_; intro v1 w1 ho1 hx1 hb1 hs1; have HO1 := Sid.mk ho1; have HX1 := Sid.mk hx1; have HB1 := Sid.mk hb1; have HS1 := Sid.mk hs1; clear ho1 hx1 hb1 hs1)
            go_roundw
            case rel => exact ⟨k+1, by omega, by go_num, ⟨by
              have h1 := HB.out
              rw [List.take_of_length_le (by omega)] at h1
              rw [filter_yes HV.out h1]; simpa using HO1.out⟩, ⟨HO.out.step HX.out HX1.out⟩⟩
            case measure => simp [intOf]; omega
    · go_wp2
      go_ret
      have h1 := HO.out
      rw [List.take_of_length_le (by rw [vertsL_len]; omega)] at h1
      exact ⟨_, rfl, h1.ints (by have := List.length_filter_le (nearB es x) (vertsL many); rw [vertsL_len] at this; omega) (fun k hk => (h1.ge k hk).1), HX.out⟩

set_option maxHeartbeats 1000000 in
set_option maxRecDepth 100000 in
theorem Rows_any (hi : Int) (hhi : hi ≤ 20) : ∀ (m : Nat) (lo q : Int) (w : World), 0 ≤ lo → lo ≤ 1000 → q = (m : Int) → m ≤ 1000 →
    Calls Tryd.prog 37 #[.int .i64 lo, .int .i64 hi, .int .i64 q] w fun e w' => ∃ v', e = .returned v' ∧ RowsR (fun k => w.heap.size ≤ k) w' v' (rowsL hi m lo) ∧ Ext No w w' := by
  intro m
  induction m with
  | zero =>
    intro lo q w h0 h1 hq hm
    have hq0 : (q == 0) = true := by simp [hq]
    clear hq
    go_enter Tryd.func37, Tryd.ntmps37
    go_wp2
    go_ret
    have e1 := (Own.lit w w.heap.size 3 1 (Nat.le_refl _)).ints (k := .i64) (xs := []) (P := fun k => w.heap.size ≤ k) (by simp) (by intro k hk; simp [Value.ownBlock] at hk; omega)
    have e2 := e1.no (ext_box (.cells #[.slice (some ⟨w.heap.size, 0, none⟩) 0 0] 28))
    have e3 := Own.lit1 (w.alloc (.cells #[] 3)) w.heap.size 28 (.slice (some ⟨w.heap.size, 0, none⟩) 0 0) (by simp)
    rw [World.size_alloc] at e3
    refine ⟨_, rfl, Own.rows (xss := [[]]) e3 (by simp) (by intro k hk; simp [Value.ownBlock] at hk; omega) (fun j u xs hu hxs => ?_), (ext_box _).alloc _⟩
    rcases j with _ | j
    · simp at hu hxs; subst hu; subst hxs; exact e2
    · simp at hu
  | succ m ih =>
    intro lo q w h0 h1 hq hm
    have hq0 : (q == 0) = false := by simp; omega
    have hq1 : 1 ≤ q := by omega
    have hq2 : q ≤ 1000 := by omega
    have HQ := Sid.mk hq
    clear hq
    go_enter Tryd.func37, Tryd.ntmps37
    go_wp2
    go_loopw [7, 8] (fun v n wr => ∃ (k : Nat) (x : Int), n = .int .i64 x ∧ lo ≤ x ∧ x ≤ max lo hi ∧ Sid (x = lo + k) ∧ Sid (OwnRows (fun k => w.heap.size ≤ k) w.heap.size wr v (((rangeL lo hi).take k).flatMap fun n => (rowsL hi m (n + 1)).map (n :: ·))) ∧ Sid (Ext No w wr)) (fun _ n _ => (hi - intOf n).toNat)
    case atStart => exact ⟨0, lo, rfl, by omega, by omega, ⟨by simp⟩, ⟨by simpa using OwnRows.nil _ _ _⟩, ⟨Ext.refl _ _⟩⟩
    case round =>
      obtain ⟨k, x, rfl, hx1, hx2, HXK, HO, HX⟩ := hrel
      by_cases hlt : x < hi
      · have HR := Sid.mk (rangeL_at (lo := lo) (hi := hi) (k := k) (by have := HXK.out; omega))
        go_wp2_with (go_at_call 37; refine (ih (x + 1) (q - 1) _ (by omega) (by omega) (by have := HQ.out; omega) (by omega)).mono ?_; rintro e w1 ⟨v1, rfl, hr1, hx1⟩; obtain ⟨A1, c1, rfl, hc1, hm1, hat1⟩ := hr1.at; have HR1 := Sid.mk hr1; have HX1 := Sid.mk hx1; have HAT := Sid.mk hat1; clear hr1 hx1 hat1)
        obtain ⟨wo, rfl⟩ : ∃ wo : World, wo = wr := ⟨_, rfl⟩
        obtain ⟨Z, hZ⟩ : ∃ Z, ((rangeL lo hi).take k).flatMap (fun n => (rowsL hi m (n + 1)).map (n :: ·)) = Z := ⟨_, rfl⟩
        have HZL : Sid (Z.length ≤ 10000000 ∧ (rowsL hi m (x + 1)).length ≤ 10000000) := ⟨by
          have h1 := rowsL_len hi m (x + 1)
          have h2 := rowsL_len hi (m + 1) lo
          have h3 : (2 : Nat) ^ (hi - (x + 1)).toNat ≤ 2 ^ 20 := Nat.pow_le_pow_right (by omega) (by omega)
          have h4 : (2 : Nat) ^ (hi - lo).toNat ≤ 2 ^ 20 := Nat.pow_le_pow_right (by omega) (by omega)
          have h5 := flatMap_take_len (fun n => (rowsL hi m (n + 1)).map (n :: ·)) (rangeL lo hi) k
          rw [hZ] at h5
          simp only [rowsL] at h2
          omega⟩
        have HW : Sid (Ext No w w1) := ⟨HX.out.trans HX1.out⟩
        have HOZ : Sid (OwnRows (fun k => w.heap.size ≤ k) w.heap.size w1 u7 Z) := ⟨by rw [← hZ]; exact HO.out.no HX1.out⟩
        have HB0 : Sid (∀ k, u7.ownBlock = some k → k < wo.heap.size) := ⟨fun k hk => (HO.out.ge k hk).2⟩
        have HZ := Sid.mk hZ
        clear hZ
        go_loopw [7, 28] (fun v i ws => ∃ (j : Nat), j ≤ (rowsL hi m (x + 1)).length ∧ i = .int .i64 j ∧ Sid (OwnRows (fun k => w.heap.size ≤ k) w.heap.size ws v (Z ++ ((rowsL hi m (x + 1)).take j).map (x :: ·))) ∧ Sid (Ext No w ws) ∧ Sid (Ext (fun k => k < wo.heap.size) w1 ws) ∧ Sid (∀ k, v.ownBlock = some k → k < wo.heap.size ∨ w1.heap.size ≤ k)) (fun _ i _ => (rowsL hi m (x + 1)).length - (intOf i).toNat)
        case atStart => exact ⟨0, by omega, rfl, ⟨by simpa using HOZ.out⟩, HW, ⟨Ext.refl _ _⟩, ⟨fun k hk => .inl (HB0.out k hk)⟩⟩
        case round =>
          clear HO HX HOZ HW
          obtain ⟨j, hj, rfl, HO, HX, HY, HB⟩ := hrel
          by_cases hjt : j < (rowsL hi m (x + 1)).length
          · obtain ⟨b, off, A', c', r, rfl, hPb, hcell0, HR', HI'⟩ := HAT.out j hjt
            have hcell := HY.out.cell (by simp; omega) hcell0
            clear hcell0
            have HI : Sid (IntsR .i64 (fun k => wo.heap.size ≤ k) wr (.slice A' r.length c') r) := ⟨HI'.out.ext HY.out (fun k hk hlt => by omega)⟩
            have hrl : r.length ≤ 1000 := by
              have := rowsL_row_len hi m (x + 1) r (List.mem_of_getElem? HR'.out); omega
            have HRL := Sid.mk hrl
            clear hrl
            have HSZ : Sid (w.heap.size ≤ wr.heap.size) := ⟨HX.out.size⟩
            cases A' with
            | none =>
              obtain ⟨_, rfl, rfl⟩ := RowR.none HI.out
              obtain ⟨i0, hi0⟩ := i3
              have HI0 := Sid.mk hi0
              clear hi0
              have HX2 : Sid (Ext No wr (wr.alloc (.cells #[.int .i64 x] 3))) := ⟨ext_box _⟩
              have HO2 := Sid.mk (Own.lit1 wr wr.heap.size 3 (.int .i64 x) (Nat.le_refl _))
              simp only [List.length_nil] at hcell
              go_wp2_with (first | (at_builtin; refine wpList_append_own_none rfl (.tmp 34) (.tmp 35) 28 rfl wr.heap.size 3 i0 1 Tryd.underlying28 HI0.out _ 1 [.int .i64 x] rfl (Own.lit1 wr _ _ _ (Nat.le_refl _)) rfl ?_) | (at_builtin; refine appRow w.heap.size rfl (.tmp 32) (.tmp 37) 22 rfl Tryd.underlying22 info28 _ _ _ [x] rfl rfl (by simp) (HO.out.no HX2.out) ?c1 ?c2 ?c3 ?_; (case c1 => exact ints_own (xs := [x]) HO2.out (by simp) (fun k hk => by have h1 := (HO2.out.ge k hk).1; have h2 := HSZ.out; exact ⟨by omega, fun he => by have := (HO.out.ge k he.symm).2; omega⟩)); (case c2 => exact Nat.le_trans HSZ.out HX2.out.size); (case c3 => have := HZL.out; simp; omega); intro v3 w3 ho3 hx3 hb3 hs3; have HO3 := Sid.mk ho3; have HX3 := Sid.mk hx3; have HB3 := Sid.mk hb3; have HS3 := Sid.mk hs3; clear ho3 hx3 hb3 hs3))
              go_roundw
              case rel => exact ⟨j+1, by omega, by go_num, ⟨by
                  rw [take_map_succ HR'.out, ← List.append_assoc]; exact HO3.out⟩, ⟨(HO.out.no HX2.out).step (HX.out.trans HX2.out) HX3.out⟩, ⟨(HY.out.step HX2.out (fun _ _ h => h.elim)).step HX3.out (fun i hi he => by
                    rcases HB.out i he.symm with h | h
                    · exact h
                    · omega)⟩, ⟨fun k hk => by
                    rcases HB3.out with h | ⟨b, h, hb⟩
                    · exact HB.out k (h.symm.trans hk)
                    · have hk' := h.symm.trans hk; cases hk'; right; have h1 := HX2.out.size; have h2 := HY.out.size; omega⟩⟩
              case measure => simp [intOf]; omega
            | some ad =>
              go_wp2_with (first | (at_builtin; refine appN wr.heap.size rfl (.tmp 34) (.tmp 35) 28 3 (.int .i64 0) 8 rfl Tryd.underlying28 info3 rfl (by decide) _ 1 [.int .i64 x] ad r.length c' (r.map (.int .i64)) rfl rfl (by simp) ((HI.out.no (ext_box _)).news) (ones_int _ _) (Own.lit1 wr _ _ _ (Nat.le_refl _)) (by simp) (by have := HRL.out; omega) ?_; intro v2 w2 ho2 hx2 hb2 hs2; obtain ⟨A2, c2, rfl⟩ := hs2; have HO2 := Sid.mk ho2; have HX2 := Sid.mk ((Own.lit1 wr wr.heap.size 3 (.int .i64 x) (Nat.le_refl _)).step (ext_box _) hx2); clear ho2 hx2 hb2) | (at_builtin; refine appRow w.heap.size rfl (.tmp 32) (.tmp 37) 22 rfl Tryd.underlying22 info28 _ _ _ (x :: r) rfl rfl (by simp) (HO.out.no HX2.out) ?c1 ?c2 ?c3 ?_; (case c1 => exact ints_own HO2.out (by have := HRL.out; simp; omega) (fun k hk => by have h1 := (HO2.out.ge k hk).1; have h2 := HSZ.out; exact ⟨by omega, fun he => by have := (HO.out.ge k he.symm).2; omega⟩)); (case c2 => exact Nat.le_trans HSZ.out HX2.out.size); (case c3 => have := HZL.out; simp; omega); intro v3 w3 ho3 hx3 hb3 hs3; have HO3 := Sid.mk ho3; have HX3 := Sid.mk hx3; have HB3 := Sid.mk hb3; have HS3 := Sid.mk hs3; clear ho3 hx3 hb3 hs3))
              go_roundw
              case rel => exact ⟨j+1, by omega, by go_num, ⟨by
                  rw [take_map_succ HR'.out, ← List.append_assoc]; exact HO3.out⟩, ⟨(HO.out.no HX2.out).step (HX.out.trans HX2.out) HX3.out⟩, ⟨(HY.out.step HX2.out (fun _ _ h => h.elim)).step HX3.out (fun i hi he => by
                    rcases HB.out i he.symm with h | h
                    · exact h
                    · omega)⟩, ⟨fun k hk => by
                    rcases HB3.out with h | ⟨b, h, hb⟩
                    · exact HB.out k (h.symm.trans hk)
                    · have hk' := h.symm.trans hk; cases hk'; right; have h1 := HX2.out.size; have h2 := HY.out.size; omega⟩⟩
              case measure => simp [intOf]; omega
          · go_wp2
            go_roundw
            case rel => exact ⟨k+1, x+1, rfl, by omega, by omega, ⟨by have := HXK.out; omega⟩, ⟨by
              have h1 := HO.out
              rw [List.take_of_length_le (by omega)] at h1
              rw [take_flatMap_succ HR.out, HZ.out, ← HXK.out]; exact h1⟩, HX⟩
            case measure => simp [intOf]; omega
      · go_wp2
        go_ret
        have h1 := HO.out
        have h2 := HXK.out
        rw [List.take_of_length_le (by rw [rangeL_len]; omega)] at h1
        have h3 := rowsL_len hi (m + 1) lo
        have h4 : (2 : Nat) ^ (hi - lo).toNat ≤ 2 ^ 20 := Nat.pow_le_pow_right (by omega) (by omega)
        simp only [rowsL] at h3
        exact ⟨_, rfl, h1.rows (by omega) (fun k hk => (h1.ge k hk).1) (fun k hk => hk), HX.out⟩
end Go.Proofs.YtceiaekkfabeaaaDoor

namespace Go.Proofs.YtceiaekkfabeaaaDoor
open Go.RowKit Pl

/-- The first row of at most so many places of sets, from one on, that have all of a set together. -/
def triesF (S : List Nat) : Nat → Nat → Nat → Option (List Int)
  | 0, want, _ => if want = 0 then some [] else none
  | m + 1, want, lo => if want = 0 then some [] else
    (List.range' lo (S.length - lo)).findSome? fun e => (triesF S m (sdn want ((S[e]?).getD 0)) (e + 1)).map ((e : Int) :: ·)

def foundP (v : Value) : List PanicEntry := [{ v := .iface 103 (.agg #[v]), recovered := false }]

set_option maxHeartbeats 400000 in
theorem tries_zero (pv : Value) (lo q : Int) (bv : Value) (pre : List Int) (w : World) (hb : IntsR .i64 (fun _ => True) w bv pre) (hpl : pre.length ≤ 2000) :
    Calls Tryd.prog 70 #[pv, .int .u64 0, bv, .int .i64 lo, .int .i64 q] w fun e w' => ∃ v', e = .panicked (foundP v') ∧ IntsR .i64 (fun k => w.heap.size ≤ k) w' v' pre ∧ Ext No w w' := by
  have HB := Sid.mk hb
  obtain ⟨A, c, rfl, _⟩ := hb.at
  clear hb
  go_enter Tryd.func70, Tryd.ntmps70
  go_wp2_with (go_at_call 10; refine (Clone_any _ pre _ HB.out (by omega)).mono ?_; rintro e w1 ⟨v1, rfl, hr1, hx1⟩; obtain ⟨A1, c1, rfl, _⟩ := hr1.at; have HR1 := Sid.mk hr1; have HX1 := Sid.mk hx1; clear hr1 hx1)
  exact ⟨rfl, _, rfl, HR1.out, HX1.out⟩

set_option maxHeartbeats 400000 in
theorem tries_end (pv : Value) (lo want : Int) (bv : Value) (w : World) (hw : want ≠ 0) :
    Calls Tryd.prog 70 #[pv, .int .u64 want, bv, .int .i64 lo, .int .i64 0] w fun e w' => e = .returned (.tuple #[]) ∧ Ext No w w' := by
  have hw0 : (want == 0) = false := by simp [hw]
  go_enter Tryd.func70, Tryd.ntmps70
  go_wp2
  exact bodyPost_ret (results_none rfl _ _ _) rfl ⟨rfl, Ext.refl _ _⟩

theorem range'_at {lo n k : Nat} (h : lo + k < n) : (List.range' lo (n - lo))[k]? = some (lo + k) := by
  rw [List.getElem?_range' (by omega)]; simp
theorem findSome_take_succ {α β : Type} {l : List α} {f : α → Option β} {k : Nat} {x : α} (hx : l[k]? = some x) (h : (l.take k).findSome? f = none) (hf : f x = none) : (l.take (k+1)).findSome? f = none := by
  obtain ⟨hk, rfl⟩ := List.getElem?_eq_some_iff.1 hx
  rw [List.take_succ_eq_append_getElem hk, List.findSome?_append, h]; simp [hf]
theorem findSome_at {α β : Type} {l : List α} {f : α → Option β} {k : Nat} {x : α} {y : β} (hx : l[k]? = some x) (h : (l.take k).findSome? f = none) (hf : f x = some y) : l.findSome? f = some y := by
  obtain ⟨hk, rfl⟩ := List.getElem?_eq_some_iff.1 hx
  have : l = l.take k ++ l[k] :: l.drop (k + 1) := by rw [List.getElem_cons_drop, List.take_append_drop]
  rw [this, List.findSome?_append, h, Option.none_or, List.findSome?_cons_of_isSome (by simp [hf]), hf]

/-- What a try of rows ends in: a cover leaves it. -/
def TriesPost (r : Option (List Int)) (pre : List Int) (w : World) (e : Ending) (w' : World) : Prop := Ext No w w' ∧
  match r with
  | some r => ∃ v', e = .panicked (foundP v') ∧ IntsR .i64 (fun k => w.heap.size ≤ k) w' v' (pre ++ r)
  | none => e = .returned (.tuple #[])

theorem tries_ints {w : World} {base : Nat} {v : Value} {pre : List Int} {e : Nat} (h : w.ownsRow base 3 1 v (pre.length + 1) (pre.map (.int .i64) ++ [.int .i64 (e : Int)])) (hl : pre.length ≤ 100000) : IntsR .i64 (fun _ => True) w v (pre ++ [(e : Int)]) := by
  have h' : Own base 3 1 w v (pre ++ [(e : Int)]).length ((pre ++ [(e : Int)]).map (.int .i64)) := by
    rw [List.map_append, List.length_append]; exact h
  exact ints_own (xs := pre ++ [(e : Int)]) h' (by simp; omega) (fun _ _ => trivial)

theorem tries_hit {S : List Nat} {m want lo k e s : Nat} {pre r : List Int} {v' : Value} {w w1 w2 : World}
    (hF : triesF S (m + 1) want lo = (List.range' lo (S.length - lo)).findSome? fun e => (triesF S m (sdn want ((S[e]?).getD 0)) (e + 1)).map ((e : Int) :: ·))
    (hN : ((List.range' lo (S.length - lo)).take k).findSome? (fun e => (triesF S m (sdn want ((S[e]?).getD 0)) (e + 1)).map ((e : Int) :: ·)) = none)
    (hek : e = lo + k) (hlt : e < S.length) (hS : S[e]? = some s) (hr : triesF S m (sdn want s) (e + 1) = some r)
    (hv : IntsR .i64 (fun k => w1.heap.size ≤ k) w2 v' ((pre ++ [(e : Int)]) ++ r)) (hx1 : Ext No w w1) (hx2 : Ext No w1 w2) :
    TriesPost (triesF S (m + 1) want lo) pre w (.panicked (foundP v')) w2 := by
  refine ⟨hx1.trans hx2, ?_⟩
  rw [hF, findSome_at (k := k) (x := e) (y := (e : Int) :: r) (by rw [range'_at (by omega), hek]) hN (by simp [hS, hr])]
  exact ⟨v', rfl, by
    have := hv.imp (P' := fun k => w.heap.size ≤ k) (fun k _ hk => Nat.le_trans hx1.size hk)
    simpa using this⟩

set_option maxHeartbeats 4000000 in
set_option maxRecDepth 100000 in
theorem tries_any {P : Nat → Prop} (B M : Nat) (hm : Int) (es : List (List Int)) (S : List Nat) (hS : smallS S) (hSl : S.length ≤ 1000) : ∀ (m want lo : Nat) (wi li q : Int) (bv : Value) (pre : List Int) (w : World),
    SearchR P w B M hm es S → IntsR .i64 (fun _ => True) w bv pre → want < 4294967296 → lo ≤ 1001 → wi = (want : Int) → li = (lo : Int) → q = (m : Int) → m ≤ 1000 → pre.length + m ≤ 2000 →
    Calls Tryd.prog 70 #[.pointer (some ⟨B, 0, none⟩), .int .u64 wi, bv, .int .i64 li, .int .i64 q] w (TriesPost (triesF S m want lo) pre w) := by
  intro m
  induction m with
  | zero =>
    intro want lo wi li q bv pre w h hb hw hl hwi hli hq hm1 hpl
    subst hq; subst hwi; subst hli
    by_cases hw0 : want = 0
    · subst hw0
      refine (tries_zero _ lo 0 bv pre w hb (by omega)).mono ?_
      rintro e w' ⟨v', rfl, h1, h2⟩
      exact ⟨h2, v', rfl, by simpa using h1⟩
    · refine (tries_end _ lo want bv w (by omega)).mono ?_
      rintro e w' ⟨rfl, h2⟩
      refine ⟨h2, ?_⟩
      simp [triesF, hw0]
  | succ m ih =>
    intro want lo wi li q bv pre w h hb hw hl hwi hli hq hm1 hpl
    subst hwi; subst hli
    by_cases hw0 : want = 0
    · subst hw0
      refine (tries_zero _ lo q bv pre w hb (by omega)).mono ?_
      rintro e w' ⟨v', rfl, h1, h2⟩
      exact ⟨h2, v', rfl, by simpa using h1⟩
    · have hwb : ((want : Int) == 0) = false := by simp; omega
      have hqb : (q == 0) = false := by simp; omega
      have hq1 : 1 ≤ q ∧ q ≤ 1000 := by omega
      obtain ⟨hq1, hq2⟩ := hq1
      obtain ⟨As, cs, hs2, hsr⟩ := h.sets
      obtain ⟨hsm, hsat⟩ := SetsR_at hsr
      obtain ⟨Ab, cb, rfl, hcb, hmb, hatb⟩ := hb.at
      have HQ := Sid.mk hq
      have HS := Sid.mk hsat
      have HB := Sid.mk hb
      have HH := Sid.mk h
      have hbl : pre.length ≤ 2000 := by omega
      clear hq hsat hb hsr h hatb
      have HF : Sid (triesF S (m + 1) want lo = (List.range' lo (S.length - lo)).findSome? fun e => (triesF S m (sdn want ((S[e]?).getD 0)) (e + 1)).map ((e : Int) :: ·)) := ⟨by simp [triesF, hw0]⟩
      clear hw0
      go_enter Tryd.func70, Tryd.ntmps70
      go_wp2
      go_loopw [10] (fun n wr => ∃ (k : Nat) (e : Nat), n = .int .i64 (e : Int) ∧ lo ≤ e ∧ e ≤ 1001 ∧ Sid (e = lo + k) ∧ Sid (((List.range' lo (S.length - lo)).take k).findSome? (fun e => (triesF S m (sdn want ((S[e]?).getD 0)) (e + 1)).map ((e : Int) :: ·)) = none) ∧ Sid (Ext No w wr) ∧ wr.cell? ⟨B, 2, none⟩ = some (.slice As S.length cs)) (fun n _ => S.length - (intOf n).toNat)
      case atStart => exact ⟨0, lo, rfl, by omega, by omega, ⟨by omega⟩, ⟨by simp⟩, ⟨Ext.refl _ _⟩, hs2⟩
      case round =>
        obtain ⟨k, e, rfl, he1, he2, HEK, HN, HX, hs2'⟩ := hrel
        by_cases hlt : e < S.length
        · obtain ⟨b, off, s, rfl, _, hcell0, HSe⟩ := HS.out e hlt
          have hcell := HX.out.no hcell0
          clear hcell0
          have e1 : (e : Int) < (S.length : Int) := by omega
          have e0 : (0 : Int) ≤ (e : Int) := by omega
          obtain ⟨i0, hi0, hz0, hz1, hz2⟩ := info_parts info3
          have HI : Sid (IntsR .i64 (fun _ => True) wr (.slice Ab pre.length cb) pre) := ⟨HB.out.no HX.out⟩
          have hcap : Ab = none → pre.length = 0 ∧ pre.length = 0 := fun ha => by subst ha; have := (RowR.none HI.out).1; omega
          have HCAP := Sid.mk hcap
          clear hcap
          have HNW : Sid (∀ b, Ab = some b → ∀ j u, (pre.map (Value.int .i64))[j]? = some u → wr.cell? (b.add j) = some u) := ⟨fun b hb j u hu => by
            subst hb; exact HI.out.news j u hu⟩
          have hsl : s < 4294967296 := hS s (List.mem_of_getElem? HSe.out)
          have HB1 : Sid (bits .andNot .u64 (want : Int) (s : Int) = ((sdn want s : Nat) : Int)) := ⟨andNot_u64 hw hsl⟩
          have HB2 : Sid (IntKind.i64.wrap ((e : Int) + 1) = ((e + 1 : Nat) : Int)) := ⟨by rw [IntWalk.i64_in _ (by omega)]; omega⟩
          have HB3 : Sid (IntKind.i64.wrap (q - 1) = (m : Int)) := ⟨by rw [IntWalk.i64_in _ (by omega)]; have := HQ.out; omega⟩
          have hcella := fun o => (ext_box (w := wr) o).no hcell
          have hs2a := fun o => (ext_box (w := wr) o).no hs2'
          go_wp2_with fail
          go_region_law (first | (refine step_append_grows (by rfl) (.tmp 44) (.tmp 46) 28 (by rfl) 3 i0 _ 1 8 Tryd.underlying28 hi0 hz0 hz1 hz2 rfl (by decide) Ab pre.length pre.length (pre.map (.int .i64)) (by rfl) HCAP.out (by simp) (by exact fun b hb j u hu => (ext_box (w := wr) (.cells #[.int .i64 (e : Int)] 3)).no (HNW.out b hb j u hu)) ⟨wr.heap.size, 0, none⟩ 1 1 [.int .i64 (e : Int)] (by rfl) (by rfl) (by exact fun j u hj => cell_one_new wr (.int .i64 (e : Int)) 3 j u hj) (by simp [Value.oneCell']) (by omega) (by simp [maxLen]; omega) (by omega) ?_; intro v1 w1 ho1 hg1; obtain ⟨A1, c1, rfl⟩ := Own.slice ho1; have HO1 := Sid.mk ho1; have HX1 : Sid (Ext No wr w1) := ⟨(ext_box (.cells #[.int .i64 (e : Int)] 3)).trans ⟨hg1.os, hg1.tape, hg1.output, hg1.size, fun k hk _ => hg1.block k hk (by simp)⟩⟩; have HOI : Sid (IntsR .i64 (fun _ => True) w1 (.slice A1 (pre.length + 1) c1) (pre ++ [(e : Int)])) := ⟨tries_ints ho1 (by omega)⟩; have hs3 := HX1.out.no hs2'; have hc3 := HX1.out.no hcell; clear ho1 hg1) | (go_simp; go_at_call 70; refine (ih (sdn want s) (e + 1) _ _ _ _ (pre ++ [(e : Int)]) _ (HH.out.no (HX.out.trans HX1.out)) (by exact HOI.out) (sdn_lt' hw) (by omega) HB1.out HB2.out HB3.out (by omega) (by simp; omega)).mono ?_; rintro e1 w2 ⟨hx2, hr2⟩; (cases hr : triesF S m (sdn want s) (e + 1)); (case some r => (rw [hr] at hr2; obtain ⟨v', rfl, hv'⟩ := hr2; exact ⟨rfl, tries_hit HF.out HN.out HEK.out hlt HSe.out hr hv' (HX.out.trans HX1.out) hx2⟩)); (rw [hr] at hr2; subst hr2; have HR := Sid.mk hr; have HX2 := Sid.mk hx2; clear hx2 hr)))
          all_goals (go_wp2; go_roundw; (case rel => exact ⟨k + 1, e + 1, by simp, by omega, by omega, ⟨by have := HEK.out; omega⟩, ⟨findSome_take_succ (x := e) (by rw [range'_at (by have := HEK.out; omega), ← HEK.out]) HN.out (by rw [HSe.out]; simp [HR.out])⟩, ⟨HX.out.trans (HX1.out.trans HX2.out)⟩, HX2.out.no hs3⟩); (case measure => (simp [intOf]; omega)))
        · have e2 : ¬ ((e : Int) < (S.length : Int)) := by omega
          go_wp2
          go_end0
          exact ⟨HX.out, by rw [HF.out, ← List.take_of_length_le (i := k) (l := List.range' lo (S.length - lo)) (by simp; have := HEK.out; omega), HN.out]⟩
end Go.Proofs.YtceiaekkfabeaaaDoor
