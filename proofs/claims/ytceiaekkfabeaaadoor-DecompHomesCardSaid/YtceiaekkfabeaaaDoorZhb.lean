/- Words and contracts for: DecompHomes: for every hypergraph, and number the law answers true, and its arguments read as before. No condition; the library's table math/bits.deBruijn64tab is laid by its text. -/
import Derived.Lib.SliceRun
import Derived.Test.YtceiaekkfabeaaaDoorZha
/- Words: sets of vertices as whole numbers of 64 bits. -/
namespace Go.Proofs.YtceiaekkfabeaaaDoor
open Go.RowKit Pl

/-- What one number has of bits, and the other has not. -/
def sdn (a b : Nat) : Nat := a ^^^ (a &&& b)
theorem sdn_testBit (a b i : Nat) : (sdn a b).testBit i = (a.testBit i && !b.testBit i) := by
  simp only [sdn, Nat.testBit_xor, Nat.testBit_and]
  cases a.testBit i <;> cases b.testBit i <;> rfl
theorem sdn_lt {a b n : Nat} (h : a < 2 ^ n) : sdn a b < 2 ^ n := Nat.xor_lt_two_pow h (Nat.lt_of_le_of_lt Nat.and_le_left h)
theorem ofInt64 {a : Nat} (ha : a < 18446744073709551616) : (BitVec.ofInt 64 (a : Int)).toNat = a := by
  rw [BitVec.ofInt_natCast, BitVec.toNat_ofNat]; exact Nat.mod_eq_of_lt (by omega)
theorem wrap_nat {a : Nat} (ha : a < 18446744073709551616) : IntKind.u64.wrap (a : Int) = (a : Int) := by rw [IntKind.wrap_u64]; omega
theorem or_u64 {a b : Nat} (ha : a < 4294967296) (hb : b < 4294967296) : bits .or .u64 (a : Int) (b : Int) = ((a ||| b : Nat) : Int) := by
  have hx : a ||| b < 2 ^ 32 := Nat.or_lt_two_pow (by omega) (by omega)
  show IntKind.u64.wrap ((BitVec.ofInt 64 (a : Int) ||| BitVec.ofInt 64 (b : Int)).toNat : Int) = _
  rw [BitVec.toNat_or, ofInt64 (by omega), ofInt64 (by omega), wrap_nat (by omega)]
theorem and_u64 {a b : Nat} (ha : a < 4294967296) (hb : b < 4294967296) : bits .and .u64 (a : Int) (b : Int) = ((a &&& b : Nat) : Int) := by
  have hx : a &&& b < 2 ^ 32 := Nat.and_lt_two_pow _ (by omega)
  show IntKind.u64.wrap ((BitVec.ofInt 64 (a : Int) &&& BitVec.ofInt 64 (b : Int)).toNat : Int) = _
  rw [BitVec.toNat_and, ofInt64 (by omega), ofInt64 (by omega), wrap_nat (by omega)]
theorem andNot_u64 {a b : Nat} (ha : a < 4294967296) (hb : b < 4294967296) : bits .andNot .u64 (a : Int) (b : Int) = ((sdn a b : Nat) : Int) := by
  have hx : sdn a b < 2 ^ 32 := sdn_lt (by omega)
  have h1 : (BitVec.ofInt 64 (a : Int) &&& ~~~ BitVec.ofInt 64 (b : Int)).toNat = sdn a b := by
    apply Nat.eq_of_testBit_eq
    intro i
    rw [sdn_testBit]
    have e1 : ∀ (x : Nat), x < 18446744073709551616 → (BitVec.ofInt 64 (x : Int)).getLsbD i = x.testBit i := fun x hx => by
      rw [← BitVec.testBit_toNat, ofInt64 hx]
    rw [BitVec.testBit_toNat, BitVec.getLsbD_and, BitVec.getLsbD_not, e1 a (by omega), e1 b (by omega)]
    by_cases hi : i < 64
    · simp [hi]
    · have : a.testBit i = false := Nat.testBit_lt_two_pow (Nat.lt_of_lt_of_le (show a < 2 ^ 32 by omega) (Nat.pow_le_pow_right (by omega) (by omega)))
      simp [this]
  show IntKind.u64.wrap ((BitVec.ofInt 64 (a : Int) &&& ~~~ BitVec.ofInt 64 (b : Int)).toNat : Int) = _
  rw [h1, wrap_nat (by omega)]
theorem pow_lt_32 {n : Nat} (h : n < 32) : 2 ^ n < 4294967296 := by
  have := Nat.pow_lt_pow_right (a := 2) (by omega) h
  simpa using this
theorem wrap_pow {n : Nat} (h : n < 32) : IntKind.u64.wrap ((2 : Int) ^ n) = ((2 ^ n : Nat) : Int) := by
  have h1 := pow_lt_32 h
  have : ((2 : Int) ^ n) = ((2 ^ n : Nat) : Int) := by simp
  rw [this, wrap_nat (by omega)]
theorem or_lt {a b : Nat} (ha : a < 4294967296) (hb : b < 4294967296) : a ||| b < 4294967296 := by
  have : a ||| b < 2 ^ 32 := Nat.or_lt_two_pow (by omega) (by omega)
  omega
theorem and_lt {a b : Nat} (ha : a < 4294967296) : a &&& b < 4294967296 := Nat.lt_of_le_of_lt Nat.and_le_left ha
theorem sdn_lt' {a b : Nat} (ha : a < 4294967296) : sdn a b < 4294967296 := by
  have : sdn a b < 2 ^ 32 := sdn_lt (by omega)
  omega
/-- The set of some vertices. -/
def ofTo (l : List Int) : Nat := l.foldl (fun s v => s ||| 2 ^ v.toNat) 0
theorem ofTo_succ {l : List Int} {k : Nat} {x : Int} (hx : l[k]? = some x) : ofTo (l.take (k+1)) = ofTo (l.take k) ||| 2 ^ x.toNat := by
  obtain ⟨hk, rfl⟩ := List.getElem?_eq_some_iff.1 hx
  unfold ofTo
  rw [List.take_succ_eq_append_getElem hk, List.foldl_append]; rfl
/-- All numbers of a row are bits' places. -/
def smallL (l : List Int) : Prop := ∀ x ∈ l, 0 ≤ x ∧ x < 32
theorem ofTo_lt {l : List Int} (h : smallL l) : ofTo l < 4294967296 := by
  unfold ofTo
  have : ∀ (l : List Int) (s : Nat), smallL l → s < 4294967296 → l.foldl (fun s v => s ||| 2 ^ v.toNat) s < 4294967296 := by
    intro l
    induction l with
    | nil => intro s _ hs; exact hs
    | cons x l ih =>
      intro s hl hs
      have hx := hl x (by simp)
      exact ih _ (fun y hy => hl y (by simp [hy])) (or_lt hs (pow_lt_32 (by omega)))
  exact this l 0 h (by omega)
end Go.Proofs.YtceiaekkfabeaaaDoor

/- Walks: functions of the references that only read rows of numbers. -/
namespace Go.Proofs.YtceiaekkfabeaaaDoor
open Go.RowKit Pl

theorem ret_bool {a b : Bool} (h : a = b) : Ending.returned (.bool a) = .returned (.bool b) := by rw [h]
theorem ret_int {k : IntKind} {a b : Int} (h : a = b) : Ending.returned (.int k a) = .returned (.int k b) := by rw [h]

set_option maxHeartbeats 400000 in
theorem has_any {P : Nat → Prop} (v : Value) (xs : List Int) (n : Int) (w : World) (hv : IntsR .i64 P w v xs) :
    Calls Tryd.prog 40 #[v, .int .i64 n] w fun e w' => e = .returned (.bool (hasB xs n)) ∧ w = w' := by
  obtain ⟨A, c, rfl, hc, hm, hat⟩ := hv.at
  have HAT := Sid.mk hat
  clear hat hv
  go_enter Tryd.func40, Tryd.ntmps40
  go_wp2
  go_loop [9] (fun i => ∃ k : Nat, k ≤ xs.length ∧ i = .int .i64 k ∧ Sid (hasB (xs.take k) n = false)) (fun i => xs.length - (intOf i).toNat)
  case atStart => exact ⟨0, Nat.zero_le _, rfl, ⟨by simp [hasB]⟩⟩
  case round =>
    obtain ⟨k, hk, rfl, hs⟩ := hrel
    by_cases hlt : k < xs.length
    · obtain ⟨b, off, x, rfl, _, hcell, HX⟩ := HAT.out k hlt
      cases he : (x == n) with
      | true =>
        have HE := Sid.mk he
        go_wp2
        go_ret
        exact ⟨ret_bool (hasB_of HX.out HE.out).symm, rfl⟩
      | false =>
        have HE := Sid.mk he
        go_wp2
        go_round
        case rel => exact ⟨k+1, by omega, by go_num, ⟨hasB_false_succ hs.out HX.out HE.out⟩⟩
        case measure => simp [intOf]; omega
    · go_wp2
      go_ret
      exact ⟨ret_bool (hasB_all hlt hs.out).symm, rfl⟩

set_option maxHeartbeats 400000 in
theorem within_any {P P' : Nat → Prop} (v u : Value) (xs ys : List Int) (w : World) (hv : IntsR .i64 P w v xs) (hu : IntsR .i64 P' w u ys) :
    Calls Tryd.prog 46 #[v, u] w fun e w' => e = .returned (.bool (withinB xs ys)) ∧ w = w' := by
  obtain ⟨A, c, rfl, hc, hm, hat⟩ := hv.at
  have HAT := Sid.mk hat
  have HU := Sid.mk hu
  clear hat hv hu
  go_enter Tryd.func46, Tryd.ntmps46
  go_wp2
  go_loop [9] (fun i => ∃ k : Nat, k ≤ xs.length ∧ i = .int .i64 k ∧ Sid (allB (hasB ys) (xs.take k) = true)) (fun i => xs.length - (intOf i).toNat)
  case atStart => exact ⟨0, Nat.zero_le _, rfl, ⟨by simp [allB]⟩⟩
  case round =>
    obtain ⟨k, hk, rfl, hs⟩ := hrel
    by_cases hlt : k < xs.length
    · obtain ⟨b, off, x, rfl, _, hcell, HX⟩ := HAT.out k hlt
      cases he : hasB ys x with
      | false =>
        have HE := Sid.mk he
        go_wp2_with (go_at_call 40; refine (has_any _ ys _ _ HU.out).mono ?_; rintro e w' ⟨rfl, rfl⟩)
        go_ret
        exact ⟨ret_bool (allB_false HX.out HE.out).symm, rfl⟩
      | true =>
        have HE := Sid.mk he
        go_wp2_with (go_at_call 40; refine (has_any _ ys _ _ HU.out).mono ?_; rintro e w' ⟨rfl, rfl⟩)
        go_round
        case rel => exact ⟨k+1, by omega, by go_num, ⟨allB_succ hs.out HX.out HE.out⟩⟩
        case measure => simp [intOf]; omega
    · go_wp2
      go_ret
      exact ⟨ret_bool (allB_all hlt hs.out).symm, rfl⟩

set_option maxHeartbeats 800000 in
theorem Rises_any {P : Nat → Prop} (v : Value) (xs : List Int) (many : Int) (w : World) (hv : IntsR .i64 P w v xs) :
    Calls Tryd.prog 13 #[v, .int .i64 many] w fun e w' => e = .returned (.bool (risesB xs many)) ∧ w = w' := by
  obtain ⟨A, c, rfl, hc, hm, hat⟩ := hv.at
  have HAT := Sid.mk hat
  clear hat hv
  go_enter Tryd.func13, Tryd.ntmps13
  go_wp2
  go_loop [9] (fun i => ∃ k : Nat, k ≤ xs.length ∧ i = .int .i64 k ∧ Sid (∀ i, i < k → goodAt xs many i)) (fun i => xs.length - (intOf i).toNat)
  case atStart => exact ⟨0, Nat.zero_le _, rfl, ⟨by omega⟩⟩
  case round =>
    obtain ⟨k, hk, rfl, hs⟩ := hrel
    by_cases hlt : k < xs.length
    · obtain ⟨b, off, x, rfl, _, hcell, HX⟩ := HAT.out k hlt
      by_cases h1 : x < 0
      · go_wp2
        go_ret
        exact ⟨ret_bool (risesB_false (i := k) (fun hg => by have := hg x HX.out; omega)).symm, rfl⟩
      · by_cases h2 : many ≤ x
        · go_wp2
          go_ret
          exact ⟨ret_bool (risesB_false (i := k) (fun hg => by have := hg x HX.out; omega)).symm, rfl⟩
        · by_cases h0 : k = 0
          · subst h0
            simp only [Nat.add_zero] at hcell
            go_wp2
            go_round
            case rel => exact ⟨1, by omega, by go_num, ⟨fun i hi z hz => by obtain rfl : i = 0 := by omega
                                                                            rw [HX.out] at hz; cases hz; exact ⟨by omega, by omega, by omega⟩⟩⟩
            case measure => simp [intOf]; omega
          · have hk0 : 0 < k := by omega
            obtain ⟨b', off', y, hb, _, hcell', HY⟩ := HAT.out (k - 1) (by omega)
            cases hb
            by_cases h3 : x ≤ y
            · go_wp2
              go_ret
              exact ⟨ret_bool (risesB_false (i := k) (fun hg => by have := (hg x HX.out).2.2 y hk0 HY.out; omega)).symm, rfl⟩
            · go_wp2
              go_round
              case rel => exact ⟨k+1, by omega, by go_num, ⟨fun i hi => by
                            by_cases hik : i < k
                            · exact hs.out i hik
                            · obtain rfl : i = k := by omega
                              intro z hz
                              rw [HX.out] at hz; cases hz
                              exact ⟨by omega, by omega, fun u _ hu => by rw [HY.out] at hu; cases hu; omega⟩⟩⟩
              case measure => simp [intOf]; omega
    · go_wp2
      go_ret
      exact ⟨ret_bool (risesB_iff.2 (fun i => by
        by_cases hik : i < k
        · exact hs.out i hik
        · intro z hz; rw [List.getElem?_eq_none (by omega)] at hz; cases hz)).symm, rfl⟩
set_option maxHeartbeats 800000 in
theorem rises_any {P : Nat → Prop} (v : Value) (xs : List Int) (many : Int) (w : World) (hv : IntsR .i64 P w v xs) :
    Calls Tryd.prog 32 #[v, .int .i64 many] w fun e w' => e = .returned (.bool (risesB xs many)) ∧ w = w' := by
  obtain ⟨A, c, rfl, hc, hm, hat⟩ := hv.at
  have HAT := Sid.mk hat
  clear hat hv
  go_enter Tryd.func32, Tryd.ntmps32
  go_wp2
  go_loop [9] (fun i => ∃ k : Nat, k ≤ xs.length ∧ i = .int .i64 k ∧ Sid (∀ i, i < k → goodAt xs many i)) (fun i => xs.length - (intOf i).toNat)
  case atStart => exact ⟨0, Nat.zero_le _, rfl, ⟨by omega⟩⟩
  case round =>
    obtain ⟨k, hk, rfl, hs⟩ := hrel
    by_cases hlt : k < xs.length
    · obtain ⟨b, off, x, rfl, _, hcell, HX⟩ := HAT.out k hlt
      by_cases h1 : x < 0
      · go_wp2
        go_ret
        exact ⟨ret_bool (risesB_false (i := k) (fun hg => by have := hg x HX.out; omega)).symm, rfl⟩
      · by_cases h2 : many ≤ x
        · go_wp2
          go_ret
          exact ⟨ret_bool (risesB_false (i := k) (fun hg => by have := hg x HX.out; omega)).symm, rfl⟩
        · by_cases h0 : k = 0
          · subst h0
            simp only [Nat.add_zero] at hcell
            go_wp2
            go_round
            case rel => exact ⟨1, by omega, by go_num, ⟨fun i hi z hz => by obtain rfl : i = 0 := by omega
                                                                            rw [HX.out] at hz; cases hz; exact ⟨by omega, by omega, by omega⟩⟩⟩
            case measure => simp [intOf]; omega
          · have hk0 : 0 < k := by omega
            obtain ⟨b', off', y, hb, _, hcell', HY⟩ := HAT.out (k - 1) (by omega)
            cases hb
            by_cases h3 : x ≤ y
            · go_wp2
              go_ret
              exact ⟨ret_bool (risesB_false (i := k) (fun hg => by have := (hg x HX.out).2.2 y hk0 HY.out; omega)).symm, rfl⟩
            · go_wp2
              go_round
              case rel => exact ⟨k+1, by omega, by go_num, ⟨fun i hi => by
                            by_cases hik : i < k
                            · exact hs.out i hik
                            · obtain rfl : i = k := by omega
                              intro z hz
                              rw [HX.out] at hz; cases hz
                              exact ⟨by omega, by omega, fun u _ hu => by rw [HY.out] at hu; cases hu; omega⟩⟩⟩
              case measure => simp [intOf]; omega
    · go_wp2
      go_ret
      exact ⟨ret_bool (risesB_iff.2 (fun i => by
        by_cases hik : i < k
        · exact hs.out i hik
        · intro z hz; rw [List.getElem?_eq_none (by omega)] at hz; cases hz)).symm, rfl⟩
end Go.Proofs.YtceiaekkfabeaaaDoor

namespace Go.Proofs.YtceiaekkfabeaaaDoor
open Go.RowKit Pl

theorem ext_box {w : World} (o : Obj) : Ext No w (w.alloc o) := (Ext.refl No w).alloc o

set_option maxHeartbeats 800000 in
theorem covers_any {P P1 P2 : Nat → Prop} (many : Int) (ev rv vv : Value) (es : List (List Int)) (row vs : List Int) (w : World) (he : RowsR P w ev es) (hr : IntsR .i64 P1 w rv row) (hv : IntsR .i64 P2 w vv vs) (hin : inB row es.length) :
    Calls Tryd.prog 38 #[.agg #[.int .i64 many, ev], rv, vv] w fun e w' => e = .returned (.bool (coversB es row vs)) ∧ Ext No w w' := by
  obtain ⟨Ae, ce, rfl, hce, hme, hate⟩ := (he.ext (ext_box (w := w) (.cells #[.int .i64 many, ev] 24)) (fun _ _ h => h)).at
  obtain ⟨Ar, cr, rfl, hcr, hmr, hatr⟩ := (hr.ext (ext_box (w := w) (.cells #[.int .i64 many, .slice Ae es.length ce] 24)) (fun _ _ h => h)).at
  obtain ⟨Av, cv, rfl, hcv, hmv, hatv⟩ := (hv.ext (ext_box (w := w) (.cells #[.int .i64 many, .slice Ae es.length ce] 24)) (fun _ _ h => h)).at
  have HE := Sid.mk hate
  have HR := Sid.mk hatr
  have HV := Sid.mk hatv
  have HIN := Sid.mk hin
  clear hate hatr hatv hin he hr hv
  go_enter Tryd.func38, Tryd.ntmps38
  go_wp2
  go_loop [14] (fun i => ∃ k : Nat, k ≤ vs.length ∧ i = .int .i64 k ∧ Sid (allB (fun v => anyB (fun e => hasB (edgeAt es e) v) row) (vs.take k) = true)) (fun i => vs.length - (intOf i).toNat)
  case atStart => exact ⟨0, Nat.zero_le _, rfl, ⟨by simp [allB]⟩⟩
  case round =>
    obtain ⟨k, hk, rfl, hs⟩ := hrel
    by_cases hlt : k < vs.length
    · obtain ⟨bv, offv, x, rfl, _, hcellv, HX⟩ := HV.out k hlt
      go_wp2
      go_loop [9, 20] (fun b i => ∃ j : Nat, j ≤ row.length ∧ i = .int .i64 j ∧ b = .bool (anyB (fun e => hasB (edgeAt es e) x) (row.take j))) (fun _ i => row.length - (intOf i).toNat)
      case atStart => exact ⟨0, Nat.zero_le _, rfl, by simp [anyB]⟩
      case round =>
        obtain ⟨j, hj, rfl, rfl⟩ := hrel
        by_cases hjt : j < row.length
        · obtain ⟨br, offr, e, rfl, _, hcellr, HEj⟩ := HR.out j hjt
          obtain ⟨m, rfl, hm⟩ := HIN.out.at HEj.out
          obtain ⟨be, offe, A', c', r, rfl, _, hcelle, HR', HI'⟩ := HE.out m hm
          cases hb : anyB (fun e => hasB (edgeAt es e) x) (row.take j) with
          | true =>
            have HB := Sid.mk hb
            clear hb
            go_wp2
            go_round
            case rel => exact ⟨j+1, by omega, by go_num, by rw [anyB_succ HEj.out, HB.out]; rfl⟩
            case measure => simp [intOf]; omega
          | false =>
            have HB := Sid.mk hb
            clear hb
            go_wp2_with (go_at_call 40; refine (has_any _ r _ _ HI'.out).mono ?_; rintro e w' ⟨rfl, rfl⟩)
            go_round
            case rel => exact ⟨j+1, by omega, by go_num, by rw [anyB_succ HEj.out, HB.out, edgeAt_of rfl HR'.out]; rfl⟩
            case measure => simp [intOf]; omega
        · cases hb : anyB (fun e => hasB (edgeAt es e) x) (row.take j) with
          | true =>
            have HB := Sid.mk hb
            clear hb
            go_wp2
            go_round
            case rel => exact ⟨k+1, by omega, by go_num, ⟨allB_succ hs.out HX.out (by have := HB.out; rwa [List.take_of_length_le (by omega)] at this)⟩⟩
            case measure => simp [intOf]; omega
          | false =>
            have HB := Sid.mk hb
            clear hb
            go_wp2
            go_ret
            exact ⟨ret_bool (allB_false HX.out (by have := HB.out; rwa [List.take_of_length_le (by omega)] at this)).symm, ext_box _⟩
    · go_wp2
      go_ret
      exact ⟨ret_bool (allB_all hlt hs.out).symm, ext_box _⟩
end Go.Proofs.YtceiaekkfabeaaaDoor

namespace Go.Proofs.YtceiaekkfabeaaaDoor
open Go.RowKit Pl

/-- A function of the program's own is entered. -/
def Enters (g : Nat) : Prop := ∀ (l : Array Value) (w : World), Sem.run Tryd.prog (callFunc g l) w = .ok (.enter g l) w

set_option maxHeartbeats 400000 in
set_option maxRecDepth 100000 in
theorem allInts_any {P : Nat → Prop} (g : Nat) (hg : Enters g) (caps : Array Value) (f : Nat → Int → Bool) (v : Value) (xs : List Int) (w : World) (hv : IntsR .i64 P w v xs)
    (hf : ∀ (i : Nat) (x : Int) (wx : World), Ext No w wx → xs[i]? = some x → Calls Tryd.prog g (#[.int .i64 i, .int .i64 x] ++ caps) wx fun e w' => e = .returned (.bool (f i x)) ∧ Ext No wx w') :
    Calls Tryd.prog 63 #[v, .func (.func g) #[] caps] w fun e w' => e = .returned (.bool (allI f 0 xs)) ∧ Ext No w w' := by
  obtain ⟨A, c, rfl, hc, hm, hat⟩ := hv.at
  have HAT := Sid.mk hat
  have HF := Sid.mk hf
  clear hat hv hf
  unfold Enters at hg
  go_enter Tryd.func63, Tryd.ntmps63
  go_wp2
  go_loopw [9] (fun i wr => ∃ k : Nat, k ≤ xs.length ∧ i = .int .i64 k ∧ Sid (∀ i x, i < k → xs[i]? = some x → f i x = true) ∧ Sid (Ext No w wr)) (fun i _ => xs.length - (intOf i).toNat)
  case atStart => exact ⟨0, Nat.zero_le _, rfl, ⟨by omega⟩, ⟨Ext.refl _ _⟩⟩
  case round =>
    obtain ⟨k, hk, rfl, HS, HX⟩ := hrel
    by_cases hlt : k < xs.length
    · obtain ⟨b, off, x, rfl, _, hcell0, HB⟩ := HAT.out k hlt
      have hcell := HX.out.no hcell0
      clear hcell0
      cases hb : f k x with
      | false =>
        have HH := Sid.mk hb
        clear hb
        go_wp2_with (refine (HF.out k x _ HX.out HB.out).mono ?_; rintro e w1 ⟨rfl, hx1⟩; rw [HH.out]; have HX1 := Sid.mk hx1; clear hx1)
        go_ret
        exact ⟨ret_bool (allI_false HB.out HH.out).symm, HX.out.trans HX1.out⟩
      | true =>
        have HH := Sid.mk hb
        clear hb
        go_wp2_with (refine (HF.out k x _ HX.out HB.out).mono ?_; rintro e w1 ⟨rfl, hx1⟩; rw [HH.out]; have HX1 := Sid.mk hx1; clear hx1)
        go_roundw
        case rel => exact ⟨k+1, by omega, by go_num, ⟨fun i y hi hy => by
          by_cases hik : i < k
          · exact HS.out i y hik hy
          · obtain rfl : i = k := by omega
            rw [HB.out] at hy; cases hy; exact HH.out⟩, ⟨HX.out.trans HX1.out⟩⟩
        case measure => simp [intOf]; omega
    · go_wp2
      go_ret
      exact ⟨ret_bool (allI_of hlt HS.out).symm, HX.out⟩

set_option maxHeartbeats 400000 in
set_option maxRecDepth 100000 in
theorem allRows_any {P : Nat → Prop} (g : Nat) (hg : Enters g) (caps : Array Value) (f : Nat → List Int → Bool) (v : Value) (xss : List (List Int)) (w : World) (hv : RowsR P w v xss)
    (hf : ∀ (i : Nat) (u : Value) (x : List Int) (wx : World), Ext No w wx → xss[i]? = some x → IntsR .i64 P wx u x → Calls Tryd.prog g (#[.int .i64 i, u] ++ caps) wx fun e w' => e = .returned (.bool (f i x)) ∧ Ext No wx w') :
    Calls Tryd.prog 60 #[v, .func (.func g) #[] caps] w fun e w' => e = .returned (.bool (allI f 0 xss)) ∧ Ext No w w' := by
  obtain ⟨A, c, rfl, hc, hm, hat⟩ := hv.at
  have HAT := Sid.mk hat
  have HF := Sid.mk hf
  clear hat hv hf
  unfold Enters at hg
  go_enter Tryd.func60, Tryd.ntmps60
  go_wp2
  go_loopw [9] (fun i wr => ∃ k : Nat, k ≤ xss.length ∧ i = .int .i64 k ∧ Sid (∀ i x, i < k → xss[i]? = some x → f i x = true) ∧ Sid (Ext No w wr)) (fun i _ => xss.length - (intOf i).toNat)
  case atStart => exact ⟨0, Nat.zero_le _, rfl, ⟨by omega⟩, ⟨Ext.refl _ _⟩⟩
  case round =>
    obtain ⟨k, hk, rfl, HS, HX⟩ := hrel
    by_cases hlt : k < xss.length
    · obtain ⟨b, off, A', c', x, rfl, _, hcell0, HB, HI⟩ := HAT.out k hlt
      have hcell := HX.out.no hcell0
      clear hcell0
      cases hb : f k x with
      | false =>
        have HH := Sid.mk hb
        clear hb
        go_wp2_with (refine (HF.out k _ x _ HX.out HB.out (HI.out.no HX.out)).mono ?_; rintro e w1 ⟨rfl, hx1⟩; rw [HH.out]; have HX1 := Sid.mk hx1; clear hx1)
        go_ret
        exact ⟨ret_bool (allI_false HB.out HH.out).symm, HX.out.trans HX1.out⟩
      | true =>
        have HH := Sid.mk hb
        clear hb
        go_wp2_with (refine (HF.out k _ x _ HX.out HB.out (HI.out.no HX.out)).mono ?_; rintro e w1 ⟨rfl, hx1⟩; rw [HH.out]; have HX1 := Sid.mk hx1; clear hx1)
        go_roundw
        case rel => exact ⟨k+1, by omega, by go_num, ⟨fun i y hi hy => by
          by_cases hik : i < k
          · exact HS.out i y hik hy
          · obtain rfl : i = k := by omega
            rw [HB.out] at hy; cases hy; exact HH.out⟩, ⟨HX.out.trans HX1.out⟩⟩
        case measure => simp [intOf]; omega
    · go_wp2
      go_ret
      exact ⟨ret_bool (allI_of hlt HS.out).symm, HX.out⟩

theorem enters61 : Enters 61 := fun l w => by kernel_rfl
theorem enters64 : Enters 64 := fun l w => by kernel_rfl
theorem enters82 : Enters 82 := fun l w => by kernel_rfl

set_option maxHeartbeats 400000 in
theorem verts1_any (i x many : Int) (B : Nat) (w : World) (hb : w.cell? ⟨B, 0, none⟩ = some (.int .i64 many)) :
    Calls Tryd.prog 82 #[.int .i64 i, .int .i64 x, .pointer (some ⟨B, 0, none⟩)] w fun e w' => e = .returned (.bool (vertB many x)) ∧ Ext No w w' := by
  by_cases h1 : 0 ≤ x
  · by_cases h2 : x < many
    · go_enter Tryd.func82, Tryd.ntmps82
      go_wp2
      go_ret
      exact ⟨ret_bool (by simp [vertB]; omega), Ext.refl _ _⟩
    · go_enter Tryd.func82, Tryd.ntmps82
      go_wp2
      go_ret
      exact ⟨ret_bool (by simp [vertB]; omega), Ext.refl _ _⟩
  · go_enter Tryd.func82, Tryd.ntmps82
    go_wp2
    go_ret
    exact ⟨ret_bool (by simp [vertB]; omega), Ext.refl _ _⟩

set_option maxHeartbeats 400000 in
theorem vertices_any {P : Nat → Prop} (v : Value) (xs : List Int) (many : Int) (w : World) (hv : IntsR .i64 P w v xs) :
    Calls Tryd.prog 62 #[v, .int .i64 many] w fun e w' => e = .returned (.bool (allI (fun _ x => vertB many x) 0 xs)) ∧ Ext No w w' := by
  have HV := Sid.mk (hv.no (ext_box (.cells #[.int .i64 many] 3)))
  obtain ⟨A, c, rfl, _⟩ := hv.at
  clear hv
  have HB : Sid ((w.alloc (.cells #[.int .i64 many] 3)).cell? ⟨w.heap.size, 0, none⟩ = some (.int .i64 many)) := ⟨by simp⟩
  go_enter Tryd.func62, Tryd.ntmps62
  go_wp2_with (go_at_call 63; refine (allInts_any 82 enters82 #[.pointer (some ⟨w.heap.size, 0, none⟩)] (fun _ x => vertB many x) _ xs _ HV.out ?hf).mono ?_; (case hf => exact fun i x wx hwx _ => verts1_any i x many _ wx (hwx.no HB.out)); rintro e w1 ⟨rfl, hx1⟩; have HX1 := Sid.mk hx1; clear hx1)
  go_ret
  exact ⟨rfl, (ext_box _).trans HX1.out⟩

set_option maxHeartbeats 400000 in
theorem prec_any {P : Nat → Prop} (i : Nat) (x : Int) (B : Nat) (v : Value) (xs : List Int) (w : World) (hv : IntsR .i64 P w v xs) (hb : w.cell? ⟨B, 0, none⟩ = some v) (hi : i < xs.length) :
    Calls Tryd.prog 64 #[.int .i64 i, .int .i64 x, .pointer (some ⟨B, 0, none⟩)] w fun e w' => e = .returned (.bool (precB xs i x)) ∧ Ext No w w' := by
  obtain ⟨A, c, rfl, hc, hm, hat⟩ := hv.at
  clear hv
  by_cases h0 : i = 0
  · subst h0
    clear hat
    go_enter Tryd.func64, Tryd.ntmps64
    go_wp2
    go_ret
    exact ⟨ret_bool (by simp [precB]), Ext.refl _ _⟩
  · obtain ⟨b, off, y, rfl, _, hcell, HY⟩ := hat (i - 1) (by omega)
    clear hat
    have hpos : 0 < i := by omega
    have hne : (i == 0) = false := by simp; omega
    have HN := Sid.mk hne
    clear hne
    have hne2 : ((i : Int) == 0) = false := by simp; omega
    by_cases h3 : y < x
    · go_enter Tryd.func64, Tryd.ntmps64
      go_wp2
      go_ret
      exact ⟨ret_bool (by simp [precB, HN.out, HY.out, h3]), Ext.refl _ _⟩
    · go_enter Tryd.func64, Tryd.ntmps64
      go_wp2
      go_ret
      exact ⟨ret_bool (by simp [precB, HN.out, HY.out]; omega), Ext.refl _ _⟩
end Go.Proofs.YtceiaekkfabeaaaDoor

namespace Go.Proofs.YtceiaekkfabeaaaDoor
open Go.RowKit Pl

def sizesB (many n : Int) : Bool := decide (0 ≤ many) && decide (many ≤ 32) && decide (n ≤ 40)
set_option maxHeartbeats 400000 in
theorem sizes_any (many n : Int) (w : World) :
    Calls Tryd.prog 59 #[.int .i64 many, .int .i64 n] w fun e w' => e = .returned (.bool (sizesB many n)) ∧ w = w' := by
  by_cases h1 : 0 ≤ many
  · by_cases h2 : many ≤ 32
    · by_cases h3 : n ≤ 40
      · go_enter Tryd.func59, Tryd.ntmps59
        go_wp2
        go_ret
        exact ⟨ret_bool (by simp [sizesB]; omega), rfl⟩
      · go_enter Tryd.func59, Tryd.ntmps59
        go_wp2
        go_ret
        exact ⟨ret_bool (by simp [sizesB]; omega), rfl⟩
    · go_enter Tryd.func59, Tryd.ntmps59
      go_wp2
      go_ret
      exact ⟨ret_bool (by simp [sizesB]; omega), rfl⟩
  · go_enter Tryd.func59, Tryd.ntmps59
    go_wp2
    go_ret
    exact ⟨ret_bool (by simp [sizesB]; omega), rfl⟩

def eqB (xs ys : List Int) : Bool := xs == ys
set_option maxHeartbeats 400000 in
theorem Equal_any {P P1 : Nat → Prop} (v u : Value) (xs ys : List Int) (w : World) (hv : IntsR .i64 P w v xs) (hu : IntsR .i64 P1 w u ys) :
    Calls Tryd.prog 15 #[v, u] w fun e w' => e = .returned (.bool (eqB xs ys)) ∧ ∃ n, w' = w.drewN n := by
  obtain ⟨A, c, rfl, hc, hm, hat⟩ := hv.at
  obtain ⟨A1, c1, rfl, hc1, hm1, hat1⟩ := hu.at
  have HAT := Sid.mk hat
  have HAT1 := Sid.mk hat1
  clear hat hat1 hv hu
  by_cases hl : xs.length = ys.length
  · have hl' : ((xs.length : Int) != (ys.length : Int)) = false := by simp [hl]
    have HL := Sid.mk hl
    clear hl
    go_enter Tryd.func15, Tryd.ntmps15
    go_wp2
    go_loopw [13] (fun i wr => ∃ k : Nat, k ≤ xs.length ∧ i = .int .i64 k ∧ Sid (xs.take k = ys.take k) ∧ Sid (∃ n, wr = w.drewN n)) (fun i _ => xs.length - (intOf i).toNat)
    case atStart => exact ⟨0, Nat.zero_le _, rfl, ⟨by simp⟩, ⟨0, rfl⟩⟩
    case round =>
      obtain ⟨k, hk, rfl, hs, ⟨m, hwm⟩⟩ := hrel
      subst hwm
      by_cases hlt : k < xs.length
      · obtain ⟨b, off, x, rfl, _, hcell, HX⟩ := HAT.out k hlt
        have hlt1 : k < ys.length := by have := HL.out; omega
        obtain ⟨b1, off1, y, rfl, _, hcell1, HY⟩ := HAT1.out k hlt1
        have hcella : ∀ n, (w.drewN n).cell? ⟨b, off + k, none⟩ = some (.int .i64 x) := fun _ => hcell
        have hcellb : ∀ n, (w.drewN n).cell? ⟨b1, off1 + k, none⟩ = some (.int .i64 y) := fun _ => hcell1
        cases he : (x != y) with
        | true =>
          have HE := Sid.mk he
          go_wp2
          go_quiet (fail)
          go_wp2
          go_ret
          refine ⟨ret_bool ?_, _, by rw [World.drewN_drewN]⟩
          have h1 := HE.out
          have hne : xs ≠ ys := by
            rintro rfl
            have := HX.out.symm.trans HY.out
            simp at this; subst this; simp at h1
          simp [eqB, hne]
        | false =>
          have HE := Sid.mk he
          go_wp2
          go_quiet (fail)
          go_wp2
          go_roundw
          case rel =>
            have h1 := HE.out
            simp at h1
            subst h1
            obtain ⟨hk1, hx1⟩ := List.getElem?_eq_some_iff.1 HX.out
            obtain ⟨hk2, hx2⟩ := List.getElem?_eq_some_iff.1 HY.out
            exact ⟨k+1, by omega, by go_num, ⟨by rw [List.take_succ_eq_append_getElem hk1, List.take_succ_eq_append_getElem hk2, hs.out, hx1, hx2]⟩, ⟨_, rfl⟩⟩
          case measure => simp [intOf]; omega
      · go_wp2
        go_ret
        refine ⟨ret_bool ?_, _, rfl⟩
        have h1 := hs.out
        rw [List.take_of_length_le (by omega), List.take_of_length_le (by have := HL.out; omega)] at h1
        simp [eqB, h1]
  · have hl' : ((xs.length : Int) != (ys.length : Int)) = true := by simp; omega
    have HL := Sid.mk hl
    clear hl
    go_enter Tryd.func15, Tryd.ntmps15
    go_wp2
    go_ret
    refine ⟨ret_bool ?_, 0, rfl⟩
    have hne : xs ≠ ys := fun h => HL.out (by rw [h])
    simp [eqB, hne]
end Go.Proofs.YtceiaekkfabeaaaDoor

namespace Go.Proofs.YtceiaekkfabeaaaDoor
open Go.RowKit Pl

set_option maxHeartbeats 400000 in
theorem of_any {P : Nat → Prop} (v : Value) (xs : List Int) (w : World) (hv : IntsR .i64 P w v xs) (hs : smallL xs) :
    Calls Tryd.prog 34 #[v] w fun e w' => e = .returned (.int .u64 (ofTo xs : Nat)) ∧ w = w' := by
  obtain ⟨A, c, rfl, hc, hm, hat⟩ := hv.at
  have HAT := Sid.mk hat
  have HS := Sid.mk hs
  clear hat hv hs
  go_enter Tryd.func34, Tryd.ntmps34
  go_wp2
  go_loop [3, 8] (fun s i => ∃ k s' : Nat, k ≤ xs.length ∧ i = .int .i64 k ∧ s = .int .u64 (s' : Int) ∧ Sid (s' = ofTo (xs.take k)) ∧ s' < 4294967296) (fun _ i => xs.length - (intOf i).toNat)
  case atStart => exact ⟨0, 0, Nat.zero_le _, rfl, rfl, ⟨by simp [ofTo]⟩, by omega⟩
  case round =>
    obtain ⟨k, s, hk, rfl, rfl, HO, hs⟩ := hrel
    by_cases hlt : k < xs.length
    · obtain ⟨b, off, x, rfl, _, hcell, HX⟩ := HAT.out k hlt
      obtain ⟨hx0, hx1⟩ := HS.out x (List.mem_of_getElem? HX.out)
      obtain ⟨n, rfl⟩ := Int.eq_ofNat_of_zero_le hx0
      have hn : n < 32 := by omega
      go_wp2
      go_round
      case rel => exact ⟨k+1, s ||| 2 ^ n, by omega, by go_num, congrArg _ (by first | (rw [Int.toNat_natCast, wrap_pow hn, or_u64 hs (pow_lt_32 hn)]) | (rw [wrap_pow hn, or_u64 hs (pow_lt_32 hn)])), ⟨by rw [ofTo_succ HX.out, ← HO.out, Int.toNat_natCast]⟩, or_lt hs (pow_lt_32 hn)⟩
      case measure => simp [intOf]; omega
    · go_wp2
      go_ret
      have := HO.out
      rw [List.take_of_length_le (by omega)] at this
      subst this
      exact ⟨rfl, rfl⟩
set_option maxHeartbeats 400000 in
theorem hof_any {P : Nat → Prop} (v : Value) (xs : List Int) (w : World) (hv : IntsR .i64 P w v xs) (hs : smallL xs) :
    Calls Tryd.prog 67 #[v] w fun e w' => e = .returned (.int .u64 (ofTo xs : Nat)) ∧ w = w' := by
  obtain ⟨A, c, rfl, hc, hm, hat⟩ := hv.at
  have HAT := Sid.mk hat
  have HS := Sid.mk hs
  clear hat hv hs
  go_enter Tryd.func67, Tryd.ntmps67
  go_wp2
  go_loop [3, 8] (fun s i => ∃ k s' : Nat, k ≤ xs.length ∧ i = .int .i64 k ∧ s = .int .u64 (s' : Int) ∧ Sid (s' = ofTo (xs.take k)) ∧ s' < 4294967296) (fun _ i => xs.length - (intOf i).toNat)
  case atStart => exact ⟨0, 0, Nat.zero_le _, rfl, rfl, ⟨by simp [ofTo]⟩, by omega⟩
  case round =>
    obtain ⟨k, s, hk, rfl, rfl, HO, hs⟩ := hrel
    by_cases hlt : k < xs.length
    · obtain ⟨b, off, x, rfl, _, hcell, HX⟩ := HAT.out k hlt
      obtain ⟨hx0, hx1⟩ := HS.out x (List.mem_of_getElem? HX.out)
      obtain ⟨n, rfl⟩ := Int.eq_ofNat_of_zero_le hx0
      have hn : n < 32 := by omega
      go_wp2
      go_round
      case rel => exact ⟨k+1, s ||| 2 ^ n, by omega, by go_num, congrArg _ (by first | (rw [Int.toNat_natCast, wrap_pow hn, or_u64 hs (pow_lt_32 hn)]) | (rw [wrap_pow hn, or_u64 hs (pow_lt_32 hn)])), ⟨by rw [ofTo_succ HX.out, ← HO.out, Int.toNat_natCast]⟩, or_lt hs (pow_lt_32 hn)⟩
      case measure => simp [intOf]; omega
    · go_wp2
      go_ret
      have := HO.out
      rw [List.take_of_length_le (by omega)] at this
      subst this
      exact ⟨rfl, rfl⟩

/-- Sets that are read. -/
def natsI (S : List Nat) : List Int := S.map fun (s : Nat) => (s : Int)
theorem natsI_at {S : List Nat} {k : Nat} {x : Int} (h : (natsI S)[k]? = some x) : ∃ s : Nat, x = (s : Int) ∧ S[k]? = some s := by
  simp only [natsI, List.getElem?_map, Option.map_eq_some_iff] at h
  obtain ⟨s, h1, rfl⟩ := h
  exact ⟨s, rfl, h1⟩
theorem natsI_len (S : List Nat) : (natsI S).length = S.length := by simp [natsI]

theorem SetsR_at {P : Nat → Prop} {w : World} {A : Option Addr} {n c : Nat} {S : List Nat} (h : IntsR .u64 P w (.slice A n c) (natsI S)) : S.length ≤ 140737488355328 ∧
    ∀ j, j < S.length → ∃ b off s, A = some ⟨b, off, none⟩ ∧ P b ∧ w.cell? ⟨b, off + j, none⟩ = some (.int .u64 ((s : Nat) : Int)) ∧ Sid (S[j]? = some s) := by
  obtain ⟨A', c', hA, _, hm, hat⟩ := h.at
  simp only [Value.slice.injEq] at hA
  obtain ⟨rfl, _, rfl⟩ := hA
  rw [natsI_len] at hm hat
  refine ⟨hm, fun j hj => ?_⟩
  obtain ⟨b, off, x, h1, h2, h3, h4⟩ := hat j hj
  obtain ⟨s, rfl, hs⟩ := natsI_at h4.out
  exact ⟨b, off, s, h1, h2, h3, ⟨hs⟩⟩

theorem enters34 : Enters 34 := fun l w => by kernel_rfl
theorem nums_u64 (xs : List Int) (k : IntKind) : xs.map (Value.int k) = xs.map (Value.int k) := rfl

set_option maxHeartbeats 800000 in
theorem madeOf_any {P : Nat → Prop} (v : Value) (es : List (List Int)) (w : World) (hv : RowsR P w v es) (hs : ∀ r ∈ es, smallL r) (hl : es.length ≤ 100000) :
    Calls Tryd.prog 49 #[v, .func (.func 34) #[] #[]] w fun e w' => ∃ v', e = .returned v' ∧ IntsR .u64 (fun k => w.heap.size ≤ k) w' v' (natsI (es.map ofTo)) ∧ Ext No w w' := by
  obtain ⟨A, c, rfl, hc, hm, hat⟩ := hv.at
  have HAT := Sid.mk hat
  have HS := Sid.mk hs
  clear hat hv hs
  go_enter Tryd.func49, Tryd.ntmps49
  go_wp2
  go_loopw [5, 10] (fun v i wr => ∃ (k : Nat), k ≤ es.length ∧ i = .int .i64 k ∧ Sid (Own w.heap.size 65 1 wr v k ((natsI ((es.take k).map ofTo)).map (.int .u64))) ∧ Sid (Ext No w wr)) (fun _ i _ => es.length - (intOf i).toNat)
  case atStart => exact ⟨0, Nat.zero_le _, rfl, ⟨by simpa [natsI] using Own.nil _ _ _ _⟩, ⟨Ext.refl _ _⟩⟩
  case round =>
    obtain ⟨k, hk, rfl, HO, HX⟩ := hrel
    by_cases hlt : k < es.length
    · obtain ⟨b, off, A', c', r, rfl, _, hcell0, HB, HI⟩ := HAT.out k hlt
      have hcell := HX.out.no hcell0
      clear hcell0
      have HSM : Sid (smallL r) := ⟨HS.out r (List.mem_of_getElem? HB.out)⟩
      go_wp2_with (first | (go_at_call 34; refine (of_any _ r _ (HI.out.no HX.out) HSM.out).mono ?_; rintro e w1 ⟨rfl, rfl⟩) | (at_builtin; refine app1 w.heap.size rfl (.tmp 14) (.tmp 18) 79 65 (.int .u64 0) 8 rfl Tryd.underlying79 info65 rfl (by decide) _ _ _ _ rfl rfl (by simp) rfl HO.out HX.out.size (by omega) ?_; intro v1 w1 ho1 hx1 hb1 hs1; have HO1 := Sid.mk ho1; have HX1 := Sid.mk hx1; have HB1 := Sid.mk hb1; have HS1 := Sid.mk hs1; clear ho1 hx1 hb1 hs1))
      go_roundw
      case rel => exact ⟨k+1, by omega, by go_num, ⟨by rw [take_map_succ HB.out]; simpa [natsI] using HO1.out⟩, ⟨HO.out.step HX.out HX1.out⟩⟩
      case measure => simp [intOf]; omega
    · go_wp2
      go_ret
      have h1 := HO.out
      rw [List.take_of_length_le (by omega)] at h1
      exact ⟨_, rfl, ints_own h1 (by simp [natsI]; omega) (fun k hk => (h1.ge k hk).1), HX.out⟩

/-- A search: where its parts lie. -/
structure SearchR (P : Nat → Prop) (w : World) (B M : Nat) (many : Int) (es : List (List Int)) (S : List Nat) : Prop where
  pb : P B
  many : w.cell? ⟨B, 0, none⟩ = some (.int .i64 many)
  edges : ∃ ev, w.cell? ⟨B, 1, none⟩ = some ev ∧ RowsR P w ev es
  sets : ∃ A c, w.cell? ⟨B, 2, none⟩ = some (.slice A S.length c) ∧ IntsR .u64 P w (.slice A S.length c) (natsI S)
  known : w.cell? ⟨B, 3, none⟩ = some (.map (some M))
theorem SearchR.ext {P X : Nat → Prop} {w w' : World} {B M : Nat} {many : Int} {es : List (List Int)} {S : List Nat} (h : SearchR P w B M many es S) (hx : Ext X w w') (hP : ∀ k, P k → ¬ X k) : SearchR P w' B M many es S := by
  obtain ⟨h0, h1, ⟨ev, h2, h3⟩, ⟨A, c, h4, h5⟩, h6⟩ := h
  exact ⟨h0, hx.cell (hP _ h0) h1, ⟨ev, hx.cell (hP _ h0) h2, h3.ext hx hP⟩, ⟨A, c, hx.cell (hP _ h0) h4, h5.ext hx hP⟩, hx.cell (hP _ h0) h6⟩
theorem SearchR.no {P : Nat → Prop} {w w' : World} {B M : Nat} {many : Int} {es : List (List Int)} {S : List Nat} (h : SearchR P w B M many es S) (hx : Ext No w w') : SearchR P w' B M many es S := h.ext hx (fun _ _ h => h)
theorem SearchR.imp {P P' : Nat → Prop} {w : World} {B M : Nat} {many : Int} {es : List (List Int)} {S : List Nat} (h : SearchR P w B M many es S) (hP : ∀ k, k < w.heap.size → P k → P' k) : SearchR P' w B M many es S := by
  obtain ⟨h0, h1, ⟨ev, h2, h3⟩, ⟨A, c, h4, h5⟩, h6⟩ := h
  exact ⟨hP _ (World.block_lt_of_cell? w _ h1) h0, h1, ⟨ev, h2, h3.imp hP⟩, ⟨A, c, h4, h5.imp hP⟩, h6⟩

/-- All of some sets together. -/
def orTo (S : List Nat) : Nat := S.foldl (· ||| ·) 0
theorem orTo_succ {l : List Nat} {k : Nat} {x : Nat} (hx : l[k]? = some x) : orTo (l.take (k+1)) = orTo (l.take k) ||| x := by
  obtain ⟨hk, rfl⟩ := List.getElem?_eq_some_iff.1 hx
  unfold orTo
  rw [List.take_succ_eq_append_getElem hk, List.foldl_append]; rfl
def smallS (S : List Nat) : Prop := ∀ s ∈ S, s < 4294967296

set_option maxHeartbeats 400000 in
theorem covered_any {P : Nat → Prop} (B M : Nat) (many : Int) (es : List (List Int)) (S : List Nat) (w : World) (h : SearchR P w B M many es S) (hs : smallS S) :
    Calls Tryd.prog 35 #[.pointer (some ⟨B, 0, none⟩)] w fun e w' => e = .returned (.int .u64 (orTo S : Nat)) ∧ w = w' := by
  obtain ⟨A, c, hcell2, hr⟩ := h.sets
  obtain ⟨A', c', hA, _, hm, hat⟩ := hr.at
  simp only [Value.slice.injEq] at hA
  obtain ⟨rfl, _, rfl⟩ := hA
  have HAT := Sid.mk hat
  have HS := Sid.mk hs
  rw [natsI_len] at hm
  clear hat hr h hs
  go_enter Tryd.func35, Tryd.ntmps35
  go_wp2
  go_loop [3, 11] (fun s i => ∃ k s' : Nat, k ≤ S.length ∧ i = .int .i64 k ∧ s = .int .u64 (s' : Int) ∧ Sid (s' = orTo (S.take k)) ∧ s' < 4294967296) (fun _ i => S.length - (intOf i).toNat)
  case atStart => exact ⟨0, 0, Nat.zero_le _, rfl, rfl, ⟨by simp [orTo]⟩, by omega⟩
  case round =>
    obtain ⟨k, s, hk, rfl, rfl, HO, hs⟩ := hrel
    by_cases hlt : k < S.length
    · obtain ⟨b, off, x, rfl, _, hcell, HX⟩ := HAT.out k (by rw [natsI_len]; omega)
      obtain ⟨n, rfl, hn⟩ := natsI_at HX.out
      have HN := Sid.mk hn
      have hn' : n < 4294967296 := HS.out n (List.mem_of_getElem? hn)
      clear hn
      go_wp2
      go_round
      case rel => exact ⟨k+1, s ||| n, by omega, by go_num, congrArg _ (or_u64 hs hn'), ⟨by rw [orTo_succ HN.out, ← HO.out]⟩, or_lt hs hn'⟩
      case measure => simp [intOf]; omega
    · go_wp2
      go_ret
      have := HO.out
      rw [List.take_of_length_le (by omega)] at this
      subst this
      exact ⟨rfl, rfl⟩
end Go.Proofs.YtceiaekkfabeaaaDoor

namespace Go.Proofs.YtceiaekkfabeaaaDoor
open Go.RowKit Pl

theorem ones_int (k : IntKind) (xs : List Int) : ∀ u ∈ xs.map (Value.int k), u.oneCell' = true := by
  intro u hu
  obtain ⟨x, _, rfl⟩ := List.mem_map.1 hu
  rfl

set_option maxHeartbeats 400000 in
theorem Clone_any {P : Nat → Prop} (v : Value) (xs : List Int) (w : World) (hv : IntsR .i64 P w v xs) (hb : xs.length ≤ 1000000) :
    Calls Tryd.prog 10 #[v] w fun e w' => ∃ v', e = .returned v' ∧ IntsR .i64 (fun k => w.heap.size ≤ k) w' v' xs ∧ Ext No w w' := by
  obtain ⟨A, c, rfl, hc, hm, hat⟩ := hv.at
  have HV := Sid.mk hv
  clear hat hv
  have heq := fun (w : World) (A : Option Addr) (n c : Nat) => Lib.run_eql_slice_nil (P := Tryd.prog) w 28 3 A n c 0 0 Tryd.underlying28
  cases A with
  | none =>
    go_enter Tryd.func10, Tryd.ntmps10
    go_wp2
    go_ret
    have h0 : xs = [] := (RowR.none HV.out).2.2
    subst h0
    exact ⟨_, rfl, ⟨none, 0, rfl, by simp [(RowR.none HV.out).2.1], by simp, by simp⟩, Ext.refl _ _⟩
  | some ad =>
    have hl : w.heap.size ≤ (w.alloc (.cells #[] 3)).heap.size := by simp
    go_enter Tryd.func10, Tryd.ntmps10
    go_wp2_with (at_builtin; refine appN w.heap.size rfl (.tmp 5) (.tmp 6) 28 3 (.int .i64 0) 8 rfl Tryd.underlying28 info3 rfl (by decide) _ 0 [] ad xs.length c (xs.map (.int .i64)) rfl rfl (by simp) ((HV.out.no (ext_box _)).news) (ones_int _ _) (Own.lit w _ _ _ (Nat.le_refl _)) hl (by omega) ?_; intro v1 w1 ho1 hx1 hb1 hs1; have HO1 := Sid.mk ho1; have HX1 := Sid.mk hx1; have HB1 := Sid.mk hb1; have HS1 := Sid.mk hs1; clear ho1 hx1 hb1 hs1)
    go_ret
    have h1 := HO1.out
    rw [Nat.zero_add, List.nil_append] at h1
    exact ⟨_, rfl, h1.ints (by omega) (fun k hk => (h1.ge k hk).1), (Own.lit w _ _ 1 (Nat.le_refl _)).step (ext_box _) HX1.out⟩

set_option maxHeartbeats 1000000 in
theorem around_any {P : Nat → Prop} (ev : Value) (es : List (List Int)) (x many : Int) (w : World) (he : RowsR P w ev es) (hm1 : many ≤ 1000) :
    Calls Tryd.prog 41 #[ev, .int .i64 x, .int .i64 many] w fun e w' => ∃ v', e = .returned v' ∧ IntsR .i64 (fun k => w.heap.size ≤ k) w' v' (aroundL es x many) ∧ Ext No w w' := by
  obtain ⟨Ae, ce, rfl, hce, hme, hate⟩ := he.at
  have HE := Sid.mk hate
  clear hate he
  go_enter Tryd.func41, Tryd.ntmps41
  go_wp2
  go_loopw [7, 13] (fun v i wr => ∃ (k : Nat), (k : Int) ≤ max 0 many ∧ i = .int .i64 k ∧ Sid (Own w.heap.size 3 1 wr v (((vertsL many).take k).filter (nearB es x)).length ((((vertsL many).take k).filter (nearB es x)).map (.int .i64))) ∧ Sid (Ext No w wr)) (fun _ i _ => many.toNat - (intOf i).toNat)
  case atStart => exact ⟨0, by omega, rfl, ⟨by simpa using Own.nil _ _ _ _⟩, ⟨Ext.refl _ _⟩⟩
  case round =>
    obtain ⟨k, hk, rfl, HO, HX⟩ := hrel
    by_cases hlt : (k : Int) < many
    · have HV := Sid.mk (vertsL_at hlt)
      have hl : (((vertsL many).take k).filter (nearB es x)).length ≤ 1000 := by
        have h1 := List.length_filter_le (nearB es x) ((vertsL many).take k)
        have h2 : ((vertsL many).take k).length ≤ 1000 := by simp [vertsL_len]; omega
        omega
      have HL := Sid.mk hl
      clear hl
      go_wp2
      go_loop [9, 21] (fun b i => ∃ j : Nat, j ≤ es.length ∧ i = .int .i64 j ∧ b = .bool (((k : Int) == x) || anyB (fun e => hasB e x && hasB e k) (es.take j))) (fun _ i => es.length - (intOf i).toNat)
      case atStart => exact ⟨0, Nat.zero_le _, rfl, by simp [anyB]⟩
      case round =>
        obtain ⟨j, hj, rfl, rfl⟩ := hrel
        by_cases hjt : j < es.length
        · obtain ⟨be, offe, A', c', r, rfl, _, hcelle, HR', HI'⟩ := HE.out j hjt
          replace hcelle := HX.out.no hcelle
          cases hb : (((k : Int) == x) || anyB (fun e => hasB e x && hasB e k) (es.take j)) with
          | true =>
            have HB := Sid.mk hb
            clear hb
            go_wp2
            go_round
            case rel => exact ⟨j+1, by omega, by go_num, by rw [anyB_succ HR'.out, ← Bool.or_assoc, HB.out]; rfl⟩
            case measure => simp [intOf]; omega
          | false =>
            have HB := Sid.mk hb
            clear hb
            cases h1 : hasB r x with
            | false =>
              have H1 := Sid.mk h1
              clear h1
              go_wp2_with (go_at_call 40; refine (has_any _ r _ _ (HI'.out.no HX.out)).mono ?_; rintro e w' ⟨rfl, rfl⟩; rw [H1.out])
              go_round
              case rel => exact ⟨j+1, by omega, by go_num, by rw [anyB_succ HR'.out, ← Bool.or_assoc, HB.out, H1.out]; rfl⟩
              case measure => simp [intOf]; omega
            | true =>
              have H1 := Sid.mk h1
              clear h1
              go_wp2_with (go_at_call 40; first | (with_reducible refine (has_any _ r x _ (HI'.out.no HX.out)).mono ?_; rintro e w' ⟨rfl, rfl⟩; rw [H1.out]) | (refine (has_any _ r k _ (HI'.out.no HX.out)).mono ?_; rintro e w' ⟨rfl, rfl⟩))
              go_round
              case rel => exact ⟨j+1, by omega, by go_num, by rw [anyB_succ HR'.out, ← Bool.or_assoc, HB.out, H1.out]; rfl⟩
              case measure => simp [intOf]; omega
        · cases hb : (((k : Int) == x) || anyB (fun e => hasB e x && hasB e k) (es.take j)) with
          | false =>
            have HB := Sid.mk hb
            clear hb
            go_wp2
            go_roundw
            case rel => exact ⟨k+1, by omega, by go_num, ⟨by
              have h1 := HB.out
              rw [List.take_of_length_le (by omega)] at h1
              rw [filter_no HV.out h1]; exact HO.out⟩, HX⟩
            case measure => simp [intOf]; omega
          | true =>
            have HB := Sid.mk hb
            clear hb
            go_wp2_with (at_builtin; refine app1 w.heap.size rfl (.tmp 38) (.tmp 40) 28 3 (.int .i64 0) 8 rfl Tryd.underlying28 info3 rfl (by decide) _ _ _ _ rfl rfl (by simp) rfl HO.out HX.out.size (by have := HL.out; omega) ?_; intro v1 w1 ho1 hx1 hb1 hs1; have HO1 := Sid.mk ho1; have HX1 := Sid.mk hx1; have HB1 := Sid.mk hb1; have HS1 := Sid.mk hs1; clear ho1 hx1 hb1 hs1)
            go_roundw
            case rel => exact ⟨k+1, by omega, by go_num, ⟨by
              have h1 := HB.out
              rw [List.take_of_length_le (by omega)] at h1
              rw [filter_yes HV.out h1]; simpa using HO1.out⟩, ⟨HO.out.step HX.out HX1.out⟩⟩
            case measure => simp [intOf]; omega
    · go_wp2
      go_ret
      have h1 := HO.out
      rw [List.take_of_length_le (by rw [vertsL_len]; omega)] at h1
      exact ⟨_, rfl, h1.ints (by have := List.length_filter_le (nearB es x) (vertsL many); rw [vertsL_len] at this; omega) (fun k hk => (h1.ge k hk).1), HX.out⟩

set_option maxHeartbeats 1000000 in
set_option maxRecDepth 100000 in
theorem Rows_any (hi : Int) (hhi : hi ≤ 20) : ∀ (m : Nat) (lo q : Int) (w : World), 0 ≤ lo → lo ≤ 1000 → q = (m : Int) → m ≤ 1000 →
    Calls Tryd.prog 37 #[.int .i64 lo, .int .i64 hi, .int .i64 q] w fun e w' => ∃ v', e = .returned v' ∧ RowsR (fun k => w.heap.size ≤ k) w' v' (rowsL hi m lo) ∧ Ext No w w' := by
  intro m
  induction m with
  | zero =>
    intro lo q w h0 h1 hq hm
    have hq0 : (q == 0) = true := by simp [hq]
    clear hq
    go_enter Tryd.func37, Tryd.ntmps37
    go_wp2
    go_ret
    have e1 := (Own.lit w w.heap.size 3 1 (Nat.le_refl _)).ints (k := .i64) (xs := []) (P := fun k => w.heap.size ≤ k) (by simp) (by intro k hk; simp [Value.ownBlock] at hk; omega)
    have e2 := e1.no (ext_box (.cells #[.slice (some ⟨w.heap.size, 0, none⟩) 0 0] 28))
    have e3 := Own.lit1 (w.alloc (.cells #[] 3)) w.heap.size 28 (.slice (some ⟨w.heap.size, 0, none⟩) 0 0) (by simp)
    rw [World.size_alloc] at e3
    refine ⟨_, rfl, Own.rows (xss := [[]]) e3 (by simp) (by intro k hk; simp [Value.ownBlock] at hk; omega) (fun j u xs hu hxs => ?_), (ext_box _).alloc _⟩
    rcases j with _ | j
    · simp at hu hxs; subst hu; subst hxs; exact e2
    · simp at hu
  | succ m ih =>
    intro lo q w h0 h1 hq hm
    have hq0 : (q == 0) = false := by simp; omega
    have hq1 : 1 ≤ q := by omega
    have hq2 : q ≤ 1000 := by omega
    have HQ := Sid.mk hq
    clear hq
    go_enter Tryd.func37, Tryd.ntmps37
    go_wp2
    go_loopw [7, 8] (fun v n wr => ∃ (k : Nat) (x : Int), n = .int .i64 x ∧ lo ≤ x ∧ x ≤ max lo hi ∧ Sid (x = lo + k) ∧ Sid (OwnRows (fun k => w.heap.size ≤ k) w.heap.size wr v (((rangeL lo hi).take k).flatMap fun n => (rowsL hi m (n + 1)).map (n :: ·))) ∧ Sid (Ext No w wr)) (fun _ n _ => (hi - intOf n).toNat)
    case atStart => exact ⟨0, lo, rfl, by omega, by omega, ⟨by simp⟩, ⟨by simpa using OwnRows.nil _ _ _⟩, ⟨Ext.refl _ _⟩⟩
    case round =>
      obtain ⟨k, x, rfl, hx1, hx2, HXK, HO, HX⟩ := hrel
      by_cases hlt : x < hi
      · have HR := Sid.mk (rangeL_at (lo := lo) (hi := hi) (k := k) (by have := HXK.out; omega))
        go_wp2_with (go_at_call 37; refine (ih (x + 1) (q - 1) _ (by omega) (by omega) (by have := HQ.out; omega) (by omega)).mono ?_; rintro e w1 ⟨v1, rfl, hr1, hx1⟩; obtain ⟨A1, c1, rfl, hc1, hm1, hat1⟩ := hr1.at; have HR1 := Sid.mk hr1; have HX1 := Sid.mk hx1; have HAT := Sid.mk hat1; clear hr1 hx1 hat1)
        obtain ⟨wo, rfl⟩ : ∃ wo : World, wo = wr := ⟨_, rfl⟩
        obtain ⟨Z, hZ⟩ : ∃ Z, ((rangeL lo hi).take k).flatMap (fun n => (rowsL hi m (n + 1)).map (n :: ·)) = Z := ⟨_, rfl⟩
        have HZL : Sid (Z.length ≤ 10000000 ∧ (rowsL hi m (x + 1)).length ≤ 10000000) := ⟨by
          have h1 := rowsL_len hi m (x + 1)
          have h2 := rowsL_len hi (m + 1) lo
          have h3 : (2 : Nat) ^ (hi - (x + 1)).toNat ≤ 2 ^ 20 := Nat.pow_le_pow_right (by omega) (by omega)
          have h4 : (2 : Nat) ^ (hi - lo).toNat ≤ 2 ^ 20 := Nat.pow_le_pow_right (by omega) (by omega)
          have h5 := flatMap_take_len (fun n => (rowsL hi m (n + 1)).map (n :: ·)) (rangeL lo hi) k
          rw [hZ] at h5
          simp only [rowsL] at h2
          omega⟩
        have HW : Sid (Ext No w w1) := ⟨HX.out.trans HX1.out⟩
        have HOZ : Sid (OwnRows (fun k => w.heap.size ≤ k) w.heap.size w1 u7 Z) := ⟨by rw [← hZ]; exact HO.out.no HX1.out⟩
        have HB0 : Sid (∀ k, u7.ownBlock = some k → k < wo.heap.size) := ⟨fun k hk => (HO.out.ge k hk).2⟩
        have HZ := Sid.mk hZ
        clear hZ
        go_loopw [7, 28] (fun v i ws => ∃ (j : Nat), j ≤ (rowsL hi m (x + 1)).length ∧ i = .int .i64 j ∧ Sid (OwnRows (fun k => w.heap.size ≤ k) w.heap.size ws v (Z ++ ((rowsL hi m (x + 1)).take j).map (x :: ·))) ∧ Sid (Ext No w ws) ∧ Sid (Ext (fun k => k < wo.heap.size) w1 ws) ∧ Sid (∀ k, v.ownBlock = some k → k < wo.heap.size ∨ w1.heap.size ≤ k)) (fun _ i _ => (rowsL hi m (x + 1)).length - (intOf i).toNat)
        case atStart => exact ⟨0, by omega, rfl, ⟨by simpa using HOZ.out⟩, HW, ⟨Ext.refl _ _⟩, ⟨fun k hk => .inl (HB0.out k hk)⟩⟩
        case round =>
          clear HO HX HOZ HW
          obtain ⟨j, hj, rfl, HO, HX, HY, HB⟩ := hrel
          by_cases hjt : j < (rowsL hi m (x + 1)).length
          · obtain ⟨b, off, A', c', r, rfl, hPb, hcell0, HR', HI'⟩ := HAT.out j hjt
            have hcell := HY.out.cell (by simp; omega) hcell0
            clear hcell0
            have HI : Sid (IntsR .i64 (fun k => wo.heap.size ≤ k) wr (.slice A' r.length c') r) := ⟨HI'.out.ext HY.out (fun k hk hlt => by omega)⟩
            have hrl : r.length ≤ 1000 := by
              have := rowsL_row_len hi m (x + 1) r (List.mem_of_getElem? HR'.out); omega
            have HRL := Sid.mk hrl
            clear hrl
            have HSZ : Sid (w.heap.size ≤ wr.heap.size) := ⟨HX.out.size⟩
            cases A' with
            | none =>
              obtain ⟨_, rfl, rfl⟩ := RowR.none HI.out
              obtain ⟨i0, hi0⟩ := i3
              have HI0 := Sid.mk hi0
              clear hi0
              have HX2 : Sid (Ext No wr (wr.alloc (.cells #[.int .i64 x] 3))) := ⟨ext_box _⟩
              have HO2 := Sid.mk (Own.lit1 wr wr.heap.size 3 (.int .i64 x) (Nat.le_refl _))
              simp only [List.length_nil] at hcell
              go_wp2_with (first | (at_builtin; refine wpList_append_own_none rfl (.tmp 34) (.tmp 35) 28 rfl wr.heap.size 3 i0 1 Tryd.underlying28 HI0.out _ 1 [.int .i64 x] rfl (Own.lit1 wr _ _ _ (Nat.le_refl _)) rfl ?_) | (at_builtin; refine appRow w.heap.size rfl (.tmp 32) (.tmp 37) 22 rfl Tryd.underlying22 info28 _ _ _ [x] rfl rfl (by simp) (HO.out.no HX2.out) ?c1 ?c2 ?c3 ?_; (case c1 => exact ints_own (xs := [x]) HO2.out (by simp) (fun k hk => by have h1 := (HO2.out.ge k hk).1; have h2 := HSZ.out; exact ⟨by omega, fun he => by have := (HO.out.ge k he.symm).2; omega⟩)); (case c2 => exact Nat.le_trans HSZ.out HX2.out.size); (case c3 => have := HZL.out; simp; omega); intro v3 w3 ho3 hx3 hb3 hs3; have HO3 := Sid.mk ho3; have HX3 := Sid.mk hx3; have HB3 := Sid.mk hb3; have HS3 := Sid.mk hs3; clear ho3 hx3 hb3 hs3))
              go_roundw
              case rel => exact ⟨j+1, by omega, by go_num, ⟨by
                  rw [take_map_succ HR'.out, ← List.append_assoc]; exact HO3.out⟩, ⟨(HO.out.no HX2.out).step (HX.out.trans HX2.out) HX3.out⟩, ⟨(HY.out.step HX2.out (fun _ _ h => h.elim)).step HX3.out (fun i hi he => by
                    rcases HB.out i he.symm with h | h
                    · exact h
                    · omega)⟩, ⟨fun k hk => by
                    rcases HB3.out with h | ⟨b, h, hb⟩
                    · exact HB.out k (h.symm.trans hk)
                    · have hk' := h.symm.trans hk; cases hk'; right; have h1 := HX2.out.size; have h2 := HY.out.size; omega⟩⟩
              case measure => simp [intOf]; omega
            | some ad =>
              go_wp2_with (first | (at_builtin; refine appN wr.heap.size rfl (.tmp 34) (.tmp 35) 28 3 (.int .i64 0) 8 rfl Tryd.underlying28 info3 rfl (by decide) _ 1 [.int .i64 x] ad r.length c' (r.map (.int .i64)) rfl rfl (by simp) ((HI.out.no (ext_box _)).news) (ones_int _ _) (Own.lit1 wr _ _ _ (Nat.le_refl _)) (by simp) (by have := HRL.out; omega) ?_; intro v2 w2 ho2 hx2 hb2 hs2; obtain ⟨A2, c2, rfl⟩ := hs2; have HO2 := Sid.mk ho2; have HX2 := Sid.mk ((Own.lit1 wr wr.heap.size 3 (.int .i64 x) (Nat.le_refl _)).step (ext_box _) hx2); clear ho2 hx2 hb2) | (at_builtin; refine appRow w.heap.size rfl (.tmp 32) (.tmp 37) 22 rfl Tryd.underlying22 info28 _ _ _ (x :: r) rfl rfl (by simp) (HO.out.no HX2.out) ?c1 ?c2 ?c3 ?_; (case c1 => exact ints_own HO2.out (by have := HRL.out; simp; omega) (fun k hk => by have h1 := (HO2.out.ge k hk).1; have h2 := HSZ.out; exact ⟨by omega, fun he => by have := (HO.out.ge k he.symm).2; omega⟩)); (case c2 => exact Nat.le_trans HSZ.out HX2.out.size); (case c3 => have := HZL.out; simp; omega); intro v3 w3 ho3 hx3 hb3 hs3; have HO3 := Sid.mk ho3; have HX3 := Sid.mk hx3; have HB3 := Sid.mk hb3; have HS3 := Sid.mk hs3; clear ho3 hx3 hb3 hs3))
              go_roundw
              case rel => exact ⟨j+1, by omega, by go_num, ⟨by
                  rw [take_map_succ HR'.out, ← List.append_assoc]; exact HO3.out⟩, ⟨(HO.out.no HX2.out).step (HX.out.trans HX2.out) HX3.out⟩, ⟨(HY.out.step HX2.out (fun _ _ h => h.elim)).step HX3.out (fun i hi he => by
                    rcases HB.out i he.symm with h | h
                    · exact h
                    · omega)⟩, ⟨fun k hk => by
                    rcases HB3.out with h | ⟨b, h, hb⟩
                    · exact HB.out k (h.symm.trans hk)
                    · have hk' := h.symm.trans hk; cases hk'; right; have h1 := HX2.out.size; have h2 := HY.out.size; omega⟩⟩
              case measure => simp [intOf]; omega
          · go_wp2
            go_roundw
            case rel => exact ⟨k+1, x+1, rfl, by omega, by omega, ⟨by have := HXK.out; omega⟩, ⟨by
              have h1 := HO.out
              rw [List.take_of_length_le (by omega)] at h1
              rw [take_flatMap_succ HR.out, HZ.out, ← HXK.out]; exact h1⟩, HX⟩
            case measure => simp [intOf]; omega
      · go_wp2
        go_ret
        have h1 := HO.out
        have h2 := HXK.out
        rw [List.take_of_length_le (by rw [rangeL_len]; omega)] at h1
        have h3 := rowsL_len hi (m + 1) lo
        have h4 : (2 : Nat) ^ (hi - lo).toNat ≤ 2 ^ 20 := Nat.pow_le_pow_right (by omega) (by omega)
        simp only [rowsL] at h3
        exact ⟨_, rfl, h1.rows (by omega) (fun k hk => (h1.ge k hk).1) (fun k hk => hk), HX.out⟩
end Go.Proofs.YtceiaekkfabeaaaDoor
