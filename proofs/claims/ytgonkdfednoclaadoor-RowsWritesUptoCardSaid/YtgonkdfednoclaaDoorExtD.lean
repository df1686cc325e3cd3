/- Contract of rows.Below in the printer's form: slices.IndexFunc with its closure, and the loop behind it, walked by hand. -/
import Derived.Test.YtgonkdfednoclaaDoorPRowsx0
import Derived.Test.YtgonkdfednoclaaDoorPRowsx3
namespace Go.Proofs.YtgonkdfednoclaaDoor.PRows
open Go.RowKit Go.Proofs.YtgonkdfednoclaaDoorW.PrintWords

theorem toList_nil {s : ByteArray} (h : s.size = 0) : s.toList = ([] : List UInt8) := by
  rw [show s.toList = s.data.toList from ByteArray.toList_eq s]
  exact List.eq_nil_of_length_eq_zero (by rw [Array.length_toList]; exact h)
/-- Does a row say nothing? -/
def emptyU (x : S31) : Bool := (rows_isEmpty.f x.f0 x.f1 x.f2).getD false
theorem isEmpty_f (x : S31) : rows_isEmpty.f x.f0 x.f1 x.f2 = some (emptyU x) := by
  unfold emptyU rows_isEmpty.f
  by_cases h1 : x.f1.toList = ([] : List UInt8)
  · rw [if_pos h1]; rfl
  · rw [if_neg h1]
    have h2 : (0 : Int) < (x.f1.size : Int) := by
      rcases Nat.eq_zero_or_pos x.f1.size with h | h
      · exact absurd (toList_nil h) h1
      · omega
    rw [if_pos h2]; rfl

/-- The closure's test. -/
def hitU (col : Int) (x : S31) : Bool := !emptyU x && decide (x.f0 ≤ col)

set_option maxHeartbeats 1000000 in
theorem below1_calls (x : S31) (col : Int) (B : Nat) (w : World) (hc : w.cell? ⟨B, 0, none⟩ = some (.int .i64 col)) :
    Calls Tryd.prog 26 #[.agg #[.int .i64 x.f0, .string x.f1, .int .i64 x.f2], .pointer (some ⟨B, 0, none⟩)] w fun e w' => e = .returned (.bool (hitU col x)) ∧ Below w.heap.size w w' := by
  have hB : B < w.heap.size := World.block_lt_of_cell? w _ hc
  have c27 := fun W => rows_isEmpty.calls x.f0 x.f1 x.f2 (emptyU x) W (isEmpty_f x)
  obtain ⟨f0, f1, f2⟩ := x
  unfold hitU
  dsimp only at c27 ⊢
  have hw := blk_new w (.cells #[.int .i64 f0, .string f1, .int .i64 f2] 31)
  have hB0 : Below w.heap.size w (w.alloc (.cells #[.int .i64 f0, .string f1, .int .i64 f2] 31)) := (Below.refl _ w).alloc (Nat.le_refl _) _
  have hcB := (hB0.cell (p := ⟨B, 0, none⟩) hB).trans hc
  have HW := Aside0.mk hw
  have HB0 := Aside0.mk hB0
  have HCB := Aside0.mk hcB
  clear hw hB0 hcB hc
  cases he : emptyU ⟨f0, f1, f2⟩ with
  | true =>
    rw [he] at c27
    go_enter Tryd.func26, Tryd.ntmps26
    go_wp2_with (go_at_call 27; refine (c27 _).mono ?_; rintro e w2 ⟨rfl, hb⟩)
    go_ret
    exact ⟨rfl, below_then HB0.out HB0.out.size hb⟩
  | false =>
    rw [he] at c27
    clear he
    go_enter Tryd.func26, Tryd.ntmps26
    go_wp2_with (go_at_call 27; refine (c27 _).mono ?_; rintro e w2 ⟨rfl, hb⟩; have hk2 := blk_below HW.out hb; have h0 := blk_cell hk2 0; have h1 := pw_cell_below hb HCB.out; simp only [List.getElem?_toArray, List.getElem?_cons_zero] at h0; clear hk2)
    all_goals
      go_ret
      exact ⟨by simp_all, below_then HB0.out HB0.out.size hb⟩

/-- From place i on, by at most so many rounds: the first row that is met; -1: none. -/
def idxU (l : List S31) (col : Int) : Nat → Nat → Int
  | 0, _ => -1
  | k + 1, i => if i < l.length then (if hitU col (rd_T31 l i) = true then i else idxU l col k (i + 1)) else -1

set_option maxHeartbeats 2000000 in
theorem indexFunc_calls (A0 : Option Addr) (c0 : Nat) (l0 : List S31) (col : Int) (B : Nat) (w : World) (hr : Kd.C k31 w A0 l0.length l0) (hl : l0.length ≤ 4611686018427387904) (hc : w.cell? ⟨B, 0, none⟩ = some (.int .i64 col)) :
    Calls Tryd.prog 25 #[.slice A0 l0.length c0, .func (.func 26) #[] #[.pointer (some ⟨B, 0, none⟩)]] w fun e w' => e = .returned (.int .i64 (idxU l0 col (l0.length + 1) 0)) ∧ Below w.heap.size w w' := by
  obtain ⟨r, hrr⟩ : ∃ r, idxU l0 col (l0.length + 1) 0 = r := ⟨_, rfl⟩
  rw [hrr]
  have HR := Aside0.mk hr
  have HC := Aside0.mk hc
  have H0 := Aside0.mk hrr
  clear hr hc hrr
  go_enter Tryd.func25, Tryd.ntmps25
  go_wp2
  go_loopg [8] (l0.length + 1) (fun k v8 w' => ∃ i : Nat, v8 = .int .i64 i ∧ i ≤ l0.length ∧ Aside0 (l0.length < i + k) ∧ Aside0 (idxU l0 col k i = r) ∧ Aside0 (Below w.heap.size w w'))
  case atStart => exact ⟨0, rfl, by omega, ⟨by omega⟩, H0, ⟨Below.refl _ _⟩⟩
  case round =>
    clear H0
    obtain ⟨i, rfl, hi, HK, HA, HB⟩ := hrel
    cases gk with
    | zero => exact absurd HK.out (by omega)
    | succ k1 =>
    have H := HA.out
    simp only [idxU] at H
    clear HA
    by_cases hlt : i < l0.length
    · rw [if_pos hlt] at H
      obtain ⟨ad, rfl, hx0, hx1, hx2⟩ := at_T31 HR.out (i : Int) (by omega) (by omega)
      have c26 := fun W hW => below1_calls (rd_T31 l0 i) col B W hW
      have hBw := World.block_lt_of_cell? w _ HC.out
      have hcB := (HB.out.cell (p := ⟨B, 0, none⟩) hBw).trans HC.out
      have C26 := c26 wr hcB
      clear c26 hBw hcB
      replace hx0 := (HB.out.cell (World.block_lt_of_cell? w _ hx0)).trans hx0
      replace hx1 := (HB.out.cell (World.block_lt_of_cell? w _ hx1)).trans hx1
      replace hx2 := (HB.out.cell (World.block_lt_of_cell? w _ hx2)).trans hx2
      rw [Int.toNat_natCast] at hx0 hx1 hx2
      have hi64 : (i : Int) < 4611686018427387904 := by omega
      cases hh : hitU col (rd_T31 l0 i) with
      | true =>
        rw [hh] at H C26
        rw [if_pos rfl] at H
        clear hh
        obtain rfl := H
        go_wp2_with (go_at_call 26; refine C26.mono ?_; rintro e w2 ⟨rfl, hb⟩)
        go_ret
        exact ⟨rfl, below_then HB.out HB.out.size hb⟩
      | false =>
        rw [hh] at H C26
        rw [if_neg (by decide)] at H
        have H' := Aside0.mk H
        clear hh H
        go_wp2_with (go_at_call 26; refine C26.mono ?_; rintro e w2 ⟨rfl, hb⟩)
        go_roundg k1
        case measure => omega
        case rel => exact ⟨i + 1, by go_num, by omega, ⟨by have := HK.out; omega⟩, H', ⟨below_then HB.out HB.out.size hb⟩⟩
    · rw [if_neg hlt] at H
      obtain rfl := H
      go_wp2
      go_ret
      exact ⟨rfl, HB.out⟩

/-- The empty rows at the end of the first n are left out. -/
def stripU (l : List S31) : Nat → Nat
  | 0 => 0
  | n + 1 => if emptyU (rd_T31 l n) = true then stripU l n else n + 1
theorem idxU_le (l : List S31) (col : Int) : ∀ k i, idxU l col k i ≤ l.length ∧ -1 ≤ idxU l col k i
  | 0, _ => by simp only [idxU]; omega
  | k + 1, i => by
    simp only [idxU]
    split
    · split
      · omega
      · exact idxU_le l col k (i + 1)
    · omega
/-- How many rows lie below. -/
def belowU (l : List S31) (col : Int) : Nat := stripU l (if idxU l col (l.length + 1) 0 < 0 then l.length else (idxU l col (l.length + 1) 0).toNat)
theorem stripU_le (l : List S31) : ∀ n, stripU l n ≤ n
  | 0 => Nat.le_refl _
  | n + 1 => by
    simp only [stripU]
    split
    · have := stripU_le l n; omega
    · omega

def rows_Below.f (l0 : List S31) (a1 : Int) : Option Int := if l0.length ≤ 4611686018427387904 then some (belowU l0 a1 : Int) else none
set_option maxHeartbeats 2000000 in
theorem rows_Below.calls (A0 : Option Addr) (c0 : Nat) (l0 : List S31) (a1 : Int) (r : Int) (w : World) (hr0 : Kd.C k31 w A0 l0.length l0) (_hc0 : l0.length ≤ c0) (h : rows_Below.f l0 a1 = some r) :
    Calls Tryd.prog 10 #[.slice A0 l0.length c0, .int .i64 a1] w fun e w' => e = .returned (.int .i64 r) ∧ Below w.heap.size w w' := by
  unfold rows_Below.f at h
  by_cases hl : l0.length ≤ 4611686018427387904
  · rw [if_pos hl] at h
    obtain rfl := Option.some.inj h
    clear h
    have hw := blk_new w (.cells #[.int .i64 a1] 3)
    have hB0 : Below w.heap.size w (w.alloc (.cells #[.int .i64 a1] 3)) := (Below.refl _ w).alloc (Nat.le_refl _) _
    have c25 := indexFunc_calls A0 c0 l0 a1 w.heap.size _ (Kd.C_below hr0 hB0) hl (blk_cell hw 0)
    obtain ⟨hi1, hi2⟩ := idxU_le l0 a1 (l0.length + 1) 0
    unfold belowU
    obtain ⟨i, hi⟩ : ∃ i, idxU l0 a1 (l0.length + 1) 0 = i := ⟨_, rfl⟩
    rw [hi] at c25 hi1 hi2 ⊢
    clear hi hw
    obtain ⟨n, hn⟩ : ∃ n, (if i < 0 then l0.length else i.toNat) = n := ⟨_, rfl⟩
    obtain ⟨r, hr⟩ : ∃ r, stripU l0 n = r := ⟨_, rfl⟩
    rw [hn, hr]
    have HR := Aside0.mk hr
    have HC := Aside0.mk hr0
    have HB0 := Aside0.mk hB0
    have HN := Aside0.mk hn
    clear hn hr hr0 hB0
    have C27 := fun (x : S31) W => rows_isEmpty.calls x.f0 x.f1 x.f2 (emptyU x) W (isEmpty_f x)
    have Hc27 := Aside0.mk C27
    clear C27
    by_cases hneg : i < 0
    · have dneg : decide (i < 0) = true := decide_eq_true hneg
      obtain rfl : l0.length = n := by have := HN.out; rwa [if_pos hneg] at this
      clear hneg hi1 hi2 HN
      go_enter Tryd.func10, Tryd.ntmps10
      go_wp2_with (go_at_call 25; refine c25.mono ?_; rintro e w1 ⟨rfl, hb⟩)
      have HBW := Aside0.mk (below_then HB0.out HB0.out.size hb)
      clear hb HB0 c25
      go_loopg [5] l0.length (fun k v5 w' => ∃ m : Nat, v5 = .int .i64 m ∧ m ≤ l0.length ∧ Aside0 (m = k) ∧ Aside0 (stripU l0 m = r) ∧ Aside0 (Below w.heap.size w w'))
      case atStart => exact ⟨l0.length, rfl, Nat.le_refl _, ⟨rfl⟩, HR, HBW⟩
      case round =>
        clear HR HBW
        obtain ⟨m, rfl, hm, HK, HA, HB⟩ := hrel
        obtain rfl := HK.out
        clear HK
        have H := HA.out
        clear HA
        cases m with
        | zero =>
          simp only [stripU] at H
          obtain rfl := H
          go_wp2
          go_ret
          exact ⟨rfl, HB.out⟩
        | succ m =>
          simp only [stripU] at H
          obtain ⟨ad, hade, hx0, hx1, hx2⟩ := at_T31 HC.out (m : Int) (by omega) (by omega)
          subst hade
          replace hx0 := (HB.out.cell (World.block_lt_of_cell? w _ hx0)).trans hx0
          replace hx1 := (HB.out.cell (World.block_lt_of_cell? w _ hx1)).trans hx1
          replace hx2 := (HB.out.cell (World.block_lt_of_cell? w _ hx2)).trans hx2
          rw [Int.toNat_natCast] at hx0 hx1 hx2
          have c27 := Hc27.out (rd_T31 l0 m)
          cases hh : emptyU (rd_T31 l0 m) with
          | true =>
            rw [hh] at H c27
            rw [if_pos rfl] at H
            have H' := Aside0.mk H
            clear hh H
            go_wp2_with (go_at_call 27; refine (c27 _).mono ?_; rintro e w2 ⟨rfl, hb⟩)
            go_roundg m
            case measure => omega
            case rel => exact ⟨m, rfl, by omega, ⟨rfl⟩, H', ⟨below_then HB.out HB.out.size hb⟩⟩
          | false =>
            rw [hh] at H c27
            rw [if_neg (by decide)] at H
            obtain rfl := H
            clear hh
            go_wp2_with (go_at_call 27; refine (c27 _).mono ?_; rintro e w2 ⟨rfl, hb⟩)
            go_ret
            exact ⟨rfl, below_then HB.out HB.out.size hb⟩
    · have dneg : decide (i < 0) = false := decide_eq_false hneg
      obtain ⟨n', rfl⟩ : ∃ n' : Nat, i = n' := ⟨i.toNat, by omega⟩
      obtain rfl : n' = n := by have := HN.out; rw [if_neg hneg] at this; simpa using this
      have hle : n' ≤ l0.length := by omega
      clear hneg hi1 hi2 HN
      go_enter Tryd.func10, Tryd.ntmps10
      go_wp2_with (go_at_call 25; refine c25.mono ?_; rintro e w1 ⟨rfl, hb⟩)
      have HBW := Aside0.mk (below_then HB0.out HB0.out.size hb)
      clear hb HB0 c25
      go_loopg [5] n' (fun k v5 w' => ∃ m : Nat, v5 = .int .i64 m ∧ m ≤ l0.length ∧ Aside0 (m = k) ∧ Aside0 (stripU l0 m = r) ∧ Aside0 (Below w.heap.size w w'))
      case atStart => exact ⟨n', rfl, hle, ⟨rfl⟩, HR, HBW⟩
      case round =>
        clear HR HBW
        obtain ⟨m, rfl, hm, HK, HA, HB⟩ := hrel
        obtain rfl := HK.out
        clear HK
        have H := HA.out
        clear HA
        cases m with
        | zero =>
          simp only [stripU] at H
          obtain rfl := H
          go_wp2
          go_ret
          exact ⟨rfl, HB.out⟩
        | succ m =>
          simp only [stripU] at H
          obtain ⟨ad, hade, hx0, hx1, hx2⟩ := at_T31 HC.out (m : Int) (by omega) (by omega)
          subst hade
          replace hx0 := (HB.out.cell (World.block_lt_of_cell? w _ hx0)).trans hx0
          replace hx1 := (HB.out.cell (World.block_lt_of_cell? w _ hx1)).trans hx1
          replace hx2 := (HB.out.cell (World.block_lt_of_cell? w _ hx2)).trans hx2
          rw [Int.toNat_natCast] at hx0 hx1 hx2
          have c27 := Hc27.out (rd_T31 l0 m)
          cases hh : emptyU (rd_T31 l0 m) with
          | true =>
            rw [hh] at H c27
            rw [if_pos rfl] at H
            have H' := Aside0.mk H
            clear hh H
            go_wp2_with (go_at_call 27; refine (c27 _).mono ?_; rintro e w2 ⟨rfl, hb⟩)
            go_roundg m
            case measure => omega
            case rel => exact ⟨m, rfl, by omega, ⟨rfl⟩, H', ⟨below_then HB.out HB.out.size hb⟩⟩
          | false =>
            rw [hh] at H c27
            rw [if_neg (by decide)] at H
            obtain rfl := H
            clear hh
            go_wp2_with (go_at_call 27; refine (c27 _).mono ?_; rintro e w2 ⟨rfl, hb⟩)
            go_ret
            exact ⟨rfl, below_then HB.out HB.out.size hb⟩
  · rw [if_neg hl] at h; cases h
end Go.Proofs.YtgonkdfednoclaaDoor.PRows
