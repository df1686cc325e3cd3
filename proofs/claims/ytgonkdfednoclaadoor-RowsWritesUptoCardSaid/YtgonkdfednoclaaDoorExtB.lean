/- Contracts of utf.First, utf.walk (at Printable) and utf.Check in the printer's form, over unicode/utf8's two tables as laid. -/
import Derived.Test.YtgonkdfednoclaaDoorPRowsx0
import Derived.Test.YtgonkdfednoclaaDoorPRowsx3
import Derived.Test.YtgonkdfednoclaaDoorShelf
namespace Go.Proofs.YtgonkdfednoclaaDoor.PRows
open Go.RowKit Go.Proofs.YtgonkdfednoclaaDoorW.PrintWords

/-- The two tables of unicode/utf8 lie in the world as their initialisers lay them. -/
def XTab (w : World) : Prop := Lib.Utf8Tabs 1 2 w
theorem xtab_below {w w' : World} (h : XTab w) (hb : Below w.heap.size w w') : XTab w' :=
  ⟨fun c hc => (hb.cell (World.block_lt_of_cell? w _ (h.1 c hc))).trans (h.1 c hc), fun i hi => ⟨(hb.cell (World.block_lt_of_cell? w _ (h.2 i hi).1)).trans (h.2 i hi).1, (hb.cell (World.block_lt_of_cell? w _ (h.2 i hi).2)).trans (h.2 i hi).2⟩⟩
theorem xtab_drewN {w : World} (h : XTab w) (n : Nat) : XTab (w.drewN n) := h

/-- What utf.First hands back: the sign, or -1; how many bytes. -/
def firstU (s : ByteArray) : Int × Int :=
  if (Lib.decodeGo s).1 = 65533 ∧ (Lib.decodeGo s).2 < 3 then (-1, (Lib.decodeGo s).2) else ((Lib.decodeGo s).1, (Lib.decodeGo s).2)
theorem decodeGo_top (s : ByteArray) : (Lib.decodeGo s).1 ≤ 1114111 := by
  unfold Lib.decodeGo
  split
  · decide
  · rw [Lib.decode_at]
    have := (s.get! 0).toNat_lt
    unfold Lib.decodeN
    repeat' split
    all_goals (simp only []; omega)
theorem decodeGo_pos (s : ByteArray) (h : 0 < s.size) : 1 ≤ (Lib.decodeGo s).2 := by
  unfold Lib.decodeGo
  rw [if_neg (by omega), Lib.decode_at]
  unfold Lib.decodeN
  repeat' split
  all_goals (simp only []; omega)
theorem decodeGo_size (s : ByteArray) : (Lib.decodeGo s).2 ≤ s.size := by
  unfold Lib.decodeGo
  by_cases h : s.size = 0
  · rw [if_pos h]; exact Nat.zero_le _
  · rw [if_neg h, Lib.decode_at]
    unfold Lib.decodeN
    repeat' split
    all_goals (simp only []; omega)
theorem firstU_calls (s : ByteArray) (w : World) (hT : XTab w) :
    Calls Tryd.prog 54 #[.string s] w fun e w' => e = .returned (.tuple #[.int .i64 (firstU s).1, .int .i64 (firstU s).2]) ∧ Below w.heap.size w w' := by
  have c := Tryd.utf8_DecodeRuneInString s w hT
  have htop := decodeGo_top s
  unfold firstU
  clear hT
  obtain ⟨R, hR⟩ : ∃ R, (Lib.decodeGo s).1 = R := ⟨_, rfl⟩
  obtain ⟨K, hK⟩ : ∃ K, (Lib.decodeGo s).2 = K := ⟨_, rfl⟩
  rw [hR] at htop
  rw [hR, hK] at c ⊢
  clear hR hK
  by_cases h1 : R = 65533
  · subst h1
    by_cases h2 : K < 3
    · have d2 : decide ((K : Int) < 3) = true := decide_eq_true (by omega)
      rw [if_pos ⟨rfl, h2⟩]
      go_enter Tryd.func54, Tryd.ntmps54
      go_wp2_with (go_at_call 57; refine c.mono ?_; rintro e w' ⟨rfl, hb⟩)
      go_ret2
      exact ⟨rfl, hb⟩
    · have d2 : decide ((K : Int) < 3) = false := decide_eq_false (by omega)
      rw [if_neg (fun h => h2 h.2)]
      go_enter Tryd.func54, Tryd.ntmps54
      go_wp2_with (go_at_call 57; refine c.mono ?_; rintro e w' ⟨rfl, hb⟩)
      go_ret2
      exact ⟨rfl, hb⟩
  · have d1 : ((R : Int) == 65533) = false := beq_eq_false_iff_ne.mpr (by omega)
    rw [if_neg (fun h => h1 h.1)]
    go_enter Tryd.func54, Tryd.ntmps54
    go_wp2_with (go_at_call 57; refine c.mono ?_; rintro e w' ⟨rfl, hb⟩)
    go_ret2
    exact ⟨rfl, hb⟩

/-- May a sign be printed? -/
def printableU (x : Int) : Bool := (utf_Printable.f x).getD false
theorem printable_f (x : Int) : utf_Printable.f x = some (printableU x) := by
  unfold printableU utf_Printable.f
  repeat' split
  all_goals rfl

theorem firstU_range (s : ByteArray) (h : 0 < s.size) : 1 ≤ (firstU s).2 ∧ (firstU s).2 ≤ s.size := by
  have h1 := decodeGo_pos s h
  have h2 := decodeGo_size s
  unfold firstU
  split <;> (simp only []; omega)

/-- utf.walk over printable signs, from a place on, by at most so many rounds. -/
def walkU (s : ByteArray) : Nat → Nat → Nat
  | 0, at_ => at_
  | k + 1, at_ => if at_ < s.size then (if printableU (firstU (s.extract at_ s.size)).1 = true then walkU s k (at_ + (firstU (s.extract at_ s.size)).2.toNat) else at_) else at_

set_option maxHeartbeats 1000000 in
theorem walkU_calls (s : ByteArray) (w : World) (hT : XTab w) (hs : s.size ≤ 9223372036854775807) :
    Calls Tryd.prog 36 #[.string s, .func (.func 37) #[] #[]] w fun e w' => e = .returned (.int .i64 (walkU s (s.size + 1) 0)) ∧ Below w.heap.size w w' := by
  obtain ⟨r, hr⟩ : ∃ r, walkU s (s.size + 1) 0 = r := ⟨_, rfl⟩
  have HR := Aside0.mk hr
  have HT := Aside0.mk hT
  rw [hr]
  clear hr hT
  go_enter Tryd.func36, Tryd.ntmps36
  go_wp2
  go_loopg [5] (s.size + 1) (fun k v wr => ∃ a : Nat, v = .int .i64 a ∧ a ≤ s.size ∧ Aside0 (s.size < a + k) ∧ Aside0 (walkU s k a = r) ∧ Aside0 (Below w.heap.size w wr))
  case atStart => exact ⟨0, rfl, by omega, ⟨by omega⟩, HR, ⟨Below.refl _ _⟩⟩
  case round =>
    clear HR
    obtain ⟨a, rfl, ha, HK, HA, HB⟩ := hrel
    cases gk with
    | zero => exact absurd HK.out (by omega)
    | succ k1 =>
    by_cases hlt : a < s.size
    · have c54 := firstU_calls (s.extract a s.size) wr (xtab_below HT.out HB.out)
      have hrg := firstU_range (s.extract a s.size) (by simp; omega)
      have H := HA.out
      simp only [walkU] at H
      rw [if_pos hlt] at H
      clear HA
      have hsz : (s.extract a s.size).size = s.size - a := by simp
      rw [hsz] at hrg
      clear hsz
      obtain ⟨X, hX⟩ : ∃ X, (firstU (s.extract a s.size)).1 = X := ⟨_, rfl⟩
      obtain ⟨n, hn⟩ : ∃ n : Nat, (firstU (s.extract a s.size)).2 = n := ⟨(firstU (s.extract a s.size)).2.toNat, by omega⟩
      rw [hX, hn] at H
      rw [hn] at hrg
      rw [hX, hn] at c54
      clear hX hn
      have n1 : 1 ≤ n := by omega
      have n2 : a + n ≤ s.size := by omega
      clear hrg
      rw [show ((n : Nat) : Int).toNat = n from rfl] at H
      have C37 := fun W => utf_Printable.calls X (printableU X) W (printable_f X)
      cases hp : printableU X with
      | true =>
        rw [hp] at H C37
        have H' := Aside0.mk H
        clear H hp
        go_wp2_with (first | (go_at_call 54; refine c54.mono ?_; rintro e w1 ⟨rfl, hb⟩) | (go_at_call 37; refine (C37 _).mono ?_; rintro e w2 ⟨rfl, ⟨nd, rfl⟩⟩))
        go_roundg k1
        case measure => omega
        case rel => exact ⟨a + n, by go_num, n2, ⟨by have := HK.out; omega⟩, ⟨by have := H'.out; simpa using this⟩, ⟨pw_below_drewN (below_then HB.out HB.out.size hb) _⟩⟩
      | false =>
        rw [hp] at H C37
        have H' := Aside0.mk H
        clear H hp
        go_wp2_with (first | (go_at_call 54; refine c54.mono ?_; rintro e w1 ⟨rfl, hb⟩) | (go_at_call 37; refine (C37 _).mono ?_; rintro e w2 ⟨rfl, ⟨nd, rfl⟩⟩))
        go_ret
        obtain rfl : a = r := by have := H'.out; simpa using this
        exact ⟨rfl, pw_below_drewN (below_then HB.out HB.out.size hb) _⟩
    · have H := HA.out
      simp only [walkU] at H
      rw [if_neg hlt] at H
      have H' := Aside0.mk H
      clear H
      go_wp2
      go_ret
      obtain rfl : a = r := H'.out
      exact ⟨rfl, HB.out⟩

/-- utf.Check. -/
def utf_Check.f (a0 : ByteArray) : Option (Int × Int) := if a0.size ≤ 9223372036854775807 then (if walkU a0 (a0.size + 1) 0 < a0.size then some (8, (walkU a0 (a0.size + 1) 0 : Int)) else some (0, 0)) else none
theorem utf_Check.calls (a0 : ByteArray) (r1 : Int) (r2 : Int) (w : World) (hT : XTab w) (h : utf_Check.f a0 = some (r1, r2)) :
    Calls Tryd.prog 19 #[.string a0] w fun e w' => e = .returned (.agg #[.int .i64 r1, .int .i64 r2]) ∧ Below w.heap.size w w' := by
  unfold utf_Check.f at h
  by_cases hs : a0.size ≤ 9223372036854775807
  · rw [if_pos hs] at h
    have c36 := fun W hb => walkU_calls a0 W (xtab_below hT hb) hs
    obtain ⟨n, hn⟩ : ∃ n, walkU a0 (a0.size + 1) 0 = n := ⟨_, rfl⟩
    rw [hn] at h c36
    have c35 := fun W => utf_fault.calls a0 n r1 r2 W (by
      unfold utf_fault.f
      by_cases hl : n < a0.size
      · rw [if_pos hl] at h; rw [if_pos (by omega)]; exact h
      · rw [if_neg hl] at h; rw [if_neg (by omega)]; exact h)
    clear h hn hT
    have hu26 := Tryd.underlying26
    go_enter Tryd.func19, Tryd.ntmps19
    go_wp2_with fail
    obtain ⟨W, hW⟩ : ∃ W, w.alloc (Obj.cells #[Value.int IntKind.i64 0, Value.int IntKind.i64 0] 26) = W := ⟨_, rfl⟩
    have hblk : W.heap[w.heap.size]? = some (.cells #[.int .i64 0, .int .i64 0] 26 (0, 0)) := hW ▸ blk_new w _
    have hB : Below w.heap.size w W := hW ▸ (Below.refl _ w).alloc (Nat.le_refl _) _
    rw [hW]
    clear hW
    refine (c36 W hB).mono ?_
    rintro e w1 ⟨rfl, hb⟩
    have hblk1 := blk_below hblk hb
    have hB1 := below_then hB hB.size hb
    clear hblk hB hb c36
    go_wp2_with fail
    refine (c35 w1).mono ?_
    rintro e w2 ⟨rfl, hb⟩
    have hblk2 := blk_below hblk1 hb
    have hB2 := below_then hB1 hB1.size hb
    clear hblk1 hB1 hb c35
    have c0 : w2.cell? ⟨w.heap.size, 0, none⟩ = some (.int .i64 0) := blk_cell hblk2 0
    have c1 : w2.cell? ⟨w.heap.size, 1, none⟩ = some (.int .i64 0) := blk_cell hblk2 1
    have f0 : w2.frozen? ⟨w.heap.size, 0, none⟩ = false := blk_frozen hblk2 0
    have f1 : w2.frozen? ⟨w.heap.size, 1, none⟩ = false := blk_frozen hblk2 1
    go_wp2
    refine bodyPost_ret (results_cell_row rfl _ _ w.heap.size 26 #[.int .i64 r1, .int .i64 r2] (0, 0) _ rfl (blk_set (blk_set hblk2 0 _) 1 _) Tryd.underlying26 rfl (by kernel_rfl)) rfl ?_
    exact ⟨rfl, (hB2.setCell (Nat.le_refl _) _).setCell (Nat.le_refl _) _⟩
  · rw [if_neg hs] at h; cases h
end Go.Proofs.YtgonkdfednoclaaDoor.PRows
