/- Contract of rows.Lines in the printer's form: a range over strings.Lines, whose iterator keeps what is left in a variable of its own. -/
import Derived.Test.YtgonkdfednoclaaDoorPRowsx0
import Derived.Test.YtgonkdfednoclaaDoorShelf
import Derived.Test.YtgonkdfednoclaaDoorExtF
import Derived.Lib.IndexLaws
import Derived.RangeFuncBox
import Derived.Maps.AppendAt
import Derived.RangeFuncNested
import Derived.RangeFuncBound
import Derived.RangeFuncCalls
import Derived.RangeFuncLeaves
import Derived.Shelf.Abstract
import Derived.Shelf.RegionOpen
import Derived.OwnWalkIn
import Derived.TacticsInMore
import Derived.LoopNIn
import Derived.LoopIn
import Derived.Sort.LoopGhostIn
namespace Go.Proofs.YtgonkdfednoclaaDoor.PRows
open Go.RowKit Go.Shelf Go.Proofs.YtgonkdfednoclaaDoorW.PrintWords Go.Proofs.YtgonkdfednoclaaDoor.RF
attribute [local go_sem] Oper.semAt_some

/-- A text's lines, each with its end. -/
def rawLines : Nat → ByteArray → List ByteArray
  | 0, _ => []
  | k + 1, s => if 0 < s.size then (if 0 ≤ Lib.indexByte s.data.toList 10 then s.extract 0 ((Lib.indexByte s.data.toList 10).toNat + 1) :: rawLines k (s.extract ((Lib.indexByte s.data.toList 10).toNat + 1) s.size) else [s]) else []

theorem indexByte_lt (l : List UInt8) (c : UInt8) (n : Nat) (h : l.length = n ∧ 0 < n) : Lib.indexByte l c < n := by
  rcases Int.lt_or_le (Lib.indexByte l c) 0 with h0 | h0
  · omega
  · obtain ⟨o, ho⟩ := Int.eq_ofNat_of_zero_le h0
    have := (Lib.indexByte_some ho).1
    have h1 := (List.getElem?_eq_some_iff.1 this).1
    omega

/-- What a round leaves of the iterator's own variable. -/
def KeepCell (bs : Nat) (A B : World) : Prop := B.cell? ⟨bs, 0, none⟩ = A.cell? ⟨bs, 0, none⟩ ∧ B.frozen? ⟨bs, 0, none⟩ = A.frozen? ⟨bs, 0, none⟩

set_option maxRecDepth 100000 in
set_option maxHeartbeats 2000000 in
theorem lines_stops (n : Nat) (hn : 1 ≤ n) (bs : Nat) (s : ByteArray) (w : World) (hs : s.size ≤ 9223372036854775807) (hc : w.cell? ⟨bs, 0, none⟩ = some (.string s)) (hf : w.frozen? ⟨bs, 0, none⟩ = false) :
    CellSeq Fence.wide n Tryd.prog 51 #[.pointer (some ⟨bs, 0, none⟩)] (fun x : ByteArray => #[.string x]) (KeepCell bs) (fun xs => xs = rawLines (s.size + 1) s) (s.size + 1) (fun x => x.size ≤ 9223372036854775807) bs w := fun l J W hW hJ hJs hY h0 => by
  have hbw : bs < w.heap.size := World.block_lt_of_cell? w _ hc
  have hc0 := (hW.cell (p := ⟨bs, 0, none⟩) hbw).trans hc
  have hf0 := (hW.frozen (p := ⟨bs, 0, none⟩) hbw).trans hf
  refine callsIn_of_wp Tryd.func51 rfl trivial ?_ rfl
  simp only [Tryd.ntmps51, List.size_toArray, List.length_cons, List.length_nil, Nat.reduceAdd, Nat.reduceSub, Array.replicate_succ, Array.replicate_zero, List.push_toArray, List.append_toArray, List.nil_append, List.cons_append]
  clear hc hf
  obtain ⟨R, hR⟩ : ∃ R, rawLines (s.size + 1) s = R := ⟨_, rfl⟩
  rw [hR]
  have HR := Aside0.mk hR
  clear hR
  have HY := Aside0.mk hY
  have H0 := Aside0.mk h0
  have HJ := Aside0.mk hJ
  have HJs := Aside0.mk hJs
  clear hY h0 hJ hJs
  gi_wp2
  gi_loopg [3] (s.size + 1) (fun k v wr => ∃ (pre : List ByteArray) (rest : ByteArray), wr.cell? ⟨bs, 0, none⟩ = some (.string rest) ∧ wr.frozen? ⟨bs, 0, none⟩ = false ∧ Aside0 (pre ++ rawLines k rest = R) ∧ rest.size ≤ 9223372036854775807 ∧ Aside0 (rest.size < k) ∧ Aside0 (pre.length + k ≤ s.size + 1) ∧ Aside0 (J pre wr))
  case atStart => exact ⟨[], s, hc0, hf0, HR, hs, ⟨by omega⟩, ⟨by simp⟩, H0⟩
  case round =>
    obtain ⟨pre, rest, hcr, hfr, HA, hrs, HK, HN, HJp⟩ := hrel
    cases gk with
    | zero => exact absurd HK.out (by omega)
    | succ k1 =>
    by_cases hz : 0 < rest.size
    · have hz' : (0 : Int) < (rest.size : Int) := by omega
      have H := HA.out
      simp only [rawLines] at H
      rw [if_pos hz] at H
      have c20 := fun W => Tryd.strings_IndexByte rest 10 W
      rw [show (10 : Int).toNat.toUInt8 = (10 : UInt8) from rfl] at c20
      obtain ⟨i, hi⟩ : ∃ i, Lib.indexByte rest.data.toList 10 = i := ⟨_, rfl⟩
      rw [hi] at c20 H
      have hlt : i < rest.size := by rw [← hi]; exact indexByte_lt _ _ _ ⟨(Lib.size_eq rest).symm, hz⟩
      clear hi HA
      by_cases h0i : 0 ≤ i
      · obtain ⟨m, rfl⟩ := Int.eq_ofNat_of_zero_le h0i
        rw [if_pos h0i] at H
        have hm : m + 1 ≤ rest.size := by omega
        have H' := Aside0.mk H
        clear H
        gi_wp2_with (refine ⟨trivial, ?_⟩; gi_at_call 20; refine (callsIn_wide.2 (c20 _)).mono ?_; rintro e w' ⟨rfl, rfl⟩)
        gi_region
        gi_wp2_with fail
        obtain ⟨W2, hW2⟩ : ∃ W2, (w'.setCell ⟨bs, 0, none⟩ (Value.string (rest.extract (m + 1) rest.size))).drew = W2 := ⟨_, rfl⟩
        have hc2 : W2.cell? ⟨bs, 0, none⟩ = some (.string (rest.extract (m + 1) rest.size)) := by rw [← hW2]; exact World.cell?_setCell_same' _ _ _ (by rw [hcr]; rfl)
        have hf2 : W2.frozen? ⟨bs, 0, none⟩ = false := by rw [← hW2]; show (w'.setCell ⟨bs, 0, none⟩ _).frozen? _ = _; rw [World.frozen?_setCell]; exact hfr
        have hJ2 : J pre W2 := by rw [← hW2]; exact HJ.out pre _ _ none (HJs.out _ _ _ HJp.out) ⟨rfl, rfl, rfl, Nat.le_refl _, fun _ _ _ => rfl⟩ (fun r e => by cases e)
        rw [hW2]
        clear hW2 hcr hfr HJp
        obtain ⟨fn, tmps, assign, body, hy, hRd⟩ := HY.out pre (rest.extract 0 (m + 1)) W2 hJ2 (by have := HN.out; omega) (by first | exact hrs | (simp only [ByteArray.size_extract]; omega))
        clear hJ2
        gi_wp2
        rw [hy]
        gi_step
        refine hRd.mono ?_
        rintro e W3 ⟨rfl, hJ3, hk3⟩
        · have hc3 := hk3.1.trans hc2
          have hf3 := hk3.2.trans hf2
          clear hk3 hc2 hf2 hRd hy
          have HJ3 := Aside0.mk hJ3
          clear hJ3
          gi_wp2
          gi_roundg k1
          case measure => omega
          case rel => exact ⟨pre ++ [(rest.extract 0 (m + 1))], (rest.extract (m + 1) rest.size), hc3, hf3, ⟨by have := H'.out; simp only [List.append_assoc, List.singleton_append]; exact this⟩, by simp only [ByteArray.size_extract]; omega, ⟨by have := HK.out; simp only [ByteArray.size_extract]; omega⟩, ⟨by have := HN.out; simp only [List.length_append, List.length_singleton]; omega⟩, HJ3⟩
      · rw [if_neg h0i] at H
        have d0 : decide (0 ≤ i) = false := decide_eq_false h0i
        have H' := Aside0.mk H
        clear H
        gi_wp2_with (refine ⟨trivial, ?_⟩; gi_at_call 20; refine (callsIn_wide.2 (c20 _)).mono ?_; rintro e w' ⟨rfl, rfl⟩)
        obtain ⟨W2, hW2⟩ : ∃ W2, w'.setCell ⟨bs, 0, none⟩ (Value.string { data := #[] }) = W2 := ⟨_, rfl⟩
        have hc2 : W2.cell? ⟨bs, 0, none⟩ = some (.string (⟨#[]⟩ : ByteArray)) := by rw [← hW2]; exact World.cell?_setCell_same' _ _ _ (by rw [hcr]; rfl)
        have hf2 : W2.frozen? ⟨bs, 0, none⟩ = false := by rw [← hW2]; skip; rw [World.frozen?_setCell]; exact hfr
        have hJ2 : J pre W2 := by rw [← hW2]; exact HJs.out _ _ _ HJp.out
        rw [hW2]
        clear hW2 hcr hfr HJp
        obtain ⟨fn, tmps, assign, body, hy, hRd⟩ := HY.out pre rest W2 hJ2 (by have := HN.out; omega) (by first | exact hrs | (simp only [ByteArray.size_extract]; omega))
        clear hJ2
        gi_wp2
        rw [hy]
        gi_step
        refine hRd.mono ?_
        rintro e W3 ⟨rfl, hJ3, hk3⟩
        · have hc3 := hk3.1.trans hc2
          have hf3 := hk3.2.trans hf2
          clear hk3 hc2 hf2 hRd hy
          have HJ3 := Aside0.mk hJ3
          clear hJ3
          gi_wp2
          gi_roundg k1
          case measure => omega
          case rel => exact ⟨pre ++ [rest], (⟨#[]⟩ : ByteArray), hc3, hf3, ⟨by rw [show rawLines k1 (⟨#[]⟩ : ByteArray) = [] from (by cases k1 <;> rfl), List.append_nil]; exact H'.out⟩, Nat.zero_le _, ⟨by have := HK.out; show (0 : Nat) < _; omega⟩, ⟨by have := HN.out; simp only [List.length_append, List.length_singleton]; omega⟩, HJ3⟩
    · have hz' : ¬ ((0 : Int) < (rest.size : Int)) := by omega
      have H := HA.out
      simp only [rawLines] at H
      rw [if_neg hz, List.append_nil] at H
      have H' := Aside0.mk H
      clear H HA
      gi_wp2
      go_end0
      obtain rfl := H'.out
      exact ⟨⟨_, rfl⟩, HJp.out⟩

set_option maxHeartbeats 1000000 in
theorem strings_Lines_calls (s : ByteArray) (w : World) :
    Calls Tryd.prog 32 #[.string s] w fun e w' => e = .returned (.func (.func 51) #[] #[.pointer (some ⟨w.heap.size, 0, none⟩)]) ∧ w' = w.alloc (.cells #[.string s] 9) := by
  go_enter Tryd.func32, Tryd.ntmps32
  go_wp2
  go_ret
  exact ⟨rfl, rfl⟩

theorem trimSuffix_le (l p : List UInt8) : (Lib.trimSuffix l p).length ≤ l.length := by
  unfold Lib.trimSuffix
  split
  · simp
  · exact Nat.le_refl _
theorem flipW {P : Program} {f : FuncId} {args : Array Value} {w : World} {v : Ending} (h : Calls P f args w fun e w' => e = v ∧ w' = w) : Calls P f args w fun e w' => e = v ∧ w = w' :=
  h.mono fun _ _ h => ⟨h.1, h.2.symm⟩
/-- A line without its end. -/
def lineOf (x : ByteArray) : ByteArray :=
  if Lib.hasSuffix x.data.toList [10] = true then ⟨(Lib.trimSuffix (Lib.trimSuffix x.data.toList [10]) [13]).toArray⟩ else x
/-- A text's lines. -/
def linesU (s : ByteArray) : List ByteArray := (rawLines (s.size + 1) s).map lineOf

/-- Behind an append to a row that lies beyond a captured variable, and a store into the row's box: that variable is as it was. -/
theorem keepCell_appended {W w1 : World} {B bs : Nat} {base e size k : Nat} {v v' : Value} {xs : List Value} {tmp : Obj} (hbs : bs < W.heap.size) (hne : bs ≠ B) (hrow : W.ownsRow base e size v k xs) (hb : bs < base)
    (hgrow : (W.alloc tmp).grownBy w1 v.ownBlock) : KeepCell bs W (w1.setCell ⟨B, 0, none⟩ v') := by
  have h1 : (w1.setCell ⟨B, 0, none⟩ v').heap[bs]? = W.heap[bs]? := by
    rw [Below.heap_setCell _ _ _ _ (by show bs ≠ B; exact hne)]
    refine (hgrow.block bs (by simp; omega) (fun h => ?_)).trans (Below.heap_alloc _ _ _ hbs)
    have := own_base hrow bs h.symm
    omega
  exact ⟨World.cell?_of_block h1, World.frozen?_of_block h1⟩

/-- All that a round owes behind 'l = append(l, line)': l in its box, its row beyond the iterator's own variable. -/
theorem appended_all {W w1 : World} {n₀ : Nat} {v v' : Value} {k m : Nat} {xs ys : List Value} {tmp : Obj}
    (hv : Boxed W n₀ 41 v) (hrow : W.ownsRow (n₀ + 2) 9 1 v k xs) (hlt : n₀ + 1 < W.heap.size)
    (hown' : w1.ownsRow (n₀ + 2) 9 1 v' m ys) (hgrow : (W.alloc tmp).grownBy w1 v.ownBlock) :
    w1.cell? ⟨n₀, 0, none⟩ = some v ∧ w1.frozen? ⟨n₀, 0, none⟩ = false ∧ Boxed (w1.setCell ⟨n₀, 0, none⟩ v') n₀ 41 v' ∧ (w1.setCell ⟨n₀, 0, none⟩ v').ownsRow (n₀ + 2) 9 1 v' m ys ∧
      KeepsOthers W (w1.setCell ⟨n₀, 0, none⟩ v') ∧ Below n₀ W (w1.setCell ⟨n₀, 0, none⟩ v') ∧ KeepCell (n₀ + 1) W (w1.setCell ⟨n₀, 0, none⟩ v') ∧ W.heap.size ≤ (w1.setCell ⟨n₀, 0, none⟩ v').heap.size := by
  have hte : (41 : Nat) ≠ 9 := by decide
  obtain ⟨hv1, hv2, _, hk2, hb2⟩ := hv.appended hte (own_weaken (base' := n₀) hrow (by omega)) (by omega) (Nat.le_refl _) (own_weaken (base' := n₀) hown' (by omega)) hgrow
  exact ⟨hv1.cell, hv1.frozen, hv2, hown'.kept (grownBy_setCell' w1 n₀ v') (.inr (hv1.not_row hte hown').symm), hk2, hb2, keepCell_appended (B := n₀) (bs := n₀ + 1) hlt (by omega) hrow (Nat.lt_succ_self _) hgrow, hb2.size⟩

theorem Tryd.info9 : (Tryd.prog.info? 9).map (fun i => (i.zero, i.size, i.bytes)) = some (some (.string ⟨#[]⟩), 1, 16) := by kernel_rfl

set_option maxRecDepth 100000 in
set_option maxHeartbeats 2000000 in
theorem lines_walk (s : ByteArray) (w : World) (hs : s.size ≤ 4398046511104) :
    Calls Tryd.prog 18 #[.string s] w fun e W' => ∃ v, e = .returned v ∧ W'.ownsRow w.heap.size 9 1 v (linesU s).length ((linesU s).map Value.string) ∧ Below w.heap.size w W' := by
  obtain ⟨i0, hi, hz0, hz1, hz2⟩ := info_parts Tryd.info9
  refine (callsIn_wide (n := 3)).1 ?_
  refine callsIn_of_wp_marks Tryd.func18 rfl trivial ?_ rfl
  simp only [Tryd.ntmps18, List.size_toArray, List.length_cons, List.length_nil, Nat.reduceAdd, Nat.reduceSub, Array.replicate_succ, Array.replicate_zero, List.push_toArray, List.append_toArray, List.nil_append, List.cons_append]
  gi_wp2_with (refine ⟨trivial, ?_⟩; gi_at_call 32; refine (callsIn_wide.2 (strings_Lines_calls s _)).mono ?_; rintro e w' ⟨rfl, rfl⟩)
  have bO := Boxed.new w 41 (.slice none 0 0)
  have bN := Boxed.new (w.alloc (.cells #[.slice none 0 0] 41)) 9 (.string s)
  rw [World.size_alloc] at bN
  have hB0 : Below w.heap.size w ((w.alloc (.cells #[.slice none 0 0] 41)).alloc (.cells #[.string s] 9)) := ((Below.refl _ w).alloc (Nat.le_refl _) _).alloc (by simp) _
  refine rangeCell rfl (by omega) (gf := 51) (lb := #[.pointer (some ⟨w.heap.size + 1, 0, none⟩)]) rfl trivial (enters_of Tryd.func51 (by kernel_rfl) rfl)
    (w.heap.size + 1) (by simp) (lines_stops (3 - 1) (by omega) (w.heap.size + 1) s _ (by omega) bN.cell bN.frozen) (fun h k => ⟨k.1.trans h.1, k.2.trans h.2⟩)
    (fun W l o o' hl hW _ _ => ?kb) (Below.refl _ _) (fun _ => rfl)
    (fun (pre : List ByteArray) W => (∃ v, Boxed W w.heap.size 41 v ∧ W.ownsRow (w.heap.size + 2) 9 1 v pre.length ((pre.map lineOf).map Value.string) ∧ True) ∧ Aside0 (w.heap.size + 1 < W.heap.size) ∧ Below w.heap.size w W)
    (OwnFrom.and (Own.from (holdsRow_own (w.heap.size + 2) w.heap.size 41 9 1 (fun (pre : List ByteArray) => pre.length) (fun (pre : List ByteArray) => (pre.map lineOf).map Value.string) (fun _ _ => True)) _) (OwnFrom.and (fun s A B row hs hg hr => ⟨Nat.lt_of_lt_of_le hs.out hg.size⟩) (ownFrom_below (Nat.le_refl _) (by simp; omega))))
    ?is
    ⟨⟨_, bO.alloc _, World.ownsRow_nil _ _ _ _, trivial⟩, ⟨by simp⟩, hB0⟩
    (fun (x : ByteArray) => { tmps := #[.string s, undef, .slice none 0 0, .pointer (some ⟨w.heap.size, 0, none⟩), .string x, undef, undef, .string s, .func (.func 51) #[] #[.pointer (some ⟨w.heap.size + 1, 0, none⟩)], .string x, undef, undef, undef, undef, undef, undef, undef, undef, undef, undef, undef, undef, undef], defers := [] }) ?assign ?body ?done
  case kb =>
    have hne : w.heap.size + 1 ≠ l := by simp at hl; omega
    have h1 : (W.putObj l o').heap[w.heap.size + 1]? = W.heap[w.heap.size + 1]? := World.putObj_heap_other hne
    exact ⟨World.cell?_of_block h1, World.frozen?_of_block h1⟩
  case is =>
    rintro pre A v ⟨⟨u, hu, hrow, _⟩, hz, hB⟩
    refine ⟨⟨u, hu.kept (grownBy_setCell' A _ v) (by simp), hrow.kept (grownBy_setCell' A _ v) (.inr fun e => ?_), trivial⟩, ⟨by have := hz.out; simp; omega⟩, hB.setCell (p := ⟨w.heap.size + 1, 0, none⟩) (by simp) _⟩
    have := own_base hrow _ e
    omega
  case assign =>
    intro l x W K hK
    gi_wp2
    exact hK
  case body =>
    rintro l pre x W ⟨⟨v, hv, hrow, _⟩, hsz, hB⟩ hlt hxs
    have hc := hv.cell
    have hq1 : pre.length + 1 ≤ maxLen := by unfold maxLen; omega
    have hq2 : (pre.length + 1) * 16 ≤ 140737488355328 := by omega
    have hq3 : w.heap.size + 2 ≤ W.heap.size + 1 := by have := hsz.out; omega
    have hq4 : ∀ (z : ByteArray) (y : Value), y ∈ [Value.string z] → y.oneCell' = true := by simp [Value.oneCell']
    have hq5 : 0 < 1 := by decide
    have hte : (41 : Nat) ≠ 9 := by decide
    have hle2 : w.heap.size ≤ w.heap.size + 2 := by omega
    have hne1 : w.heap.size + 1 ≠ w.heap.size := by omega
    have hq6 : ∀ o, w.heap.size + 2 ≤ (W.alloc o).heap.size := fun o => by rw [World.size_alloc]; exact hq3
    clear hlt
    have hlt2 : w.heap.size + 1 < W.heap.size := hsz.out
    have c33 := fun W' => flipW (Tryd.strings_CutSuffix x ⟨#[10]⟩ W' hxs)
    rw [show (⟨#[10]⟩ : ByteArray).data.toList = [10] from rfl] at c33
    cases h10 : Lib.hasSuffix x.data.toList [10] with
    | true =>
      have el : lineOf x = ⟨(Lib.trimSuffix (Lib.trimSuffix x.data.toList [10]) [13]).toArray⟩ := by unfold lineOf; rw [if_pos h10]
      rw [h10] at c33
      have hts : (Lib.trimSuffix x.data.toList [10]).length ≤ 9223372036854775807 := Nat.le_trans (trimSuffix_le _ _) (by rw [← Lib.size_eq]; exact hxs)
      obtain ⟨T, hT⟩ : ∃ T, Lib.trimSuffix x.data.toList [10] = T := ⟨_, rfl⟩
      rw [hT] at c33 el hts
      have c34 := fun W' => flipW (Tryd.strings_TrimSuffix ⟨T.toArray⟩ ⟨#[13]⟩ W' (by simpa [ByteArray.size] using hts))
      rw [show (⟨#[13]⟩ : ByteArray).data.toList = [13] from rfl] at c34
      rw [show (⟨T.toArray⟩ : ByteArray).data.toList = T from rfl, ← el] at c34
      have HEL := Aside0.mk el
      clear hT h10 el hts
      gi_wp2_with (first | (refine ⟨trivial, ?_⟩; gi_at_call 33; refine (CallsIn.inRound l (callsIn_wide.2 (c33 _))).mono ?_; rintro e w' ⟨rfl, rfl⟩) | (refine ⟨trivial, ?_⟩; gi_at_call 34; refine (CallsIn.inRound l (callsIn_wide.2 (c34 _))).mono ?_; rintro e w' ⟨rfl, rfl⟩) | (gi_at_builtin; refine wpListIn_append_own _ rfl _ _ 41 rfl (w.heap.size + 2) 9 i0 (.string ⟨#[]⟩) 1 16 Tryd.underlying41 hi hz0 hz1 hz2 rfl hq5 _ _ _ rfl (hrow.alloc _) ⟨W.heap.size, 0, none⟩ 1 1 [.string (lineOf x)] rfl rfl (cell_one_new _ _ _) (hq4 _) hq1 hq2 (hq6 _) ?_; intro v' w1 hown' hgrow _; obtain ⟨g', cap', rfl⟩ := ownsRow_succ hown'; obtain ⟨hc1, hf1, hv2, hr3, hk2, hb2, hkc, hsz2⟩ := appended_all hv hrow hlt2 hown' hgrow; clear hown' hgrow))
      exact ⟨hk2, hkc, ⟨_, hv2, by rw [List.length_append, List.map_append, List.map_append]; exact hr3, trivial⟩, ⟨Nat.lt_of_lt_of_le hlt2 hsz2⟩, hB.trans hb2⟩
    | false =>
      have el := Aside0.mk (show lineOf x = x from by unfold lineOf; rw [if_neg (by rw [h10]; decide)])
      rw [h10] at c33
      clear h10
      gi_wp2_with (first | (refine ⟨trivial, ?_⟩; gi_at_call 33; refine (CallsIn.inRound l (callsIn_wide.2 (c33 _))).mono ?_; rintro e w' ⟨rfl, rfl⟩) | (gi_at_builtin; refine wpListIn_append_own _ rfl _ _ 41 rfl (w.heap.size + 2) 9 i0 (.string ⟨#[]⟩) 1 16 Tryd.underlying41 hi hz0 hz1 hz2 rfl hq5 _ _ _ rfl (hrow.alloc _) ⟨W.heap.size, 0, none⟩ 1 1 [.string x] rfl rfl (cell_one_new _ _ _) (hq4 _) hq1 hq2 (hq6 _) ?_; intro v' w1 hown' hgrow _; obtain ⟨g', cap', rfl⟩ := ownsRow_succ hown'; obtain ⟨hc1, hf1, hv2, hr3, hk2, hb2, hkc, hsz2⟩ := appended_all hv hrow hlt2 hown' hgrow; clear hown' hgrow))
      exact ⟨hk2, hkc, ⟨_, hv2, by rw [List.length_append, List.map_append, List.map_append, List.map_singleton (f := lineOf), el.out]; exact hr3, trivial⟩, ⟨Nat.lt_of_lt_of_le hlt2 hsz2⟩, hB.trans hb2⟩
  case done =>
    rintro D ys W hD rfl ⟨⟨v, hv, hrow, _⟩, _, hB⟩ hK
    have hc := hv.cell
    gi_wp2
    refine ⟨by simp, .inl ⟨_, _, rfl, run_takeDeferred hK, ?_⟩⟩
    exact ⟨_, results_tmp rfl _ _ _, v, rfl, by unfold linesU; rw [List.length_map]; exact ownsRow_putObj (own_weaken (base' := w.heap.size) hrow (by omega)) _ hK rfl, hB.trans (belowK_b (w := w) (Nat.le_refl _) W D _ _ (by have h5 := hD; simp only [World.size_alloc] at h5; omega) hK rfl rfl)⟩

/-- rows.Lines. -/
def rows_Lines.f (a0 : ByteArray) : Option (List ByteArray) := if a0.size ≤ 4398046511104 then some (linesU a0) else none
theorem rows_Lines.calls (a0 : ByteArray) (r : List ByteArray) (w : World) (h : rows_Lines.f a0 = some r) :
    Calls Tryd.prog 18 #[.string a0] w fun e w' => ∃ v0_ : Value, e = .returned (v0_) ∧ Kd.R Kd.string 9 w' w.heap.size (fun _ => True) v0_ r ∧ Below w.heap.size w w' := by
  unfold rows_Lines.f at h
  by_cases hs : a0.size ≤ 4398046511104
  · rw [if_pos hs] at h
    obtain rfl := Option.some.inj h
    refine (lines_walk a0 w hs).mono ?_
    rintro e w' ⟨v, rfl, ho, hb⟩
    exact ⟨v, rfl, Kd.R_of_own (h1 := fun _ => rfl) ho (fun _ _ => trivial), hb⟩
  · rw [if_neg hs] at h; cases h
end Go.Proofs.YtgonkdfednoclaaDoor.PRows
