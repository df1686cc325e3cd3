/- The reference's All and Due. -/
import Derived.Test.YtnnebkmjeigflaaRef
namespace Go.Proofs.Ytnnebkmjeigflaa.L
open Go.RowKit Go.Maps

set_option maxHeartbeats 1000000 in
set_option maxRecDepth 100000 in
theorem rall_calls (B rb : Nat) (ao : Option Addr) (c : Nat) (L : List (Int × Int)) (w : World) (h : RefQ w B rb ao c L) :
    Calls Try.prog 21 #[.pointer (some ⟨rb, 0, none⟩)] w (Alls w L) := by
  obtain ⟨i0, hi, hz0, hz1, hz2⟩ := info_parts info3
  have H := Box.mk h
  have hfew := h.few
  have hcw := h.c0
  obtain ⟨n, hn⟩ : ∃ n, L.length = n := ⟨_, rfl⟩
  have HN := Box.mk hn
  rw [hn] at hcw hfew
  unfold Alls
  rw [hn]
  clear h hn
  go_enter Try.func21, Try.ntmps21
  go_wp2
  go_loopg [3, 4] n (fun k v3 v4 wr => ∃ i : Nat, v4 = .int .i64 i ∧ Box (i + k = n) ∧ Box (wr.ownsRow w.heap.size 3 1 v3 i ((L.take i).map intV)) ∧ Box (Below w.heap.size w wr))
  case atStart => exact ⟨0, rfl, ⟨by omega⟩, ⟨World.ownsRow_nil _ _ _ _⟩, ⟨Below.refl _ _⟩⟩
  case round =>
    obtain ⟨i, rfl, HK, HO, HB⟩ := hrel
    have hc0 : wr.cell? ⟨rb, 0, none⟩ = some (.slice ao n c) := by rw [← HN.out]; exact (H.out.past HB.out).c0
    clear hcw
    cases gk with
    | zero =>
      have hlt : ¬ (i : Int) < n := by have := HK.out; omega
      have HE : Box (wr.ownsRow w.heap.size 3 1 u3 n (L.map intV)) := ⟨by
        have := HO.out
        have e : i = n := by have := HK.out; omega
        rw [e, List.take_of_length_le (by have := HN.out; omega)] at this
        exact this⟩
      go_wp2
      go_ret
      exact ⟨_, rfl, HE.out, HB.out⟩
    | succ k1 =>
      have hlt : (i : Int) < n := by have := HK.out; omega
      have h0 : (0 : Int) ≤ i := by omega
      have hi2 : i < L.length := by have := HK.out; have := HN.out; omega
      obtain ⟨g, off, rfl, x1, x2⟩ := (H.out.past HB.out).at i hi2
      have h63 : i + 1 ≤ maxLen := by unfold maxLen; omega
      have hby : (i + 1) * 8 ≤ 140737488355328 := by omega
      have hbase : w.heap.size ≤ (wr.alloc (.cells #[.int .i64 L[i].1] 3)).heap.size := by rw [World.size_alloc]; have := HB.out.size; omega
      have hcells : ∀ u ∈ [Value.int .i64 L[i].1], u.oneCell' = true := by simp [Value.oneCell']
      have hm0 : 0 < 1 := by decide
      have HOA := Box.mk (HO.out.alloc (.cells #[.int .i64 L[i].1] 3))
      go_wp2_with (first | (at_builtin; refine wpList_append_own _ rfl _ _ 28 rfl w.heap.size 3 i0 (.int .i64 0) 1 8 Try.underlying28 hi hz0 hz1 hz2 (by rfl) hm0 _ _ _ (by rfl) HOA.out ⟨wr.heap.size, 0, none⟩ 1 1 [.int .i64 L[i].1] (by rfl) (by rfl) (cell_one_new _ _ _) hcells h63 hby hbase ?_; intro r3 w3 hown3 hgrow _))
      have HO3 : Box (w3.ownsRow w.heap.size 3 1 r3 (i + 1) ((L.take (i + 1)).map intV)) := ⟨by rw [List.take_succ_eq_append_getElem hi2, List.map_append]; exact hown3⟩
      have HB3 := Box.mk ((HB.out.alloc HB.out.size (.cells #[.int .i64 L[i].1] 3)).grown hgrow hbase (fun k hk => (HO.out.lt k hk).1))
      clear hown3 hgrow
      go_roundg k1
      case measure => omega
      case rel => exact ⟨i + 1, by go_num, ⟨by have := HK.out; omega⟩, HO3, HB3⟩

/-- What a call leaves of the reference's queue. -/
def RWent (w w' : World) (B rb : Nat) (ao : Option Addr) (L : List (Int × Int)) : Prop := ∃ ao' c', RefQ w' B rb ao' c' L ∧ Frame (fun k => k = rb) w w' ∧ ∀ k, RefQ.Foot rb ao' k → RefQ.Foot rb ao k ∨ w.heap.size ≤ k
def RDues (w : World) (B rb : Nat) (ao : Option Addr) (L : List (Int × Int)) (now : Int) (e : Ending) (w' : World) : Prop :=
  ∃ r, e = .returned r ∧ w'.ownsRow w.heap.size 3 1 r (dueIn L now).length ((dueIn L now).map intV) ∧ RWent w w' B rb ao (dueOut L now)
/-- In the loop of Due. -/
structure RDueAt (w wr : World) (B rb : Nat) (ao : Option Addr) (L : List (Int × Int)) (now : Int) (done rest : List (Int × Int)) (r : Value) (ao' : Option Addr) (c' : Nat) : Prop where
  parts : L = done ++ rest
  due : ∀ p ∈ done, p.2 ≤ now
  row : wr.ownsRow w.heap.size 3 1 r done.length (done.map intV)
  que : RefQ wr B rb ao' c' rest
  frame : Frame (fun k => k = rb) w wr
  foot : ∀ k, RefQ.Foot rb ao' k → RefQ.Foot rb ao k
theorem RefQ.tail {w W : World} {B rb g off off' c n : Nat} {p : Int × Int} {rest : List (Int × Int)} (h : RefQ w B rb (some ⟨g, off, none⟩) c (p :: rest)) (hn : n - 1 = rest.length) (ho : c = 1 ∨ off' = off + 2)
    (hs : w.heap.size ≤ W.heap.size) (hg : W.heap[g]? = w.heap[g]?) (hq : W.heap[rb]? = some (.cells #[.slice (some ⟨g, off', none⟩) (n - 1) (c - 1)] 35 (0, 0))) : RefQ W B rb (some ⟨g, off', none⟩) (c - 1) rest := by
  have hl := h.le
  rw [List.length_cons] at hl
  have hr := h.row _ rfl
  refine ⟨by rw [← hn]; exact hq, by omega, by have := h.few; rw [List.length_cons] at this; omega, fun e => (by cases e), fun a e => ?_, fun a e i hi => ?_, h.base⟩
  · injection e with e; subst e
    exact ⟨rfl, hr.2.1, hr.2.2.1, by have := hr.2.2.2; show g < _; have : g < w.heap.size := this; omega⟩
  · injection e with e; subst e
    have ho2 : off' = off + 2 := by rcases ho with h1 | h1 <;> omega
    subst ho2
    have h1 := h.cells _ rfl (i + 1) (by rw [List.length_cons]; omega)
    have e1 : off + 2 + i * 2 = off + (i + 1) * 2 := by omega
    show W.cell? ⟨g, off + 2 + i * 2, none⟩ = _ ∧ W.cell? ⟨g, off + 2 + i * 2 + 1, none⟩ = _
    rw [e1]
    exact ⟨(World.cell?_of_block (w := w) (a := ⟨g, off + (i + 1) * 2, none⟩) hg).trans h1.1, (World.cell?_of_block (w := w) (a := ⟨g, off + (i + 1) * 2 + 1, none⟩) hg).trans h1.2⟩
theorem RDueAt.done {w wr : World} {B rb : Nat} {ao : Option Addr} {L : List (Int × Int)} {now : Int} {done rest : List (Int × Int)} {r : Value} {ao' : Option Addr} {c' : Nat} (h : RDueAt w wr B rb ao L now done rest r ao' c')
    (hr : ∀ p, rest.head? = some p → ¬ p.2 ≤ now) : RDues w B rb ao L now (.returned r) wr := by
  have e : dueIn L now = done ∧ dueOut L now = rest := by
    unfold dueIn dueOut
    have hd : ∀ p ∈ done, decide (p.2 ≤ now) = true := fun p hp => by simpa using h.due p hp
    rw [h.parts, List.takeWhile_append_of_pos hd, List.dropWhile_append_of_pos hd]
    cases rest with
    | nil => simp
    | cons p rest =>
      have := hr p rfl
      rw [List.takeWhile_cons_of_neg (by simpa using this), List.dropWhile_cons_of_neg (by simpa using this), List.append_nil]
      exact ⟨rfl, rfl⟩
  exact ⟨r, rfl, by rw [e.1]; exact h.row, ao', c', by rw [e.2]; exact h.que, h.frame, fun k hk => .inl (h.foot k hk)⟩
theorem RDueAt.next {w wr w3 : World} {B rb g off off' c' n : Nat} {ao : Option Addr} {L : List (Int × Int)} {now : Int} {p : Int × Int} {done rest : List (Int × Int)} {r r3 : Value} (D : RDueAt w wr B rb ao L now done (p :: rest) r (some ⟨g, off, none⟩) c')
    (hp : p.2 ≤ now) (hn : n - 1 = rest.length) (ho : c' = 1 ∨ off' = off + 2) (hgr : g ≠ rb) (hrw : rb < w.heap.size) (HG : w3.heap[g]? = wr.heap[g]?) (HF : Frame (fun k => k = rb) w w3)
    (HO : w3.ownsRow w.heap.size 3 1 r3 (done.length + 1) (done.map intV ++ [.int .i64 p.1])) (HB3 : w3.heap[rb]? = some (.cells #[.slice (some ⟨g, off, none⟩) n c'] 35 (0, 0))) (HS : wr.heap.size ≤ w3.heap.size) :
    RDueAt w (w3.setCell ⟨rb, 0, none⟩ (.slice (some ⟨g, off', none⟩) (n - 1) (c' - 1))) B rb ao L now (done ++ [p]) rest r3 (some ⟨g, off', none⟩) (c' - 1) := by
  have hf3 : Frame (fun k => k = rb) w3 (w3.setCell ⟨rb, 0, none⟩ (.slice (some ⟨g, off', none⟩) (n - 1) (c' - 1))) := (Frame.refl (fun k => k = rb) w3).setCell ⟨rb, 0, none⟩ (fun _ => rfl) _
  refine ⟨by rw [D.parts, List.append_assoc]; rfl, fun q hq => ?_, ?_, D.que.tail hn ho ?_ ?_ ?_, HF.then hf3 (fun _ _ h => h), fun k hk => ?_⟩
  · rcases List.mem_append.1 hq with h1 | h1
    · exact D.due q h1
    · obtain rfl := List.mem_singleton.1 h1; exact hp
  · rw [List.length_append, List.length_singleton, List.map_append, List.map_singleton]
    exact owns_frame HO hf3 (fun g hg e => by have := (HO.lt g hg).1; omega)
  · exact Nat.le_trans HS hf3.size
  · rw [set_other hgr]; exact HG
  · exact set_same HB3 0 _
  · rcases hk with rfl | ⟨a, e, rfl⟩
    · exact .inl rfl
    · injection e with e; subst e
      exact D.foot g (.inr ⟨_, rfl, rfl⟩)
set_option maxHeartbeats 1000000 in
set_option maxRecDepth 100000 in
theorem rdue_calls (B rb : Nat) (ao : Option Addr) (c : Nat) (L : List (Int × Int)) (now : Int) (w : World) (h : RefQ w B rb ao c L) :
    Calls Try.prog 31 #[.pointer (some ⟨rb, 0, none⟩), .int .i64 now] w (RDues w B rb ao L now) := by
  obtain ⟨i0, hi, hz0, hz1, hz2⟩ := info_parts info3
  have H := Box.mk h
  have hfew := h.few
  clear h
  go_enter Try.func31, Try.ntmps31
  go_wp2
  go_loopg [5] L.length (fun k v5 wr => ∃ (done rest : List (Int × Int)) (ao' : Option Addr) (c' : Nat), Box (rest.length = k) ∧ Box (RDueAt w wr B rb ao L now done rest v5 ao' c'))
  case atStart => exact ⟨[], L, ao, c, ⟨rfl⟩, ⟨⟨rfl, fun _ hp => (by cases hp), World.ownsRow_nil _ _ _ _, H.out, Frame.refl _ _, fun k hk => hk⟩⟩⟩
  case round =>
    obtain ⟨done, rest, ao', c', K, D⟩ := hrel
    have hc0 := D.out.que.c0
    cases rest with
    | nil =>
      have E := Box.mk (D.out.done (fun p hp => by cases hp))
      have hl : ¬ (0 : Int) < (([] : List (Int × Int)).length : Nat) := by simp
      go_wp2
      go_ret
      exact E.out
    | cons p rest =>
      obtain ⟨g, off, rfl, x1, x2⟩ := D.out.que.at 0 (Nat.zero_lt_succ _)
      have x1 : wr.cell? ⟨g, off, none⟩ = some (.int .i64 p.1) := x1
      have x2 : wr.cell? ⟨g, off + 1, none⟩ = some (.int .i64 p.2) := x2
      have hle := D.out.que.le
      obtain ⟨n, hn⟩ : ∃ n, (p :: rest).length = n := ⟨_, rfl⟩
      have hn1 : n = rest.length + 1 := by rw [← hn, List.length_cons]
      rw [hn] at hc0 hle
      have h0 : (0 : Int) < n := by omega
      have h1 : (1 : Int) ≤ n := by omega
      have h2 : (n : Int) ≤ c' := by omega
      by_cases hd : p.2 ≤ now
      · cases gk with
        | zero => exact absurd K.out (by simp)
        | succ k1 =>
        have hdl : done.length ≤ 1024 := by have := congrArg List.length D.out.parts; rw [List.length_append] at this; omega
        have h63 : done.length + 1 ≤ maxLen := by unfold maxLen; omega
        have hby : (done.length + 1) * 8 ≤ 140737488355328 := by omega
        have hbase : w.heap.size ≤ (wr.alloc (.cells #[.int .i64 p.1] 3)).heap.size := by rw [World.size_alloc]; have := D.out.frame.size; omega
        have hcells : ∀ u ∈ [Value.int .i64 p.1], u.oneCell' = true := by simp [Value.oneCell']
        have hm0 : 0 < 1 := by decide
        have HOA := Box.mk (D.out.row.alloc (.cells #[.int .i64 p.1] 3))
        have HX : Box (∀ r3 w3, w3.ownsRow w.heap.size 3 1 r3 (done.length + 1) (done.map intV ++ [.int .i64 p.1]) → (wr.alloc (.cells #[.int .i64 p.1] 3)).grownBy w3 u5.ownBlock → w3.heap[rb]? = some (.cells #[.slice (some ⟨g, off, none⟩) n c'] 35 (0, 0))) := ⟨by
          intro r3 w3 ho hg
          have hlt : rb < w.heap.size := (H.out.foot (.inl rfl)).2
          rw [hg.block rb (by rw [World.size_alloc]; have := D.out.frame.size; omega) (fun e => by have := (D.out.row.lt rb e.symm).1; omega), Below.heap_alloc _ _ _ (by have := D.out.frame.size; omega), ← hn]
          exact D.out.que.q⟩
        have HL := Box.mk h2
        have HKN := Box.mk hn1
        clear hn hn1 hle
        go_wp2_with (first | (at_builtin; refine wpList_append_own _ rfl _ _ 28 rfl w.heap.size 3 i0 (.int .i64 0) 1 8 Try.underlying28 hi hz0 hz1 hz2 (by rfl) hm0 _ _ _ (by rfl) HOA.out ⟨wr.heap.size, 0, none⟩ 1 1 [.int .i64 p.1] (by rfl) (by rfl) (cell_one_new _ _ _) hcells h63 hby hbase ?_; intro r3 w3 hown3 hgrow _; have hb3 := HX.out _ _ hown3 hgrow; have hc3 : w3.cell? ⟨rb, 0, none⟩ = some (.slice (some ⟨g, off, none⟩) n c') := (cell_of hb3 0).trans rfl; have hf3 := free_of hb3 0))
        all_goals
          have hlt : rb < w.heap.size := (H.out.foot (.inl rfl)).2
          have hgl : g < w.heap.size := (H.out.foot (D.out.foot g (.inr ⟨_, rfl, rfl⟩))).2
          have hgr : g ≠ rb := (D.out.que.row _ rfl).2.2.1
          have hsz := D.out.frame.size
          have HG : Box (w3.heap[g]? = wr.heap[g]?) := ⟨(hgrow.block g (by rw [World.size_alloc]; omega) (fun e => by have := (D.out.row.lt g e.symm).1; omega)).trans (Below.heap_alloc _ _ _ (by omega))⟩
          have HF : Box (Frame (fun k => k = rb) w w3) := ⟨(D.out.frame.alloc _).grown hgrow (fun k hk hkl => by have := (D.out.row.lt k hk).1; omega)⟩
          have HO3 := Box.mk hown3
          have HB3 := Box.mk hb3
          have HS3 : Box (wr.heap.size ≤ w3.heap.size) := ⟨by have := hgrow.size; rw [World.size_alloc] at this; omega⟩
          clear hown3 hgrow hb3 hc3 hf3
          go_roundg k1
          case measure => omega
        all_goals
          first
          | exact ⟨done ++ [p], rest, some ⟨g, off + 2, none⟩, c' - 1, ⟨by have := K.out; rw [List.length_cons] at this; omega⟩, ⟨D.out.next hd (by have := HKN.out; omega) (.inr rfl) hgr hlt HG.out HF.out HO3.out HB3.out HS3.out⟩⟩
          | exact ⟨done ++ [p], rest, some ⟨g, off, none⟩, 0, ⟨by have := K.out; rw [List.length_cons] at this; omega⟩, ⟨by
              have hc : c' = 1 := by omega
              have := D.out.next (off' := off) hd (by have := HKN.out; omega) (.inl hc) hgr hlt HG.out HF.out HO3.out HB3.out HS3.out
              rw [hc] at this
              exact this⟩⟩
      · have E := Box.mk (D.out.done (fun q hp => by injection hp with hp; rw [← hp]; exact hd))
        clear hn hn1 hle
        go_wp2
        go_ret
        exact E.out
end Go.Proofs.Ytnnebkmjeigflaa.L
