/- The queue's First, Until, Len; and what a queue that nobody made answers. -/
import Derived.Test.YtnnebkmjeigflaaDrop
namespace Go.Proofs.Ytnnebkmjeigflaa.L
open Go.RowKit Go.Maps

def firstV : List Ent → Value
  | [] => .tuple #[.int .i64 0, .int .i64 0, .bool false]
  | e :: _ => .tuple #[.int .i64 e.id, .int .i64 e.till, .bool true]
set_option maxHeartbeats 2000000 in
set_option maxRecDepth 100000 in
theorem first_calls (B qb m : Nat) (v : Value) (es : List Ent) (w : World) (h : Que w B qb m v es) :
    Calls Try.prog 16 #[.pointer (some ⟨qb, 0, none⟩)] w fun e w' => e = .returned (firstV es) ∧ ∃ n, w' = w.drewN n := by
  have c1 := ok_calls B qb m v es w h
  obtain ⟨ao, cap, rfl, hg⟩ := h.slice
  have hc0 := h.q.c0
  cases es with
  | nil =>
    have ht : (((([] : List Ent).length : Nat) : Int) == 0) = true := rfl
    clear h hg
    go_enter Try.func16, Try.ntmps16
    go_wp2_with (first | (go_at_call 24; refine c1.mono ?_; rintro e w1 ⟨rfl, rfl⟩))
    go_ret3
    exact ⟨rfl, 0, rfl⟩
  | cons e es =>
    obtain ⟨g, rfl⟩ := hg (List.cons_ne_nil _ _)
    have hr : w.cell? ⟨g, 0, none⟩ = some (.pointer (some ⟨e.blk, 0, none⟩)) := h.pile.cell 0 (Nat.zero_lt_succ _)
    have he : EntAt w e 0 := h.pile.ent 0 (Nat.zero_lt_succ _)
    have he0 : w.cell? ⟨e.blk, 0, none⟩ = some (.int .i64 e.id) := (cell_of he 0).trans rfl
    have he1 : w.cell? ⟨e.blk, 1, none⟩ = some (.int .i64 e.till) := (cell_of he 1).trans rfl
    obtain ⟨l, hl⟩ : ∃ l, (e :: es).length = l := ⟨_, rfl⟩
    have hl0 : (0 : Int) < l := by rw [← hl, List.length_cons]; omega
    have ht : ((l : Int) == 0) = false := by simp; omega
    rw [hl] at hc0
    unfold firstV
    clear h hg he hl
    go_enter Try.func16, Try.ntmps16
    go_wp2_with (first | (go_at_call 24; refine c1.mono ?_; rintro e w1 ⟨rfl, rfl⟩))
    go_quiet (fail)
    go_wp2
    go_ret3
    exact ⟨rfl, nq, rfl⟩
def untilV (es : List Ent) (id : Int) : Value :=
  match es.find? (fun e => e.id == id) with
  | some e => .tuple #[.int .i64 e.till, .bool true]
  | none => .tuple #[.int .i64 0, .bool false]
set_option maxHeartbeats 2000000 in
set_option maxRecDepth 100000 in
theorem until_calls (B qb m : Nat) (v : Value) (es : List Ent) (id : Int) (w : World) (h : Que w B qb m v es) (hw : Wf id) :
    Calls Try.prog 18 #[.pointer (some ⟨qb, 0, none⟩), .int .i64 id] w fun e w' => e = .returned (untilV es id) ∧ w = w' := by
  have c1 := ok_calls B qb m v es w h
  have hc1 := h.q.c1
  unfold untilV
  cases hf : es.find? (fun e => e.id == id) with
  | none =>
    have hn : knownKV (es.map kv) id = false := (known_kv_false _ _).2 fun e he hid => by
      have := List.find?_eq_none.1 hf e he
      simp [hid] at this
    have hmiss := h.miss hw hn
    clear h hf hn
    go_enter Try.func18, Try.ntmps18
    go_wp2_with (first | (go_at_call 24; refine c1.mono ?_; rintro e w1 ⟨rfl, rfl⟩))
    go_ret2
    exact ⟨rfl, rfl⟩
  | some e =>
    have hm := List.mem_of_find?_eq_some hf
    have hid : e.id = id := by simpa using List.find?_some hf
    obtain ⟨i, hi, rfl⟩ := List.getElem_of_mem hm
    subst hid
    have hfind : (Instr.lookup 55 (.map (some m)) (.int .i64 es[i].id) false).run Try.prog w = .ok (.pointer (some ⟨es[i].blk, 0, none⟩)) w := h.find i hi
    have he := h.pile.ent i hi
    have he1 : w.cell? ⟨es[i].blk, 1, none⟩ = some (.int .i64 es[i].till) := (cell_of he 1).trans rfl
    generalize es[i] = e at *
    clear h hf hm he
    go_enter Try.func18, Try.ntmps18
    go_wp2_with (first | (go_at_call 24; refine c1.mono ?_; rintro e w1 ⟨rfl, rfl⟩))
    go_ret2
    exact ⟨rfl, rfl⟩
set_option maxHeartbeats 1000000 in
set_option maxRecDepth 100000 in
theorem qlen_calls (B qb m : Nat) (v : Value) (es : List Ent) (w : World) (h : Que w B qb m v es) :
    Calls Try.prog 10 #[.pointer (some ⟨qb, 0, none⟩)] w fun e w' => e = .returned (.int .i64 es.length) ∧ w = w' := by
  have c1 := ok_calls B qb m v es w h
  obtain ⟨ao, cap, rfl, _⟩ := h.slice
  have hc0 := h.q.c0
  clear h
  go_enter Try.func10, Try.ntmps10
  go_wp2_with (first | (go_at_call 24; refine c1.mono ?_; rintro e w1 ⟨rfl, rfl⟩))
  go_ret
  exact ⟨rfl, rfl⟩

/-- A queue that nobody made: nil, or one of zeros. -/
def Dead (w : World) (p : Value) : Prop := p = .pointer none ∨ ∃ b, p = .pointer (some ⟨b, 0, none⟩) ∧ QAt w b (.slice none 0 0) (.map none)
set_option maxHeartbeats 1000000 in
set_option maxRecDepth 100000 in
theorem ok_dead (p : Value) (w : World) (h : Dead w p) : Calls Try.prog 24 #[p] w fun e w' => e = .returned (.bool false) ∧ w = w' := by
  rcases h with rfl | ⟨b, rfl, hq⟩
  · go_enter Try.func24, Try.ntmps24
    go_wp2
    go_ret
    exact ⟨rfl, rfl⟩
  · have c1 := hq.c1
    have q1 := fun W r => run_neq_map_nil (P := Try.prog) W 55 3 61 r Try.underlying55
    clear hq
    go_enter Try.func24, Try.ntmps24
    go_wp2
    go_ret
    exact ⟨rfl, rfl⟩
set_option maxHeartbeats 1000000 in
set_option maxRecDepth 100000 in
theorem put_dead (p : Value) (id till : Int) (w : World) (h : Dead w p) : Calls Try.prog 9 #[p, .int .i64 id, .int .i64 till] w fun e w' => e = .returned (.int .i64 2) ∧ w = w' := by
  have c1 := ok_dead p w h
  clear h
  go_enter Try.func9, Try.ntmps9
  go_wp2_with (first | (go_at_call 24; refine c1.mono ?_; rintro e w1 ⟨rfl, rfl⟩))
  go_ret
  exact ⟨rfl, rfl⟩
set_option maxHeartbeats 1000000 in
set_option maxRecDepth 100000 in
theorem drop_dead (p : Value) (id : Int) (w : World) (h : Dead w p) : Calls Try.prog 23 #[p, .int .i64 id] w fun e w' => e = .returned (.int .i64 2) ∧ w = w' := by
  have c1 := ok_dead p w h
  clear h
  go_enter Try.func23, Try.ntmps23
  go_wp2_with (first | (go_at_call 24; refine c1.mono ?_; rintro e w1 ⟨rfl, rfl⟩))
  go_ret
  exact ⟨rfl, rfl⟩
set_option maxHeartbeats 1000000 in
set_option maxRecDepth 100000 in
theorem first_dead (p : Value) (w : World) (h : Dead w p) : Calls Try.prog 16 #[p] w fun e w' => e = .returned (firstV []) ∧ w = w' := by
  have c1 := ok_dead p w h
  clear h
  go_enter Try.func16, Try.ntmps16
  go_wp2_with (first | (go_at_call 24; refine c1.mono ?_; rintro e w1 ⟨rfl, rfl⟩))
  go_ret3
  exact ⟨rfl, rfl⟩
set_option maxHeartbeats 1000000 in
set_option maxRecDepth 100000 in
theorem until_dead (p : Value) (id : Int) (w : World) (h : Dead w p) : Calls Try.prog 18 #[p, .int .i64 id] w fun e w' => e = .returned (untilV [] id) ∧ w = w' := by
  have c1 := ok_dead p w h
  clear h
  go_enter Try.func18, Try.ntmps18
  go_wp2_with (first | (go_at_call 24; refine c1.mono ?_; rintro e w1 ⟨rfl, rfl⟩))
  go_ret2
  exact ⟨rfl, rfl⟩
set_option maxHeartbeats 1000000 in
set_option maxRecDepth 100000 in
theorem qlen_dead (p : Value) (w : World) (h : Dead w p) : Calls Try.prog 10 #[p] w fun e w' => e = .returned (.int .i64 0) ∧ w = w' := by
  have c1 := ok_dead p w h
  clear h
  go_enter Try.func10, Try.ntmps10
  go_wp2_with (first | (go_at_call 24; refine c1.mono ?_; rintro e w1 ⟨rfl, rfl⟩))
  go_ret
  exact ⟨rfl, rfl⟩
set_option maxHeartbeats 1000000 in
set_option maxRecDepth 100000 in
theorem due_dead (p : Value) (now : Int) (w : World) (h : Dead w p) : Calls Try.prog 22 #[p, .int .i64 now] w fun e w' => e = .returned (.slice none 0 0) ∧ w = w' := by
  have c1 := first_dead p w h
  unfold firstV at c1
  clear h
  go_enter Try.func22, Try.ntmps22
  go_wp2_with (first | (go_at_call 16; refine c1.mono ?_; rintro e w1 ⟨rfl, rfl⟩))
  refine wp_loop_rounds 1 ?_
  rw [rounds_succ]
  go_wp2
  go_ret
  exact ⟨rfl, rfl⟩
set_option maxHeartbeats 1000000 in
set_option maxRecDepth 100000 in
theorem all_dead (p : Value) (w : World) (h : Dead w p) : Calls Try.prog 11 #[p] w fun e w' => e = .returned (.slice none 0 0) ∧ w = w' := by
  have c1 := ok_dead p w h
  clear h
  go_enter Try.func11, Try.ntmps11
  go_wp2_with (first | (go_at_call 24; refine c1.mono ?_; rintro e w1 ⟨rfl, rfl⟩))
  go_ret
  exact ⟨rfl, rfl⟩
end Go.Proofs.Ytnnebkmjeigflaa.L
