/- container/heap's up, over the queue's pile. -/
import Derived.Test.YtnnebkmjeigflaaHeap
import Derived.Deep.LoopGhost
namespace Go.Proofs.Ytnnebkmjeigflaa.L
open Go.RowKit

theorem meth_len : (Try.prog.info? 65).map (fun i => (i.methods.find? (·.name == "Len")).map (fun m => (m.func, m.path))) = some (some (some (80, false), #[])) := by kernel_rfl
theorem meth_less : (Try.prog.info? 65).map (fun i => (i.methods.find? (·.name == "Less")).map (fun m => (m.func, m.path))) = some (some (some (81, false), #[])) := by kernel_rfl
theorem meth_swap : (Try.prog.info? 65).map (fun i => (i.methods.find? (·.name == "Swap")).map (fun m => (m.func, m.path))) = some (some (some (82, false), #[])) := by kernel_rfl
theorem meth_pop : (Try.prog.info? 65).map (fun i => (i.methods.find? (·.name == "Pop")).map (fun m => (m.func, m.path))) = some (some (some (83, true), #[])) := by kernel_rfl
theorem meth_push : (Try.prog.info? 65).map (fun i => (i.methods.find? (·.name == "Push")).map (fun m => (m.func, m.path))) = some (some (some (84, true), #[])) := by kernel_rfl
/-- The queue's block. -/
def QAt (w : World) (qb : Nat) (v mp : Value) : Prop := w.heap[qb]? = some (.cells #[v, mp] 57 (0, 0))
theorem QAt.c0 {w : World} {qb : Nat} {v mp : Value} (h : QAt w qb v mp) : w.cell? ⟨qb, 0, none⟩ = some v := (cell_of h 0).trans rfl
theorem QAt.c1 {w : World} {qb : Nat} {v mp : Value} (h : QAt w qb v mp) : w.cell? ⟨qb, 1, none⟩ = some mp := (cell_of h 1).trans rfl
theorem QAt.len {w : World} {qb : Nat} {v mp : Value} (h : QAt w qb v mp) : (method 230 65 (.pointer (some ⟨qb, 0, none⟩)) "Len").run Try.prog w = .ok (80, v) w := run_method_val (fuel := 229) meth_len Try.underlying65 Try.isAgg54 h.c0
theorem QAt.less {w : World} {qb : Nat} {v mp : Value} (h : QAt w qb v mp) : (method 230 65 (.pointer (some ⟨qb, 0, none⟩)) "Less").run Try.prog w = .ok (81, v) w := run_method_val (fuel := 229) meth_less Try.underlying65 Try.isAgg54 h.c0
theorem QAt.swap {w : World} {qb : Nat} {v mp : Value} (h : QAt w qb v mp) : (method 230 65 (.pointer (some ⟨qb, 0, none⟩)) "Swap").run Try.prog w = .ok (82, v) w := run_method_val (fuel := 229) meth_swap Try.underlying65 Try.isAgg54 h.c0
theorem run_pop (w : World) (v : Value) : (method 230 65 v "Pop").run Try.prog w = .ok (83, v) w := run_method_ptr (fuel := 229) meth_pop Try.underlying65
theorem run_push (w : World) (v : Value) : (method 230 65 v "Push").run Try.prog w = .ok (84, v) w := run_method_ptr (fuel := 229) meth_push Try.underlying65
theorem QAt.past {w w' : World} {qb : Nat} {v mp : Value} (h : QAt w qb v mp) (hb : Below w.heap.size w w') : QAt w' qb v mp := (hb.block qb (lt_of_block h)).trans h
theorem Pile.past {w w' : World} {B : Nat} {v : Value} {es : List Ent} (h : Pile w B v es) (hb : Below w.heap.size w w') : Pile w' B v es :=
  ⟨h.own.kept (row := none) ⟨hb.os, hb.tape, hb.output, hb.size, fun k hk _ => hb.block k hk⟩ (by cases v.ownBlock with | none => exact .inl rfl | some _ => exact .inr (by simp)),
    fun i hi => (h.ent i hi).of (hb.block _ (h.ent i hi).lt), h.base⟩
/-- The queue's block is none of the pile's. -/
theorem QAt.apart {w : World} {qb B : Nat} {v mp : Value} {es : List Ent} (h : QAt w qb v mp) (hp : Pile w B v es) : ¬ Pile.Foot v es qb := by
  rintro (hv | ⟨e, he, rfl⟩)
  · rcases hp.own.2 with ⟨rfl, _⟩ | ⟨g, cap, cur, rfl, _, hg, _⟩
    · simp [Value.ownBlock] at hv
    · simp [Value.ownBlock] at hv
      subst hv
      exact blk_ne h hg (by decide) rfl
  · obtain ⟨i, hi, rfl⟩ := List.getElem_of_mem he
    exact blk_ne h (hp.ent i hi) (by decide) rfl
theorem QAt.kept {w w' : World} {qb B : Nat} {v mp : Value} {es : List Ent} (h : QAt w qb v mp) (hp : Pile w B v es) (hf : Frame (Pile.Foot v es) w w') : QAt w' qb v mp := hf.get h (h.apart hp)
theorem Pile.Foot.perm {v : Value} {es es' : List Ent} (hp : es'.Perm es) {k : Nat} (h : Pile.Foot v es' k) : Pile.Foot v es k := h.imp_right fun ⟨e, he, hk⟩ => ⟨e, hp.mem_iff.1 he, hk⟩

/-- What a call that moves entries leaves: the same entries, those from n on in their places. -/
structure Moved (w w' : World) (B n : Nat) (v : Value) (es es' : List Ent) : Prop where
  pile : Pile w' B v es'
  perm : es'.Perm es
  rest : ∀ k, n ≤ k → es'[k]! = es[k]!
  frame : Frame (Pile.Foot v es) w w'
theorem Moved.refl {w : World} {B n : Nat} {v : Value} {es : List Ent} (h : Pile w B v es) : Moved w w B n v es es := ⟨h, .refl _, fun _ _ => rfl, .refl _ _⟩
theorem Moved.past {w w' w'' : World} {B n : Nat} {v : Value} {es es' : List Ent} (h : Moved w w' B n v es es') (hb : Below w'.heap.size w' w'') : Moved w w'' B n v es es' :=
  ⟨h.pile.past hb, h.perm, h.rest, h.frame.then (Frame.of_below (S := fun _ => False) hb) (fun _ _ h => h.elim)⟩
theorem Moved.length {w w' : World} {B n : Nat} {v : Value} {es es' : List Ent} (h : Moved w w' B n v es es') : es'.length = es.length := h.perm.length_eq
theorem Moved.swap {w w' w'' : World} {B n g c l : Nat} {es es' : List Ent} (h : Moved w w' B n (.slice (some ⟨g, 0, none⟩) l c) es es') {i j : Nat} (hi : i < es'.length) (hj : j < es'.length) (hin : i < n) (hjn : j < n)
    (hp : Pile w'' B (.slice (some ⟨g, 0, none⟩) l c) (swapL es' i j)) (hf : Frame (Pile.Foot (.slice (some ⟨g, 0, none⟩) l c) es') w' w'') : Moved w w'' B n (.slice (some ⟨g, 0, none⟩) l c) es (swapL es' i j) :=
  ⟨hp, (swapL_perm es' i j hi hj).trans h.perm, fun k hk => by
    rw [← h.rest k hk]
    by_cases hl : k < es'.length
    · rw [swapL_get es' i j k hi hj hl, if_neg (by omega), if_neg (by omega), getElem!_pos es' k hl]
    · rw [getElem!_neg (swapL es' i j) k (by rw [swapL_length]; exact hl), getElem!_neg es' k hl],
   h.frame.then hf (fun _ _ => .perm h.perm)⟩

set_option maxHeartbeats 1000000 in
set_option maxRecDepth 100000 in
theorem up_calls (qb B g cap l n j : Nat) (mp : Value) (es : List Ent) (w : World) (hq : QAt w qb (.slice (some ⟨g, 0, none⟩) l cap) mp) (hp : Pile w B (.slice (some ⟨g, 0, none⟩) l cap) es)
    (hl : l = es.length) (hn : n ≤ l) (hj : j < n) (hx : HeapX es n j) (hd : DownOK es n j) (hbig : l ≤ 4611686018427387904) :
    Calls Try.prog 36 #[.iface 65 (.pointer (some ⟨qb, 0, none⟩)), .int .i64 j] w fun e w' => e = .returned (.tuple #[]) ∧ ∃ es', Moved w w' B n (.slice (some ⟨g, 0, none⟩) l cap) es es' ∧ Heap es' n := by
  have HQ := Box.mk hq
  have HP := Box.mk hp
  have HX := Box.mk hx
  have HD := Box.mk hd
  have HL := Box.mk hl
  clear hq hp hx hd hl
  go_enter Try.func36, Try.ntmps36
  go_wp2
  go_loopg [1, 4] j (fun k v1 v4 w' => ∃ (j' : Nat) (es' : List Ent), v1 = .int .i64 j' ∧ j' ≤ k ∧ j' < n ∧ Box (Moved w w' B n (.slice (some ⟨g, 0, none⟩) l cap) es es') ∧ Box (HeapX es' n j' ∧ DownOK es' n j'))
  case atStart => exact ⟨j, es, rfl, Nat.le_refl _, hj, ⟨.refl HP.out⟩, ⟨HX.out, HD.out⟩⟩
  case round =>
    clear HX HD
    obtain ⟨j', es', rfl, hk, hjn, M, H⟩ := hrel
    have hq1 := HQ.out.kept HP.out M.out.frame
    have HQ1 := Box.mk hq1
    have hL : l = es'.length := HL.out.trans M.out.length.symm
    by_cases h0 : j' = 0
    · subst h0
      clear hq1
      go_wp2
      go_end0
      exact ⟨rfl, es', M.out, .of H.out.1 H.out.2 (fun _ h => absurd h (by omega))⟩
    · obtain ⟨p, hp⟩ : ∃ p, (j' - 1) / 2 = p := ⟨_, rfl⟩
      have HPq := Box.mk hp
      have ep : ((j' : Int) - 1) / 2 = (p : Int) := by omega
      have hpj : p < j' := by omega
      have hne : ((p : Int) == (j' : Int)) = false := by simp; omega
      have hi1 : j' < es'.length := by omega
      have hi2 : p < es'.length := by omega
      have c1 := fun W hb => less_calls B g l cap es' j' p W (M.out.pile.past hb) hL hi1 hi2
      have hml := hq1.less
      have HL1 := Box.mk hL
      clear hp hq1 h0 hL
      cases hv : lessE es'[j'] es'[p] with
      | false =>
        rw [hv] at c1
        have HV := Box.mk hv
        clear hv
        go_wp2_with (first | (go_at_call 81; refine (c1 _ (Below.refl _ _)).mono ?_; rintro e w2 ⟨rfl, hb⟩))
        go_end0
        refine ⟨rfl, es', M.out.past hb, .of H.out.1 H.out.2 (fun _ _ => ?_)⟩
        have := (lessE_false _ _).1 HV.out
        rw [HPq.out, getElem!_pos es' j' hi1, getElem!_pos es' p hi2]
        exact this
      | true =>
        rw [hv] at c1
        have HV := Box.mk hv
        have c2 := fun W hb => swap_calls B g l cap es' p j' W (M.out.pile.past hb) HL1.out hi2 hi1 (by omega)
        clear hv
        go_wp2_with (first | (go_at_call 81; refine (c1 _ (Below.refl _ _)).mono ?_; rintro e w2 ⟨rfl, hb⟩; have hms := (HQ1.out.past hb).swap) | (go_at_call 82; refine (c2 _ hb).mono ?_; rintro e w3 ⟨rfl, hp3, hf3, hz3⟩))
        go_roundg (gk - 1)
        case measure => omega
        case rel =>
          have hlt : ltE es'[j']! es'[p]! := by rw [getElem!_pos es' j' hi1, getElem!_pos es' p hi2]; exact (lessE_iff _ _).1 HV.out
          have hL1 := HL1.out
          have st := up_step (n := n) (by omega) H.out.1 H.out.2 (by omega) hjn HPq.out.symm hlt
          exact ⟨p, swapL es' p j', rfl, by omega, by omega, ⟨(M.out.past hb).swap hi2 hi1 (by omega) hjn hp3 hf3⟩, ⟨st⟩⟩
end Go.Proofs.Ytnnebkmjeigflaa.L
