/- The queue's Due. -/
import Derived.Test.YtnnebkmjeigflaaRead
namespace Go.Proofs.Ytnnebkmjeigflaa.L
open Go.RowKit Go.Maps

def ltKV (p q : Int × Int) : Prop := p.2 < q.2 ∨ p.2 = q.2 ∧ p.1 < q.1
/-- L is l, rising. -/
def Rises (L l : List (Int × Int)) : Prop := L.Perm l ∧ L.Pairwise ltKV
theorem ltKV_kv (a b : Ent) : ltKV (kv a) (kv b) ↔ ltE a b := Iff.rfl
theorem Rises.first {L : List (Int × Int)} {e : Ent} {es : List Ent} (h : Rises L ((e :: es).map kv)) (hh : Heap (e :: es) (e :: es).length) : ∃ L', L = kv e :: L' := by
  cases L with
  | nil => exact absurd h.1.length_eq (by simp)
  | cons r L' =>
    refine ⟨L', ?_⟩
    have hr : r ∈ (e :: es).map kv := h.1.mem_iff.1 (List.mem_cons_self ..)
    obtain ⟨x, hx, rfl⟩ := List.mem_map.1 hr
    have he : kv e ∈ kv x :: L' := h.1.mem_iff.2 (List.mem_map_of_mem (List.mem_cons_self ..))
    rcases List.mem_cons.1 he with h1 | h1
    · rw [h1]
    · have h2 : ltKV (kv x) (kv e) := (List.pairwise_cons.1 h.2).1 _ h1
      obtain ⟨k, hk, rfl⟩ := List.getElem_of_mem hx
      have h3 := hh.first k hk
      rw [getElem!_pos (e :: es) k hk, getElem!_pos (e :: es) 0 (Nat.zero_lt_succ _)] at h3
      exact absurd ((ltKV_kv _ _).1 h2) h3
theorem Rises.tail {L : List (Int × Int)} {p : Int × Int} {l : List (Int × Int)} (h : Rises (p :: L) l) (hA : ApartKV l) : Rises L (without l p.1) := by
  have hA' : ApartKV ([] ++ p :: L) := (h.1.symm.pairwise_iff (R := fun a b : Int × Int => a.1 ≠ b.1) (fun h => h.symm)).1 hA
  have e := without_split hA'
  have hp := h.1.filter (fun q => q.1 != p.1)
  unfold without at e ⊢
  rw [List.nil_append, List.nil_append] at e
  rw [e] at hp
  exact ⟨hp, (List.pairwise_cons.1 h.2).2⟩
theorem Rises.perm {L l l' : List (Int × Int)} (h : Rises L l) (hp : l'.Perm l) : Rises L l' := ⟨h.1.trans hp.symm, h.2⟩
theorem owns_frame {w w' : World} {S : Nat → Prop} {B t s n : Nat} {v : Value} {xs : List Value} (h : w.ownsRow B t s v n xs) (hf : Frame S w w') (hS : ∀ g, v.ownBlock = some g → ¬ S g) : w'.ownsRow B t s v n xs := by
  refine ⟨h.1, ?_⟩
  rcases h.2 with hn | ⟨g, cap, cur, rfl, hb, hg, hr⟩
  · exact .inl hn
  · exact .inr ⟨g, cap, cur, rfl, hb, hf.get hg (hS g rfl), hr⟩
/-- Rows of other elements than the queue's are none of its blocks. -/
theorem Que.foot_kind {w : World} {B qb m k t : Nat} {v : Value} {es : List Ent} (h : Que w B qb m v es) (hF : Que.Foot qb m v es k) {cs : Array Value} {z : Nat × Nat} (hk : w.heap[k]? = some (.cells cs t z)) : t = 57 ∨ t = 61 ∨ t = 63 := by
  rcases hF with rfl | rfl | hv | ⟨e, he, rfl⟩
  · left; have := h.q; unfold QAt at this; rw [hk] at this; injection this with h1; injection h1
  · obtain ⟨f, hf, _⟩ := h.map
    exact absurd rfl (hf.ne_cells hk)
  · right; left
    rcases h.pile.own.2 with ⟨rfl, _⟩ | ⟨g, cap, cur, rfl, _, hg, _⟩
    · simp [Value.ownBlock] at hv
    · simp [Value.ownBlock] at hv
      subst hv
      rw [hk] at hg; injection hg with h1; injection h1
  · right; right
    obtain ⟨i, hi, rfl⟩ := List.getElem_of_mem he
    have := h.pile.ent i hi
    unfold EntAt at this
    rw [hk] at this; injection this with h1; injection h1
theorem Que.row_apart {w : World} {B B' qb m t s n : Nat} {v u : Value} {es : List Ent} {xs : List Value} (h : Que w B qb m v es) (hr : w.ownsRow B' t s u n xs) (ht : t ≠ 57 ∧ t ≠ 61 ∧ t ≠ 63) : ∀ g, u.ownBlock = some g → ¬ Que.Foot qb m v es g := by
  intro g hg hF
  rcases hr.2 with ⟨rfl, _⟩ | ⟨g', cap, cur, rfl, _, hb, _⟩
  · simp [Value.ownBlock] at hg
  · simp [Value.ownBlock] at hg
    subst hg
    rcases h.foot_kind hF hb with h1 | h1 | h1
    · exact ht.1 h1
    · exact ht.2.1 h1
    · exact ht.2.2 h1
theorem Turned.trans {w w1 w2 : World} {B qb m : Nat} {v v1 v2 : Value} {es es1 es2 : List Ent} {l1 l2 : List (Int × Int)} (h : Turned w w1 B qb m v es l1 v1 es1) (k : Turned w1 w2 B qb m v1 es1 l2 v2 es2) : Turned w w2 B qb m v es l2 v2 es2 :=
  ⟨k.que, k.perm, h.frame.trans k.frame (fun _ _ h1 => h1) (fun i hi h1 => by
    rcases h.foot i h1 with h2 | h2
    · exact h2
    · exact absurd hi (Nat.not_lt.2 h2)), fun i hF => by
    rcases k.foot i hF with h1 | h1
    · exact h.foot i h1
    · exact .inr (Nat.le_trans h.frame.size h1)⟩
theorem Turned.grown {w w1 w2 : World} {S : Nat → Prop} {B qb m : Nat} {v v1 : Value} {es es1 : List Ent} {l1 : List (Int × Int)} (h : Turned w w1 B qb m v es l1 v1 es1) (hf : Frame S w1 w2) (hS : ∀ k, Que.Foot qb m v1 es1 k → ¬ S k) (hS' : ∀ k, k < w.heap.size → ¬ S k) : Turned w w2 B qb m v es l1 v1 es1 :=
  ⟨h.que.of fun k hF => hf.block k (h.que.foot_base hF).2 (hS k hF), h.perm, h.frame.then hf (fun i hi h1 => absurd h1 (hS' i hi)), h.foot⟩
theorem Turned.drewN {w w1 : World} {B qb m : Nat} {v v1 : Value} {es es1 : List Ent} {l1 : List (Int × Int)} (h : Turned w w1 B qb m v es l1 v1 es1) (n : Nat) : Turned w (w1.drewN n) B qb m v es l1 v1 es1 :=
  h.grown (S := fun _ => False) ((Frame.refl _ w1).drewN n) (fun _ _ h => h) (fun _ _ h => h)
theorem Turned.repl {w w1 : World} {B qb m : Nat} {v v1 : Value} {es es1 : List Ent} {l1 l2 : List (Int × Int)} (h : Turned w w1 B qb m v es l1 v1 es1) (hp : l1.Perm l2) : Turned w w1 B qb m v es l2 v1 es1 := ⟨h.que, h.perm.trans hp, h.frame, h.foot⟩

def intV (p : Int × Int) : Value := .int .i64 p.1
/-- What Due hands back: what is due, in a row of its own; the rest stays. -/
def Dues (w : World) (B qb m : Nat) (v : Value) (es : List Ent) (L : List (Int × Int)) (now : Int) (e : Ending) (w' : World) : Prop :=
  ∃ r, e = .returned r ∧ w'.ownsRow w.heap.size 3 1 r (L.takeWhile fun p => decide (p.2 ≤ now)).length ((L.takeWhile fun p => decide (p.2 ≤ now)).map intV) ∧ ∃ v' es', Turned w w' B qb m v es (L.dropWhile fun p => decide (p.2 ≤ now)) v' es'
theorem info3 : (Try.prog.info? 3).map (fun i => (i.zero, i.size, i.bytes)) = some (some (.int .i64 0), 1, 8) := by kernel_rfl
/-- What the loop of Due has come to. -/
structure DueAt (w w' : World) (B qb m : Nat) (v : Value) (es : List Ent) (L : List (Int × Int)) (now : Int) (done rest : List (Int × Int)) (r v' : Value) (es' : List Ent) : Prop where
  parts : L = done ++ rest
  due : ∀ p ∈ done, p.2 ≤ now
  rises : Rises rest (es'.map kv)
  row : w'.ownsRow w.heap.size 3 1 r done.length (done.map intV)
  turned : Turned w w' B qb m v es rest v' es'
theorem DueAt.done {w w' : World} {B qb m : Nat} {v r v' : Value} {es es' : List Ent} {L done rest : List (Int × Int)} {now : Int} (h : DueAt w w' B qb m v es L now done rest r v' es') (hr : ∀ p, rest.head? = some p → ¬ p.2 ≤ now) :
    Dues w B qb m v es L now (.returned r) w' := by
  have e1 : L.takeWhile (fun p => decide (p.2 ≤ now)) = done ∧ L.dropWhile (fun p => decide (p.2 ≤ now)) = rest := by
    rw [h.parts]
    have hd : ∀ p ∈ done, decide (p.2 ≤ now) = true := fun p hp => by simpa using h.due p hp
    rw [List.takeWhile_append_of_pos hd, List.dropWhile_append_of_pos hd]
    cases rest with
    | nil => simp
    | cons p rest =>
      have := hr p rfl
      rw [List.takeWhile_cons_of_neg (by simpa using this), List.dropWhile_cons_of_neg (by simpa using this), List.append_nil]
      exact ⟨rfl, rfl⟩
  exact ⟨r, rfl, by rw [e1.1]; exact h.row, v', es', by rw [e1.2]; exact h.turned⟩
def firstI (es : List Ent) : Int := match es with | [] => 0 | e :: _ => e.id
def firstT (es : List Ent) : Int := match es with | [] => 0 | e :: _ => e.till
theorem firstV_eq (es : List Ent) : firstV es = .tuple #[.int .i64 (firstI es), .int .i64 (firstT es), .bool (!es.isEmpty)] := by cases es <;> rfl
theorem calls_first (B qb m : Nat) (v : Value) (es : List Ent) (w : World) (h : Que w B qb m v es) :
    Calls Try.prog 16 #[.pointer (some ⟨qb, 0, none⟩)] w fun e w' => e = .returned (.tuple #[.int .i64 (firstI es), .int .i64 (firstT es), .bool (!es.isEmpty)]) ∧ ∃ n, w' = w.drewN n := by
  rw [← firstV_eq]; exact first_calls B qb m v es w h
set_option maxHeartbeats 4000000 in
set_option maxRecDepth 100000 in
theorem due_calls (B qb m : Nat) (v : Value) (es : List Ent) (L : List (Int × Int)) (now : Int) (w : World) (h : Que w B qb m v es) (hL : Rises L (es.map kv)) :
    Calls Try.prog 22 #[.pointer (some ⟨qb, 0, none⟩), .int .i64 now] w (Dues w B qb m v es L now) := by
  obtain ⟨i0, hi, hz0, hz1, hz2⟩ := info_parts info3
  have c1 := calls_first B qb m v es w h
  have hlen : es.length = L.length := by have := hL.1.length_eq; rw [List.length_map] at this; exact this.symm
  have HQ := Box.mk h
  have HL := Box.mk hL
  have hfew : L.length ≤ 1024 := by have := h.few; omega
  clear h hL hlen
  go_enter Try.func22, Try.ntmps22
  go_wp2_with (first | (go_at_call 16; refine c1.mono ?_; rintro e w1 ⟨rfl, n1, rfl⟩))
  go_loopg [5, 6, 7, 8] L.length (fun k v5 v6 v7 v8 w' => ∃ (done rest : List (Int × Int)) (v' : Value) (es' : List Ent), v6 = .int .i64 (firstI es') ∧ v7 = .int .i64 (firstT es') ∧ v8 = .bool (!es'.isEmpty) ∧ Box (rest.length = k) ∧ Box (DueAt w w' B qb m v es L now done rest v5 v' es'))
  case atStart => exact ⟨[], L, v, es, rfl, rfl, rfl, ⟨rfl⟩, ⟨⟨rfl, fun _ hp => (by cases hp), HL.out, World.ownsRow_nil _ _ _ _, (Turned.same HQ.out rfl).repl HL.out.1.symm |>.drewN n1⟩⟩⟩
  case round =>
    obtain ⟨done, rest, v', es', rfl, rfl, rfl, K, D⟩ := hrel
    clear HQ HL c1
    cases es' with
    | nil =>
      have E := Box.mk (D.out.done (fun p hp => by
        have := D.out.rises.1.length_eq
        cases rest with
        | nil => cases hp
        | cons => simp at this))
      have hI : firstI [] = 0 := rfl
      have hT : firstT [] = 0 := rfl
      rw [hI, hT]
      clear hI hT
      go_wp2
      go_ret
      exact E.out
    | cons e t =>
      obtain ⟨rest', rfl⟩ := D.out.rises.first D.out.turned.que.heap
      by_cases hle : e.till ≤ now
      · cases gk with
        | zero => exact absurd K.out (by simp)
        | succ k1 =>
        have hA : ApartKV ((e :: t).map kv) := apart_kv D.out.turned.que.apart
        have hown := D.out.row
        have hown' := hown.alloc (.cells #[.int .i64 e.id] 3)
        have hdl : done.length ≤ 1024 := by have := congrArg List.length D.out.parts; rw [List.length_append] at this; omega
        have h63 : done.length + 1 ≤ maxLen := by unfold maxLen; omega
        have hby : (done.length + 1) * 8 ≤ 140737488355328 := by omega
        have hbase : w.heap.size ≤ (wr.alloc (.cells #[.int .i64 e.id] 3)).heap.size := by rw [World.size_alloc]; have := D.out.turned.frame.size; omega
        have hcells : ∀ u ∈ [Value.int .i64 e.id], u.oneCell' = true := by simp [Value.oneCell']
        have hm0 : 0 < 1 := by decide
        have HO := Box.mk hown'
        have hI : firstI (e :: t) = e.id := rfl
        have hT : firstT (e :: t) = e.till := rfl
        rw [hI, hT]
        clear hown hown' hI hT
        go_wp2_with (first | (at_builtin; refine wpList_append_own _ rfl _ _ 28 rfl w.heap.size 3 i0 (.int .i64 0) 1 8 Try.underlying28 hi hz0 hz1 hz2 (by rfl) hm0 _ _ _ (by rfl) HO.out ⟨wr.heap.size, 0, none⟩ 1 1 [.int .i64 e.id] (by rfl) (by rfl) (cell_one_new _ _ _) hcells h63 hby hbase ?_; intro r2 w2 hown2 hgrow _))
        have hf2 : Frame (fun k => u5.ownBlock = some k) wr w2 := ((Frame.refl _ wr).alloc _).grown hgrow (fun k hk _ => hk)
        have T2 := D.out.turned.grown hf2 (fun k hF hk => D.out.turned.que.row_apart D.out.row (by decide) k hk hF) (fun k hk h1 => by have := (D.out.row.lt k h1).1; omega)
        have hwf := (D.out.turned.que.wf e (List.mem_cons_self ..)).1
        have c2 := drop_calls B qb m v' (e :: t) e.id w2 T2.que hwf
        have HT2 := Box.mk T2
        have HO2 := Box.mk hown2
        have HA := Box.mk hA
        clear hown2 hgrow hf2 T2 hwf HO hA
        refine c2.mono ?_
        rintro x w3 ⟨rfl, v3, es3, T3⟩
        have c3 := calls_first B qb m v3 es3 w3 T3.que
        have HT3 := Box.mk T3
        clear T3 c2
        go_wp2_with (first | (go_at_call 16; refine c3.mono ?_; rintro x w4 ⟨rfl, n4, rfl⟩))
        go_roundg k1
        case measure => omega
        case rel =>
          have R := D.out.rises.tail HA.out
          refine ⟨done ++ [kv e], rest', v3, es3, rfl, rfl, rfl, ⟨by have := K.out; rw [List.length_cons] at this; omega⟩, ⟨⟨?_, ?_, ?_, ?_, ?_⟩⟩⟩
          · rw [D.out.parts, List.append_assoc]; rfl
          · intro p hp
            rcases List.mem_append.1 hp with h1 | h1
            · exact D.out.due p h1
            · obtain rfl := List.mem_singleton.1 h1; exact hle
          · exact R.perm HT3.out.perm
          · show World.ownsRow w3 _ _ _ _ _ _
            rw [List.length_append, List.length_singleton, List.map_append, List.map_singleton]
            exact owns_frame HO2.out HT3.out.frame (fun g hg hF => HT2.out.que.row_apart HO2.out (by decide) g hg hF)
          · exact ((HT2.out.trans HT3.out).repl R.1.symm).drewN n4
      · have E := Box.mk (D.out.done (fun p hp => by injection hp with hp; rw [← hp]; exact hle))
        have hle' : ¬ firstT (e :: t) ≤ now := hle
        clear hle
        go_wp2
        go_ret
        exact E.out
end Go.Proofs.Ytnnebkmjeigflaa.L
