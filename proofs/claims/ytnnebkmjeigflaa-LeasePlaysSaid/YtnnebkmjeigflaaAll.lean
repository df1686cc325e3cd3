/- slices.SortedFunc over the pile; the queue's All. -/
import Derived.Test.YtnnebkmjeigflaaIter
import Derived.Test.YtnnebkmjeigflaaSort
import Derived.Shelf.SlSortCmp.NoneTotal
namespace Go.Proofs.Ytnnebkmjeigflaa.L
open Go.RowKit Go.Shelf Go.Sort

theorem ltE_trans {a b c : Ent} (h : ltE a b) (k : ltE b c) : ltE a c := by unfold ltE at *; omega
theorem lessE_decide (a b : Ent) : decide (ordE a b < 0) = lessE a b := rfl
theorem heap_sortWorld {α : Type} [Inhabited α] (enc : α → Value) (w : World) (blk off n : Nat) (d : Array α) (os : Array Obj) : Frame (fun k => k = blk) w (sortWorld enc w blk off n d os) := by
  refine ⟨rfl, rfl, rfl, ?_, fun k hk hn => ?_⟩
  · show w.heap.size ≤ ((putRow enc (Sort.ahead w n) blk off d).heap ++ os).size
    rw [Array.size_append]
    have : (putRow enc (Sort.ahead w n) blk off d).heap.size = w.heap.size := size_putRow _ _ _ _ _
    omega
  · show ((putRow enc (Sort.ahead w n) blk off d).heap ++ os)[k]? = _
    have hs : (putRow enc (Sort.ahead w n) blk off d).heap.size = w.heap.size := size_putRow _ _ _ _ _
    rw [Array.getElem?_append_left (by omega)]
    show ((w.heap.modify blk _))[k]? = _
    rw [Array.getElem?_modify, if_neg (fun e => hn e.symm)]
/-- A sorted row of entries. -/
structure SortedRow (w w' : World) (g : Nat) (es es' : List Ent) : Prop where
  perm : es'.Perm es
  rises : ∀ i j (hi : i < es'.length) (hj : j < es'.length), i < j → leE es'[i] es'[j]
  cells : ∀ i (h : i < es'.length), w'.cell? ⟨g, i, none⟩ = some es'[i].ptr
  frame : Frame (fun k => k = g) w w'
  blk : ∃ cur, w'.heap[g]? = some (.cells cur 61 (0, 0))
theorem blk_sortWorld {α : Type} [Inhabited α] (enc : α → Value) (w : World) (blk off n : Nat) (d : Array α) (os : Array Obj) {cur : Array Value} {t : TypeId} (h : w.heap[blk]? = some (.cells cur t (0, 0))) :
    ∃ cur', (sortWorld enc w blk off n d os).heap[blk]? = some (.cells cur' t (0, 0)) := by
  refine ⟨putCells enc off d cur, ?_⟩
  show ((putRow enc (Sort.ahead w n) blk off d).heap ++ os)[blk]? = _
  have hs : (putRow enc (Sort.ahead w n) blk off d).heap.size = w.heap.size := size_putRow _ _ _ _ _
  rw [Array.getElem?_append_left (by have := lt_of_block h; omega)]
  show ((w.heap.modify blk _))[blk]? = _
  rw [Array.getElem?_modify, if_pos rfl, h]
  rfl
theorem sort_calls (B qb m : Nat) (v : Value) (es : List Ent) (g cap : Nat) (w : World) (h : Que w B qb m v es) (hne : es ≠ []) (hcell : ∀ i (h : i < es.length), w.cell? ⟨g, i, none⟩ = some es[i].ptr ∧ w.frozen? ⟨g, i, none⟩ = false) (hg : g < w.heap.size)
    (hF : ∀ e ∈ es, e.blk ≠ g) (hblk : ∃ cur, w.heap[g]? = some (.cells cur 61 (0, 0))) : Calls Try.prog 38 #[.slice (some ⟨g, 0, none⟩) es.length cap, .func (.func 29) #[] #[]] w fun e w' => e = .returned (.tuple #[]) ∧ ∃ es', SortedRow w w' g es es' := by
  have h0 : 0 < es.length := List.length_pos_iff.2 hne
  haveI : Inhabited {e : Ent // e ∈ es} := ⟨⟨es[0], List.getElem_mem h0⟩⟩
  have hsz : (es.attach.toArray).size = es.length := by simp
  have hO : SWO (ltOf fun x y : {e : Ent // e ∈ es} => ordE x.1 y.1) := by
    have e1 : ∀ x y : {e : Ent // e ∈ es}, ltOf (fun x y : {e : Ent // e ∈ es} => ordE x.1 y.1) x y = lessE x.1 y.1 := fun _ _ => rfl
    refine ⟨fun x => ?_, fun x y z h1 h2 => ?_, fun x y z h1 h2 => ?_⟩
    · rw [e1, lessE_false]; exact leE_refl _
    · rw [e1, lessE_iff] at *; exact ltE_trans h1 h2
    · rw [e1, lessE_false] at *; exact leE_trans h2 h1
  have hH : Holds (fun x : {e : Ent // e ∈ es} => x.1.ptr) w g 0 es.attach.toArray := fun j hj => by
    rw [hsz] at hj
    have := hcell j hj
    rw [Nat.zero_add, getElem!_pos es.attach.toArray j (by rw [hsz]; exact hj)]
    simpa using this
  have hcmp : CmpLays1 Try.prog 29 #[] (fun x : {e : Ent // e ∈ es} => x.1.ptr) (fun x y => ordE x.1 y.1) g 0 es.attach.toArray.size w := fun n os dk hs x y => by
    obtain ⟨i, hi, ex⟩ := List.getElem_of_mem x.2
    obtain ⟨j, hj, ey⟩ := List.getElem_of_mem y.2
    have fr := heap_sortWorld (fun x : {e : Ent // e ∈ es} => x.1.ptr) w g 0 n dk os
    have hx : EntAt (sortWorld (fun x : {e : Ent // e ∈ es} => x.1.ptr) w g 0 n dk os) x.1 i := by
      have := h.pile.ent i hi
      rw [ex] at this
      exact fr.get this (hF _ x.2)
    have hy : EntAt (sortWorld (fun x : {e : Ent // e ∈ es} => x.1.ptr) w g 0 n dk os) y.1 j := by
      have := h.pile.ent j hj
      rw [ey] at this
      exact fr.get this (hF _ y.2)
    exact (order_exact x.1 y.1 i j _ hx hy).mono fun _ _ ⟨he, o, hw⟩ => ⟨he, 1, #[o], by rw [hw, alloc_eq_grow]; rfl⟩
  have hS := Any.slices_SortFunc Try.laysSort (fun x : {e : Ent // e ∈ es} => x.1.ptr) (fun _ => rfl) (fun x y => ordE x.1 y.1) hO 29 #[] g 0 cap es.attach.toArray w (enters_of Try.func29 (by kernel_rfl) rfl) hcmp hH hg (by rw [hsz]; have := h.few; omega)
  rw [hsz] at hS
  refine hS.mono ?_
  rintro e w' ⟨rfl, d', n, os, hp, hs, rfl⟩
  have hd : d'.size = es.length := hp.1.trans hsz
  have hget : ∀ i (hi : i < (d'.toList.map (·.1)).length), (d'.toList.map (·.1))[i] = (d'[i]!).1 := fun i hi => by
    rw [List.length_map, Array.length_toList] at hi
    rw [List.getElem_map, Array.getElem_toList, getElem!_pos d' i hi]
  refine ⟨rfl, d'.toList.map (·.1), ⟨?_, fun i j hi hj hij => ?_, fun i hi => ?_, heap_sortWorld _ _ _ _ _ _ _, blk_sortWorld _ _ _ _ _ _ _ hblk.choose_spec⟩⟩
  · have h1 := hp.2.2
    rw [Array.extract_eq_self_of_le (by omega), Array.extract_eq_self_of_le (by omega)] at h1
    have h2 := h1.map (fun x : {e : Ent // e ∈ es} => x.1)
    simpa using h2
  · rw [hget i hi, hget j hj]
    rw [List.length_map, Array.length_toList] at hi hj
    exact (lessE_false _ _).1 (hs i j (Nat.zero_le _) hij (by omega))
  · rw [hget i hi]
    rw [List.length_map, Array.length_toList] at hi
    have := (holds_sortWorld (fun x : {e : Ent // e ∈ es} => x.1.ptr) w g 0 n es.attach.toArray d' os hg hH hp.1) i hi
    rw [Nat.zero_add] at this
    exact this.1
theorem SortedRow.rises' {w w' : World} {g : Nat} {es es' : List Ent} (h : SortedRow w w' g es es') (hA : Apart es) : Rises (es'.map kv) (es.map kv) := by
  refine ⟨h.perm.map kv, ?_⟩
  have hA' := hA.perm h.perm
  unfold Apart at hA'
  rw [List.pairwise_map]
  rw [List.pairwise_iff_getElem] at hA' ⊢
  intro i j hi hj hij
  have h1 := h.rises i j hi hj hij
  have h2 := hA' i j hi hj hij
  rw [leE_iff] at h1
  unfold ltKV kv
  omega

set_option maxHeartbeats 1000000 in
theorem collect_calls (bc : Nat) (ao : Option Addr) (cap : Nat) (es : List Ent) (w : World) (hlen : es.length ≤ 1000000) (hc : w.cell? ⟨bc, 0, none⟩ = some (.slice ao es.length cap))
    (hcell : ∀ i (h : i < es.length), ∃ g, ao = some ⟨g, 0, none⟩ ∧ w.cell? ⟨g, i, none⟩ = some es[i].ptr) :
    Calls Try.prog 37 #[.func (.func 39) #[] #[.pointer (some ⟨bc, 0, none⟩)]] w fun e w' => ∃ r, e = .returned r ∧ w'.ownsRow w.heap.size 61 1 r es.length (es.map Ent.ptr) ∧ Below w.heap.size w w' := by
  have c1 := appendSeq_calls bc ao cap es w hlen hc hcell
  clear hc hcell
  go_enter Try.func37, Try.ntmps37
  go_wp2_with (first | (go_at_call 43; refine c1.mono ?_; rintro e w1 ⟨r, rfl, ho, hb⟩))
  go_ret
  exact ⟨r, rfl, ho, hb⟩
theorem owns_cells {w : World} {B t n : Nat} {g cap : Nat} {xs : List Value} (h : w.ownsRow B t 1 (.slice (some ⟨g, 0, none⟩) n cap) n xs) (i : Nat) (hi : i < xs.length) : w.cell? ⟨g, i, none⟩ = some xs[i] ∧ w.frozen? ⟨g, i, none⟩ = false := by
  rcases h.2 with ⟨hv, _⟩ | ⟨g', cap', cur, hv, _, hg, _, _, _, ht⟩
  · cases hv
  · injection hv with h1 h2 h3
    injection h1 with h1
    injection h1 with h1
    subst h1
    have e : (cur.toList.take (n * 1))[i]? = xs[i]? := by rw [ht]
    have hl := h.1
    rw [List.getElem?_take, if_pos (by omega), List.getElem?_eq_getElem hi] at e
    refine ⟨?_, free_of hg i⟩
    rw [cell_of hg i]
    simpa using e
/-- What SortedFunc hands back: a row of the queue's entries, rising. -/
def SortedFunc (w : World) (es : List Ent) (e : Ending) (w' : World) : Prop :=
  ∃ (ao : Option Addr) (cap : Nat) (es' : List Ent), e = .returned (.slice ao es.length cap) ∧ es'.Perm es ∧ Rises (es'.map kv) (es.map kv) ∧ (∀ i (h : i < es'.length), ∃ g cur, ao = some ⟨g, 0, none⟩ ∧ w'.heap[g]? = some (.cells cur 61 (0, 0)) ∧ cur[i]? = some es'[i].ptr) ∧ Below w.heap.size w w'
set_option maxHeartbeats 1000000 in
set_option maxRecDepth 100000 in
theorem sortedFunc_calls (B qb m : Nat) (bc : Nat) (ao : Option Addr) (cap : Nat) (es : List Ent) (w : World) (h : Que w B qb m (.slice ao es.length cap) es) (hc : w.cell? ⟨bc, 0, none⟩ = some (.slice ao es.length cap)) :
    Calls Try.prog 27 #[.func (.func 39) #[] #[.pointer (some ⟨bc, 0, none⟩)], .func (.func 29) #[] #[]] w (SortedFunc w es) := by
  have hcell : ∀ i (hi : i < es.length), ∃ g, ao = some ⟨g, 0, none⟩ ∧ w.cell? ⟨g, i, none⟩ = some es[i].ptr := fun i hi => by
    obtain ⟨ao', cap', hv, hg⟩ := h.slice
    injection hv with h1 h2 h3
    subst h1
    subst h3
    obtain ⟨g, rfl⟩ := hg (fun e => by rw [e] at hi; exact absurd hi (Nat.not_lt_zero _))
    exact ⟨g, rfl, h.pile.cell i hi⟩
  have c1 := collect_calls bc ao cap es w (by have := h.few; omega) hc hcell
  have H := Box.mk h
  clear h hc hcell
  by_cases hne : es = []
  · subst hne
    go_enter Try.func27, Try.ntmps27
    go_wp2_with (first | (go_at_call 37; refine c1.mono ?_; rintro e w1 ⟨r, rfl, ho, hb⟩))
    have hr : r = .slice none 0 0 ∨ ∃ a c, r = .slice (some a) 0 c := by
      rcases ho.2 with ⟨rfl, _⟩ | ⟨g, c, cur, rfl, _⟩
      · exact .inl rfl
      · exact .inr ⟨_, _, rfl⟩
    obtain ⟨p, c, rfl⟩ : ∃ p c, r = .slice p 0 c := by
      rcases hr with rfl | ⟨a, c, rfl⟩
      · exact ⟨_, _, rfl⟩
      · exact ⟨_, _, rfl⟩
    have c2 : Calls Try.prog 38 #[.slice p 0 c, .func (.func 29) #[] #[]] w1 fun e w' => e = .returned (.tuple #[]) ∧ w' = w1 := AnyF.slices_SortFunc_none (P := Try.prog) (ρ := Try.laysSort_ren) { Try.laysSort with } p c (.func (.func 29) #[] #[]) w1
    have HB := Box.mk hb
    clear ho hb hr c1
    go_wp2_with (first | (go_at_call 38; refine c2.mono ?_; rintro e w2 ⟨rfl, rfl⟩))
    go_ret
    exact ⟨p, c, [], rfl, .refl _, ⟨.refl _, List.Pairwise.nil⟩, fun i hi => absurd hi (Nat.not_lt_zero _), HB.out⟩
  · go_enter Try.func27, Try.ntmps27
    go_wp2_with (first | (go_at_call 37; refine c1.mono ?_; rintro e w1 ⟨r, rfl, ho, hb⟩))
    obtain ⟨g, c, rfl, hgw⟩ : ∃ g c, r = .slice (some ⟨g, 0, none⟩) es.length c ∧ w.heap.size ≤ g := by
      rcases ho.2 with ⟨_, h0⟩ | ⟨g, c, cur, rfl, hb, _⟩
      · exact absurd (List.length_eq_zero_iff.1 h0) hne
      · exact ⟨_, _, rfl, hb⟩
    have hglt := (ho.lt g rfl).2
    have hq1 := H.out.past hb
    have hF : ∀ e ∈ es, e.blk ≠ g := fun e he eq => by
      have := (H.out.pile.foot_base (k := e.blk) (.inr ⟨e, he, rfl⟩)).2
      omega
    have c2 := sort_calls B qb m _ es g c w1 hq1 hne (fun i hi => by have := owns_cells ho i (by rw [List.length_map]; exact hi); rwa [List.getElem_map] at this) hglt hF (by
      rcases ho.2 with ⟨hv, _⟩ | ⟨g', c', cur, hv, _, hgb, _⟩
      · cases hv
      · injection hv with h1; injection h1 with h1; injection h1 with h1; subst h1; exact ⟨cur, hgb⟩)
    have HB := Box.mk hb
    have HA := Box.mk hgw
    clear ho hb hq1 hF hglt hgw c1
    go_wp2_with (first | (go_at_call 38; refine c2.mono ?_; rintro e w2 ⟨rfl, es', hS⟩; have HS := Box.mk hS; clear hS))
    go_ret
    exact ⟨some ⟨g, 0, none⟩, c, es', rfl, HS.out.perm, HS.out.rises' H.out.apart, fun i hi => by
      obtain ⟨cur, hb⟩ := HS.out.blk
      have := HS.out.cells i hi
      rw [cell_of hb i] at this
      exact ⟨g, cur, rfl, hb, this⟩, HB.out.trans (HS.out.frame.below HB.out.size (fun k hk => by rw [hk]; exact HA.out))⟩
/-- What All hands back: the numbers, rising, in a row of its own. -/
def Alls (w : World) (L : List (Int × Int)) (e : Ending) (w' : World) : Prop := ∃ r, e = .returned r ∧ w'.ownsRow w.heap.size 3 1 r L.length (L.map intV) ∧ Below w.heap.size w w'
theorem rises_unique : ∀ {L L' : List (Int × Int)}, L.Perm L' → L.Pairwise ltKV → L'.Pairwise ltKV → L = L'
  | [], L', hp, _, _ => hp.nil_eq
  | p :: L, L', hp, h, h' => by
    cases L' with
    | nil => exact absurd hp.length_eq (by simp)
    | cons q L' =>
      have hq : q ∈ p :: L := hp.mem_iff.2 (List.mem_cons_self ..)
      have hpm : p ∈ q :: L' := hp.mem_iff.1 (List.mem_cons_self ..)
      have hpq : p = q := by
        rcases List.mem_cons.1 hq with h1 | h1
        · exact h1.symm
        · rcases List.mem_cons.1 hpm with h2 | h2
          · exact h2
          · have a := (List.pairwise_cons.1 h).1 q h1
            have b := (List.pairwise_cons.1 h').1 p h2
            unfold ltKV at a b
            omega
      subst hpq
      rw [rises_unique (hp.cons_inv) (List.pairwise_cons.1 h).2 (List.pairwise_cons.1 h').2]
set_option maxHeartbeats 4000000 in
set_option maxRecDepth 100000 in
theorem all_calls (B qb m : Nat) (v : Value) (es : List Ent) (L : List (Int × Int)) (w : World) (h : Que w B qb m v es) (hL : Rises L (es.map kv)) :
    Calls Try.prog 11 #[.pointer (some ⟨qb, 0, none⟩)] w (Alls w L) := by
  obtain ⟨i0, hi, hz0, hz1, hz2⟩ := info_parts info3
  have c1 := ok_calls B qb m v es w h
  obtain ⟨ao, cap, rfl, _⟩ := h.slice
  have hc0 := h.q.c0
  have c2 := values_calls ao es.length cap w
  have hA : Que (w.alloc (.cells #[.slice ao es.length cap] 54)) B qb m (.slice ao es.length cap) es := h.past ((Below.refl _ w).alloc (Nat.le_refl _) _)
  have c3 := sortedFunc_calls B qb m w.heap.size ao cap es (w.alloc (.cells #[.slice ao es.length cap] 54)) hA (by rw [cell_of (new_block w _) 0]; rfl)
  have H := Box.mk h
  have HL := Box.mk hL
  clear h hL hA
  go_enter Try.func11, Try.ntmps11
  go_wp2_with (first | (go_at_call 24; refine c1.mono ?_; rintro e w1 ⟨rfl, rfl⟩) | (go_at_call 28; refine c2.mono ?_; rintro e w1 ⟨rfl, rfl⟩) | (go_at_call 27; refine c3.mono ?_; rintro e w2 ⟨ao2, cap2, es2, rfl, hp, hr, hcell, hb⟩))
  have hLL : es2.map kv = L := rises_unique (hr.1.trans HL.out.1.symm) hr.2 HL.out.2
  have hl2 : es2.length = es.length := hp.length_eq
  have hb2 : Below w.heap.size w w2 := ((Below.refl _ w).alloc (Nat.le_refl _) _).trans (hb.mono (by simp))
  have hfew : es.length ≤ 1024 := H.out.few
  have hent : ∀ i (hi : i < es2.length), ∃ k, EntAt w es2[i] k := fun i hi => by
    obtain ⟨k, hk, e⟩ := List.getElem_of_mem (hp.mem_iff.1 (List.getElem_mem hi))
    exact ⟨k, e ▸ H.out.pile.ent k hk⟩
  subst hLL
  obtain ⟨n, hn⟩ : ∃ n, es.length = n := ⟨_, rfl⟩
  rw [hn] at hfew hl2 ⊢
  have HN := Box.mk hl2
  have HC := Box.mk hcell
  have HB := Box.mk hb2
  have HE := Box.mk hent
  clear hp hr hcell hb hb2 hent hn hl2 H HL c1 c2 c3
  go_loopg [3, 15] n (fun k v3 v15 wr => ∃ i : Nat, v15 = .int .i64 i ∧ Box (i + k = n) ∧ Box (wr.ownsRow w.heap.size 3 1 v3 i (((es2.take i).map kv).map intV)) ∧ Box (Below w.heap.size w wr) ∧ Box (∀ i (h : i < es2.length), ∃ g cur, ao2 = some ⟨g, 0, none⟩ ∧ wr.heap[g]? = some (.cells cur 61 (0, 0)) ∧ cur[i]? = some es2[i].ptr))
  case atStart => exact ⟨0, rfl, ⟨by omega⟩, ⟨World.ownsRow_nil _ _ _ _⟩, HB, HC⟩
  case round =>
    clear HB HC
    obtain ⟨i, rfl, HK, HO, HB, HC⟩ := hrel
    cases gk with
    | zero =>
      have hlt : ¬ (i : Int) < n := by have := HK.out; omega
      go_wp2
      go_ret
      have hin : i = es2.length := by have := HK.out; have := HN.out; omega
      have ho := HO.out
      rw [List.take_of_length_le (by omega)] at ho
      exact ⟨_, rfl, by rw [List.length_map, ← hin]; exact ho, HB.out⟩
    | succ k1 =>
      have hlt : (i : Int) < n := by have := HK.out; omega
      have hi2 : i < es2.length := by have := HK.out; have := HN.out; omega
      have h0 : (0 : Int) ≤ i := by omega
      obtain ⟨g, cur, hg, hgb, hcur⟩ := HC.out i hi2
      obtain ⟨k0, hE⟩ := HE.out i hi2
      have hEr : EntAt wr es2[i] k0 := (HB.out.block _ hE.lt).trans hE
      have hc1 : wr.cell? ⟨g, i, none⟩ = some (.pointer (some ⟨es2[i].blk, 0, none⟩)) := (cell_of hgb i).trans hcur
      have hc2 : wr.cell? ⟨es2[i].blk, 0, none⟩ = some (.int .i64 es2[i].id) := (cell_of hEr 0).trans rfl
      subst hg
      have h63 : i + 1 ≤ maxLen := by unfold maxLen; omega
      have hby : (i + 1) * 8 ≤ 140737488355328 := by omega
      have hbase : w.heap.size ≤ (wr.alloc (.cells #[.int .i64 es2[i].id] 3)).heap.size := by rw [World.size_alloc]; have := HB.out.size; omega
      have hcells : ∀ u ∈ [Value.int .i64 es2[i].id], u.oneCell' = true := by simp [Value.oneCell']
      have hm0 : 0 < 1 := by decide
      have hown' := HO.out.alloc (.cells #[.int .i64 es2[i].id] 3)
      have HOA := Box.mk hown'
      have HGB := Box.mk hgb
      clear hE hEr hcur hown' hgb
      go_wp2_with (first | (at_builtin; refine wpList_append_own _ rfl _ _ 28 rfl w.heap.size 3 i0 (.int .i64 0) 1 8 Try.underlying28 hi hz0 hz1 hz2 (by rfl) hm0 _ _ _ (by rfl) HOA.out ⟨wr.heap.size, 0, none⟩ 1 1 [.int .i64 es2[i].id] (by rfl) (by rfl) (cell_one_new _ _ _) hcells h63 hby hbase ?_; intro r3 w3 hown3 hgrow _))
      have HO3 := Box.mk hown3
      have HB3 := Box.mk ((HB.out.alloc HB.out.size (.cells #[.int .i64 es2[i].id] 3)).grown hgrow hbase (fun k hk => (HO.out.lt k hk).1))
      have hne : u3.ownBlock ≠ some g := fun e => by
        rcases HO.out.2 with ⟨hv, _⟩ | ⟨g', c', cur', hv, _, hgb', _⟩
        · rw [hv] at e; simp [Value.ownBlock] at e
        · rw [hv] at e
          simp [Value.ownBlock] at e
          exact blk_ne hgb' HGB.out (by decide) e
      have HC3 := Box.mk (show w3.heap[g]? = wr.heap[g]? from (hgrow.block g (by rw [World.size_alloc]; have := lt_of_block HGB.out; omega) (fun e => hne e.symm)).trans (Below.heap_alloc _ _ _ (lt_of_block HGB.out)))
      clear hown3 hgrow hne
      go_roundg k1
      case measure => omega
      case rel =>
        refine ⟨i + 1, by go_num, ⟨by have := HK.out; omega⟩, ⟨?_⟩, HB3, ⟨fun j hj => ?_⟩⟩
        · rw [List.take_succ_eq_append_getElem hi2, List.map_append, List.map_append]
          exact HO3.out
        · obtain ⟨g', cur', e, hb', hc'⟩ := HC.out j hj
          injection e with e
          injection e with e
          subst e
          exact ⟨g, cur', rfl, HC3.out.trans hb', hc'⟩
end Go.Proofs.Ytnnebkmjeigflaa.L
