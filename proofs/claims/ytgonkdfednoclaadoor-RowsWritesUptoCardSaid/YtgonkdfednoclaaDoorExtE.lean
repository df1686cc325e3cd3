/- Contract of rows.Write in the printer's form: the builder's copyCheck, WriteString and WriteByte (not laid at this dump), then the loop, walked by hand. -/
import Derived.Test.YtgonkdfednoclaaDoorPRowsx0
import Derived.Test.YtgonkdfednoclaaDoorShelf
namespace Go.Proofs.YtgonkdfednoclaaDoor.PRows
open Go.RowKit Go.Proofs.YtgonkdfednoclaaDoorW.PrintWords

/-- *Builder's element, for the pointers of copyCheck. -/
theorem info50 : ∃ j, Tryd.prog.info? 50 = some j ∧ j.size ≠ 0 := by
  obtain ⟨j, hj, hjs⟩ := Option.map_eq_some_iff.1 Tryd.Builder_Extra_169.sizeBuilder
  exact ⟨j, hj, by rw [hjs]; decide⟩

set_option maxHeartbeats 1000000 in
set_option maxRecDepth 100000 in
theorem copyCheck_old (b : Nat) (w : World) (h0 : w.cell? ⟨b, 0, none⟩ = some (.pointer (some ⟨b, 0, none⟩))) :
    Calls Tryd.prog 47 #[.pointer (some ⟨b, 0, none⟩)] w fun e w' => e = .returned (.tuple #[]) ∧ w' = w := by
  obtain ⟨j, hj, _⟩ := info50
  go_enter Tryd.func47, Tryd.ntmps47
  go_wp2
  rw [Lib.run_neq_ptr_same w _ Tryd.underlying47 hj]
  go_wp2
  go_end0
  exact ⟨rfl, rfl⟩

set_option maxHeartbeats 1000000 in
set_option maxRecDepth 100000 in
theorem copyCheck_new (b : Nat) (w : World) (h0 : w.cell? ⟨b, 0, none⟩ = some (.pointer none)) (hsh : w.shape? b = some (50, 2)) (hfz : w.frozen? ⟨b, 0, none⟩ = false) :
    Calls Tryd.prog 47 #[.pointer (some ⟨b, 0, none⟩)] w fun e w' => e = .returned (.tuple #[]) ∧ w' = w.setCell ⟨b, 0, none⟩ (.pointer (some ⟨b, 0, none⟩)) := by
  obtain ⟨j, hj, hjs⟩ := info50
  go_enter Tryd.func47, Tryd.ntmps47
  go_wp2
  rw [Lib.run_to_unsafe w ⟨b, 0, none⟩ Tryd.underlying47 Tryd.underlying85 hj hjs hsh (Nat.zero_lt_succ 1)]
  simp only [Result.andThen]
  rw [Oper.upon_value]
  go_wp2
  rw [run_callFunc_extern Tryd.func60 (by kernel_rfl) (by kernel_rfl) (by kernel_rfl) (e := Extern.AbiNoEscape.same) (by kernel_rfl)]
  rw [Lib.run_noEscape]
  simp only [Result.andThen]
  rw [Oper.upon_value]
  go_wp2
  rw [Lib.run_from_unsafe w ⟨b, 0, none⟩ Tryd.underlying85 Tryd.underlying47 hj hsh Tryd.Builder_Extra_169.liesBuilder]
  simp only [Result.andThen]
  rw [Oper.upon_value]
  go_wp2
  go_end0
  exact ⟨rfl, rfl⟩

/-- A builder in block b (of the call's own, from B on), its buffer named. -/
def BuilderV (B b : Nat) (p v : Value) (bs : List Value) (w : World) : Prop :=
  B ≤ b ∧ w.heap[b]? = some (.cells #[p, v] 50 (0, 0)) ∧ w.ownsRow B 5 1 v bs.length bs ∧ v.ownBlock ≠ some b
/-- What 'addr' may hold: nothing yet, or its own place. -/
def Fit (b : Nat) (p : Value) : Prop := p = .pointer none ∨ p = .pointer (some ⟨b, 0, none⟩)
/-- All but the builder's two blocks is as it was. -/
def Keeps (b : Nat) (v : Value) (w w' : World) : Prop := ∀ k, k < w.heap.size → k ≠ b → v.ownBlock ≠ some k → w'.heap[k]? = w.heap[k]?
theorem BuilderV.at_ {B b : Nat} {p v : Value} {bs : List Value} {w : World} (h : BuilderV B b p v bs w) : Lib.BuilderAt 50 5 B b p bs w := ⟨h.1, v, h.2⟩
theorem BuilderV.is {B b : Nat} {p v : Value} {bs : List Value} {w : World} (h : BuilderV B b p v bs w) (hp : Fit b p) : Lib.IsBuilder 50 5 B b bs w := by
  rcases hp with rfl | rfl
  · exact .inl h.at_
  · exact .inr h.at_
theorem BuilderV.far {B b : Nat} {p v : Value} {bs : List Value} {w w' : World} (h : BuilderV B b p v bs w) (hb : Below w.heap.size w w') : BuilderV B b p v bs w' := by
  obtain ⟨h1, h2, h3, h4⟩ := h
  refine ⟨h1, blk_below h2 hb, ?_, h4⟩
  exact h3.kept (row := none) ⟨hb.os, hb.tape, hb.output, hb.size, fun k hk _ => hb.block k hk⟩ (by cases v.ownBlock with | none => exact .inl rfl | some _ => exact .inr (by simp))
theorem copyCheck_calls (B b : Nat) (p v : Value) (bs : List Value) (w : World) (h : BuilderV B b p v bs w) (hp : Fit b p) :
    Calls Tryd.prog 47 #[.pointer (some ⟨b, 0, none⟩)] w fun e w' => e = .returned (.tuple #[]) ∧ BuilderV B b (.pointer (some ⟨b, 0, none⟩)) v bs w' ∧ Below B w w' ∧ w.heap.size = w'.heap.size ∧ Keeps b v w w' := by
  rcases hp with rfl | rfl
  · refine (copyCheck_new b w h.at_.cell0 h.at_.shape h.at_.frozen0).mono ?_
    rintro e w' ⟨rfl, rfl⟩
    obtain ⟨h1, h2, h3, h4⟩ := h
    refine ⟨rfl, ⟨h1, ?_, ?_, h4⟩, (Below.refl B w).setCell (p := ⟨b, 0, none⟩) h1 _, by simp [World.setCell], fun k _ hk _ => Below.heap_setCell _ _ _ _ hk⟩
    · simp [World.setCell, Array.getElem?_modify, h2]
    · exact h3.kept (row := some b) ⟨rfl, rfl, rfl, by simp [World.setCell], fun k _ hk => Below.heap_setCell _ _ _ _ (fun e => hk (by simp [e]))⟩ (Or.inr h4)
  · refine (copyCheck_old b w h.at_.cell0).mono ?_
    rintro e w' ⟨rfl, rfl⟩
    exact ⟨rfl, h, Below.refl B _, rfl, fun _ _ _ _ => rfl⟩

theorem putV {B b : Nat} {p v v' : Value} {bs' : List Value} {w : World} (hB : B ≤ b) (hb : w.heap[b]? = some (.cells #[p, v] 50 (0, 0))) (hown : w.ownsRow B 5 1 v' bs'.length bs') :
    BuilderV B b p v' bs' (w.setCell ⟨b, 1, none⟩ v') := by
  have hne := Lib.ownBlock_ne hown hb (by decide)
  refine ⟨hB, ?_, ?_, hne⟩
  · simp [World.setCell, Array.getElem?_modify, hb]
  · exact hown.kept (row := some b) ⟨rfl, rfl, rfl, by simp [World.setCell], fun k _ hk => Below.heap_setCell _ _ _ _ (fun e => hk (by simp [e]))⟩ (Or.inr hne)

set_option maxHeartbeats 2000000 in
set_option maxRecDepth 100000 in
theorem writeString_calls (B b : Nat) (p v : Value) (bs : List Value) (s : ByteArray) (w : World) (h : BuilderV B b p v bs w) (hp : Fit b p) (hlen : bs.length + s.size ≤ 140737488355328) (hBw : B ≤ w.heap.size) :
    Calls Tryd.prog 28 #[.pointer (some ⟨b, 0, none⟩), .string s] w fun e w' => e = .returned (.tuple #[.int .i64 s.size, .nilIface]) ∧ (∃ v', BuilderV B b (.pointer (some ⟨b, 0, none⟩)) v' (bs ++ Lib.strCells s) w') ∧ Below B w w' ∧ Keeps b v w w' := by
  obtain ⟨i0, hi, hz0, hz1, hz2⟩ := info_parts Tryd.Builder_Extra_169.infoByte
  go_enter Tryd.func28, Tryd.ntmps28
  go_wp2_with (go_at_call 47; refine (copyCheck_calls B b p v bs _ h hp).mono ?_)
  rintro e w1 ⟨rfl, h1, hb1, hsz, hk1⟩
  obtain ⟨hB, hbk, hown, hne⟩ := h1
  have c0 : w1.cell? ⟨b, 0, none⟩ = some (.pointer (some ⟨b, 0, none⟩)) := by rw [Lib.cell_of_heap hbk]; rfl
  have c1 : w1.cell? ⟨b, 1, none⟩ = some v := by rw [Lib.cell_of_heap hbk]; rfl
  go_wp2_with (at_builtin; refine Lib.wpList_append_own_string _ rfl _ _ 48 9 rfl B 5 i0 Tryd.underlying48 Tryd.underlying9 hi hz0 hz1 hz2 _ _ _ rfl hown s rfl ?c3 ?c4 ?c5 ?_)
  case c3 => unfold maxLen; omega
  case c4 => omega
  case c5 => omega
  intro v' w2 hown' hgrow _
  have hlt : b < w1.heap.size := blk_lt hbk
  have hb2 : w2.heap[b]? = some (.cells #[.pointer (some ⟨b, 0, none⟩), v] 50 (0, 0)) := by
    rw [hgrow.block b hlt (fun e => hne e.symm)]
    exact hbk
  have d0 : w2.cell? ⟨b, 0, none⟩ = some (.pointer (some ⟨b, 0, none⟩)) := by rw [Lib.cell_of_heap hb2]; rfl
  have d1 : w2.cell? ⟨b, 1, none⟩ = some v := by rw [Lib.cell_of_heap hb2]; rfl
  have f1 : w2.frozen? ⟨b, 1, none⟩ = false := Lib.frozen_of_heap hb2 1
  obtain ⟨ao, n', cap, rfl⟩ : ∃ ao n' cap, v' = .slice ao n' cap := by
    rcases hown'.2 with ⟨hv, _⟩ | ⟨g, cap, cur, hv, _⟩
    · exact ⟨_, _, _, hv⟩
    · exact ⟨_, _, _, hv⟩
  go_wp2
  go_ret2
  refine ⟨rfl, ⟨.slice ao n' cap, ?_⟩, ?_, ?_⟩
  · exact putV hB hb2 (bs' := bs ++ Lib.strCells s) (by simpa [Lib.strCells_length] using hown')
  · exact (hb1.grown hgrow (by omega) (fun k hk => (hown.lt k hk).1)).setCell (p := ⟨b, 1, none⟩) hB _
  · intro k hk hkb hkv
    exact (Below.heap_setCell _ _ _ _ hkb).trans ((hgrow.block k (by omega) (fun e => hkv e.symm)).trans (hk1 k hk hkb hkv))

set_option maxHeartbeats 2000000 in
set_option maxRecDepth 100000 in
theorem writeByte_calls (B b : Nat) (p v : Value) (bs : List Value) (c : Int) (w : World) (h : BuilderV B b p v bs w) (hp : Fit b p) (hlen : bs.length + 1 ≤ 140737488355328) (hBw : B ≤ w.heap.size) :
    Calls Tryd.prog 30 #[.pointer (some ⟨b, 0, none⟩), .int .u8 c] w fun e w' => e = .returned .nilIface ∧ (∃ v', BuilderV B b (.pointer (some ⟨b, 0, none⟩)) v' (bs ++ [.int .u8 c]) w') ∧ Below B w w' := by
  obtain ⟨i0, hi, hz0, hz1, hz2⟩ := info_parts Tryd.Builder_Extra_169.infoByte
  go_enter Tryd.func30, Tryd.ntmps30
  go_wp2_with (go_at_call 47; refine (copyCheck_calls B b p v bs _ h hp).mono ?_)
  rintro e w1 ⟨rfl, h1, hb1, hsz, hk1⟩
  obtain ⟨hB, hbk, hown, hne⟩ := h1
  have c0 : w1.cell? ⟨b, 0, none⟩ = some (.pointer (some ⟨b, 0, none⟩)) := by rw [Lib.cell_of_heap hbk]; rfl
  have c1 : w1.cell? ⟨b, 1, none⟩ = some v := by rw [Lib.cell_of_heap hbk]; rfl
  go_wp2_with (at_builtin; refine wpList_append_own _ rfl _ _ 48 rfl B 5 i0 (.int .u8 0) 1 1 Tryd.underlying48 hi hz0 hz1 hz2 rfl (by decide) _ _ _ rfl (hown.alloc _) ⟨w1.heap.size, 0, none⟩ 1 1 [.int .u8 c] rfl rfl ?c1 ?c2 ?c3 ?c4 ?c5 ?_)
  case c1 =>
    intro j u hj
    match j, hj with
    | 0, hj => simp at hj; subst hj; simp [Addr.add]
  case c2 => intro u hu; simp at hu; subst hu; rfl
  case c3 => unfold maxLen; omega
  case c4 => omega
  case c5 => simp; omega
  intro v' w2 hown' hgrow _
  have hlt : b < w1.heap.size := blk_lt hbk
  have hb2 : w2.heap[b]? = some (.cells #[.pointer (some ⟨b, 0, none⟩), v] 50 (0, 0)) := by
    rw [hgrow.block b (by simp; omega) (fun e => hne e.symm), Lib.alloc_old w1 _ b hlt]
    exact hbk
  have d0 : w2.cell? ⟨b, 0, none⟩ = some (.pointer (some ⟨b, 0, none⟩)) := by rw [Lib.cell_of_heap hb2]; rfl
  have d1 : w2.cell? ⟨b, 1, none⟩ = some v := by rw [Lib.cell_of_heap hb2]; rfl
  have f1 : w2.frozen? ⟨b, 1, none⟩ = false := Lib.frozen_of_heap hb2 1
  obtain ⟨g, cap, rfl⟩ : ∃ g cap, v' = .slice (some ⟨g, 0, none⟩) (bs.length + 1) cap := by
    rcases hown'.2 with ⟨_, h0⟩ | ⟨g, cap, cur, hv, _⟩
    · omega
    · exact ⟨g, cap, hv⟩
  go_wp2
  go_ret
  refine ⟨rfl, ⟨.slice (some ⟨g, 0, none⟩) (bs.length + 1) cap, ?_⟩, ?_⟩
  · exact putV hB hb2 (bs' := bs ++ [.int .u8 c]) (by simpa using hown')
  · exact ((hb1.alloc (by omega) _).grown hgrow (by simp; omega) (fun k hk => (hown.lt k hk).1)).setCell (p := ⟨b, 1, none⟩) hB _

/-- One row's line. -/
def lineU (x : S31) : List UInt8 := List.replicate (min (max x.f0 0) 65536).toNat 32 ++ x.f1.data.toList ++ [10]
def writeU (l : List S31) : List UInt8 := l.flatMap lineU
def rows_Write.f (l0 : List S31) : Option ByteArray := if (writeU l0).length ≤ 140737488355328 then some ⟨(writeU l0).toArray⟩ else none
theorem writeU_length (l : List S31) : l.length ≤ (writeU l).length := by
  unfold writeU
  induction l with
  | nil => exact Nat.le_refl _
  | cons x l ih =>
    have h1 : 1 ≤ (lineU x).length := by unfold lineU; simp; omega
    simp only [List.flatMap_cons, List.length_append, List.length_cons]
    omega
theorem rd_get (l : List S31) (i : Nat) (h : i < l.length) : rd_T31 l i = l[i] := by
  unfold rd_T31
  simp [h]
theorem writeU_succ (l : List S31) (i : Nat) (h : i < l.length) : writeU (l.take (i + 1)) = writeU (l.take i) ++ lineU (rd_T31 l i) := by
  rw [rd_get l i h, List.take_succ_eq_append_getElem h]
  unfold writeU
  rw [List.flatMap_append, List.flatMap_cons, List.flatMap_nil, List.append_nil]
theorem writeU_take (l : List S31) (k : Nat) : (writeU (l.take k)).length ≤ (writeU l).length := by
  have h : writeU l = writeU (l.take k) ++ writeU (l.drop k) := by
    unfold writeU
    rw [← List.flatMap_append, List.take_append_drop]
  rw [h, List.length_append]
  omega
theorem repeatL_one (n : Nat) : Lib.repeatL (⟨#[32]⟩ : ByteArray).data.toList n = List.replicate n 32 := by
  induction n with
  | zero => rfl
  | succ n ih => simp [Lib.repeatL, ih, List.replicate_succ]
open Go.Proofs.YtgonkdfednoclaaDoorW.PrintMore
attribute [local go_sem] max2_int min2_int max_two min_two
theorem BuilderV.step {B b : Nat} {p v : Value} {bs : List Value} {w w1 w2 : World} (h : BuilderV B b p v bs w) (e : w1.heap = w.heap) (hb : Below w1.heap.size w1 w2) : BuilderV B b p v bs w2 := by
  refine BuilderV.far (w := w1) ?_ hb
  obtain ⟨h1, h2, h3, h4⟩ := h
  exact ⟨h1, by rw [e]; exact h2, by unfold World.ownsRow at h3 ⊢; rw [e]; exact h3, h4⟩
theorem BuilderV.put {B b g : Nat} {p v : Value} {bs : List Value} {w : World} (h : BuilderV B b p v bs w) (hb : g ≠ b) (hv : v.ownBlock ≠ some g) (j : Nat) (u : Value) : BuilderV B b p v bs (w.setCell ⟨g, j, none⟩ u) := by
  obtain ⟨h1, h2, h3, h4⟩ := h
  refine ⟨h1, blk_far h2 (p := ⟨g, j, none⟩) (fun e => hb e.symm) u, ?_, h4⟩
  exact h3.kept (row := some g) ⟨rfl, rfl, rfl, by simp [World.setCell], fun k _ hk => Below.heap_setCell _ _ _ _ (fun e => hk (by simp [e]))⟩ (.inr hv)
theorem BuilderV.cast {B b : Nat} {p v : Value} {bs bs' : List Value} {w : World} (h : BuilderV B b p v bs w) (e : bs = bs') : BuilderV B b p v bs' w := e ▸ h
theorem BuilderV.drewN {B b : Nat} {p v : Value} {bs : List Value} {w : World} (h : BuilderV B b p v bs w) (n : Nat) : BuilderV B b p v bs (w.drewN n) := h
theorem BuilderV.clear_ {B b : Nat} {p v : Value} {bs : List Value} {w : World} (h : BuilderV B b p v bs w) {g : Nat} (hg : w.heap.size ≤ g) : g ≠ b ∧ v.ownBlock ≠ some g := by
  obtain ⟨h1, h2, h3, h4⟩ := h
  have := blk_lt h2
  exact ⟨by omega, fun e => by have := (h3.lt g e).2; omega⟩
set_option maxHeartbeats 2000000 in
set_option maxRecDepth 100000 in
theorem rows_Write.calls (A0 : Option Addr) (c0 : Nat) (l0 : List S31) (r : ByteArray) (w : World) (hr0 : Kd.C k31 w A0 l0.length l0) (_hc0 : l0.length ≤ c0) (h : rows_Write.f l0 = some r) :
    Calls Tryd.prog 12 #[.slice A0 l0.length c0] w fun e w' => e = .returned (.string r) ∧ Below w.heap.size w w' := by
  unfold rows_Write.f at h
  by_cases hl : (writeU l0).length ≤ 140737488355328
  · rw [if_pos hl] at h
    obtain rfl := Option.some.inj h
    clear h
    have HR := Aside0.mk hr0
    have HL := Aside0.mk hl
    clear hr0 hl
    have hw0 : BuilderV w.heap.size w.heap.size (.pointer none) (.slice none 0 0) [] (w.alloc (.cells #[.pointer none, .slice none 0 0] 50)) :=
      ⟨Nat.le_refl _, heap_alloc_new w _, World.ownsRow_nil _ _ _ _, by simp [Value.ownBlock]⟩
    have HW0 := Aside0.mk hw0
    clear hw0
    go_enter Tryd.func12, Tryd.ntmps12
    go_wp2
    go_loopg [8] l0.length (fun k v8 w' => ∃ i : Nat, v8 = .int .i64 i ∧ Aside0 (l0.length = i + k) ∧ Aside0 (∃ p v, BuilderV w.heap.size w.heap.size p v (Lib.byteCells (writeU (l0.take i))) w' ∧ Fit w.heap.size p) ∧ Aside0 (Below w.heap.size w w'))
    case atStart => exact ⟨0, rfl, ⟨by omega⟩, ⟨_, _, HW0.out, .inl rfl⟩, ⟨(Below.refl _ w).alloc (Nat.le_refl _) _⟩⟩
    case round =>
      clear HW0
      obtain ⟨i, rfl, HK, HV, HB⟩ := hrel
      obtain ⟨p, v, hv, hp⟩ := HV.out
      have BV := Aside0.mk hv
      have FP := Aside0.mk hp
      clear HV hv hp
      cases gk with
      | zero =>
        have hi := HK.out
        have hlt : ¬ i < l0.length := by omega
        have hi' : writeU (l0.take i) = writeU l0 := by rw [List.take_of_length_le (by omega)]
        have C31 := fun W h hb => Tryd.Builder_String_any w.heap.size w.heap.size (writeU (l0.take i)) W h hb
        rw [hi'] at C31
        have BV' := BV.out
        rw [hi'] at BV'
        have C31' := C31 wr (BV'.is FP.out) HB.out.size
        clear hi hi' C31 BV'
        go_wp2_with (go_at_call 31; refine C31'.mono ?_; rintro e w7 ⟨rfl, hb⟩)
        go_ret
        exact ⟨rfl, HB.out.trans hb⟩
      | succ k1 =>
        have hi := HK.out
        obtain ⟨ad, hade, hx0, hx1, hx2⟩ := at_T31 HR.out (i : Int) (by omega) (by omega)
        subst hade
        replace hx0 := (HB.out.cell (World.block_lt_of_cell? w _ hx0)).trans hx0
        replace hx1 := (HB.out.cell (World.block_lt_of_cell? w _ hx1)).trans hx1
        replace hx2 := (HB.out.cell (World.block_lt_of_cell? w _ hx2)).trans hx2
        rw [Int.toNat_natCast] at hx0 hx1 hx2
        have hlt : i < l0.length := by omega
        have hi64 : (i : Int) < 4611686018427387904 := by have := HL.out; have := writeU_length l0; omega
        obtain ⟨q, hq⟩ : ∃ q, (if (rd_T31 l0 i).f0 < 0 then 0 else (rd_T31 l0 i).f0) = q := ⟨_, rfl⟩
        obtain ⟨n, hn⟩ : ∃ n : Nat, (if (65536 : Int) < q then 65536 else q) = (n : Int) := ⟨(if (65536 : Int) < q then 65536 else q).toNat, by split at hq <;> split <;> omega⟩
        have hn16 : n ≤ 65536 := by split at hn <;> omega
        have hnn : (min (max (rd_T31 l0 i).f0 0) 65536).toNat = n := by split at hq <;> split at hn <;> omega
        have C29 := fun W => Tryd.strings_Repeat ⟨#[32]⟩ n W (by omega) (by show 1 * n ≤ _; omega)
        rw [repeatL_one] at C29
        have hline := writeU_succ l0 i hlt
        have hle := writeU_take l0 (i + 1)
        have hL := HL.out
        have hlen : (lineU (rd_T31 l0 i)).length = n + (rd_T31 l0 i).f1.size + 1 := by unfold lineU; simp only [hnn, List.length_append, List.length_replicate, Array.length_toList, List.length_cons, List.length_nil, Nat.zero_add]; rfl
        have hl2 := hle
        rw [hline, List.length_append, hlen] at hl2
        have L1 := Aside0.mk (show (Lib.byteCells (writeU (l0.take i))).length + (⟨(List.replicate n 32).toArray⟩ : ByteArray).size ≤ 140737488355328 by
          rw [Lib.byteCells_length, show (⟨(List.replicate n 32).toArray⟩ : ByteArray).size = n by show (List.replicate n (32 : UInt8)).toArray.size = n; simp]; omega)
        have L2 := Aside0.mk (show (Lib.byteCells (writeU (l0.take i)) ++ Lib.strCells ⟨(List.replicate n 32).toArray⟩).length + (rd_T31 l0 i).f1.size ≤ 140737488355328 by
          rw [List.length_append, Lib.byteCells_length, Lib.strCells_length, show (⟨(List.replicate n 32).toArray⟩ : ByteArray).size = n by show (List.replicate n (32 : UInt8)).toArray.size = n; simp]; omega)
        have L3 := Aside0.mk (show (Lib.byteCells (writeU (l0.take i)) ++ Lib.strCells ⟨(List.replicate n 32).toArray⟩ ++ Lib.strCells (rd_T31 l0 i).f1).length + 1 ≤ 140737488355328 by
          rw [List.length_append, List.length_append, Lib.byteCells_length, Lib.strCells_length, Lib.strCells_length, show (⟨(List.replicate n 32).toArray⟩ : ByteArray).size = n by show (List.replicate n (32 : UInt8)).toArray.size = n; simp]; omega)
        have hall : Lib.byteCells (writeU (l0.take i)) ++ Lib.strCells ⟨(List.replicate n 32).toArray⟩ ++ Lib.strCells (rd_T31 l0 i).f1 ++ [.int .u8 10] = Lib.byteCells (writeU (l0.take (i + 1))) := by
          rw [hline]
          unfold lineU
          rw [hnn, Lib.byteCells_append, Lib.byteCells_append, Lib.byteCells_append, List.append_assoc, List.append_assoc, List.append_assoc]
          rfl
        have HA := Aside0.mk hall
        have hBA : Below w.heap.size w (wr.alloc (.cells #[.int .i64 (rd_T31 l0 i).f0, .string (rd_T31 l0 i).f1, .int .i64 (rd_T31 l0 i).f2] 31)) := HB.out.alloc HB.out.size _
        have HBA := Aside0.mk hBA
        have NE := Aside0.mk (BV.out.clear_ (g := wr.heap.size) (Nat.le_refl _))
        have BVA := Aside0.mk (BV.out.far ((Below.refl _ wr).alloc (Nat.le_refl _) (.cells #[.int .i64 (rd_T31 l0 i).f0, .string (rd_T31 l0 i).f1, .int .i64 (rd_T31 l0 i).f2] 31)))
        have BK := Aside0.mk (blk_new wr (.cells #[.int .i64 (rd_T31 l0 i).f0, .string (rd_T31 l0 i).f1, .int .i64 (rd_T31 l0 i).f2] 31))
        clear hi hnn hline hle hL hlen hl2 hall hBA
        rw [List.toArray_replicate] at C29
        rw [List.toArray_replicate] at L1 L2 L3 HA
        go_wp2_with (first
          | (go_at_call 29; refine (C29 _).mono ?_; rintro e w7 ⟨rfl, hb⟩; have BV7 := Aside0.mk (BVA.out.far hb); have BK7 := Aside0.mk (blk_below BK.out hb); have HB7 := Aside0.mk (below_then HBA.out HBA.out.size hb); clear hb)
          | (go_at_call 28; refine (writeString_calls _ _ _ _ _ _ _ BV8.out (.inr rfl) L2.out HB8.out.size).mono ?_; rintro e w9 ⟨rfl, ⟨v9, bv⟩, hb, hk⟩; have BV9 := Aside0.mk bv; have HB9 := Aside0.mk (HB8.out.trans hb); clear bv hb hk hc1)
          | (go_at_call 28; refine (writeString_calls _ _ _ _ _ _ _ BV7.out FP.out L1.out HB7.out.size).mono ?_; rintro e w8 ⟨rfl, ⟨v8, bv⟩, hb, hk⟩; have BV8 := Aside0.mk bv; have BK8 := Aside0.mk ((hk _ (blk_lt BK7.out) NE.out.1 NE.out.2).trans BK7.out); have HB8 := Aside0.mk (HB7.out.trans hb); clear bv hb hk; have hc1 : w8.cell? ⟨wr.heap.size, 1, none⟩ = some (.string (rd_T31 l0 i).f1) := (blk_cell BK8.out 1).trans rfl)
          | (go_at_call 30; refine (writeByte_calls _ _ _ _ _ _ _ BV9.out (.inr rfl) L3.out HB9.out.size).mono ?_; rintro e w10 ⟨rfl, ⟨v10, bv⟩, hb⟩; have BV10 := Aside0.mk bv; have HB10 := Aside0.mk (HB9.out.trans hb); clear bv hb))
        go_roundg k1
        case measure => omega
        case rel =>
          clear C29 hn hq hn16
          exact ⟨i + 1, by go_num, ⟨by have := HK.out; omega⟩, ⟨_, _, BV10.out.cast HA.out, .inr rfl⟩, HB10⟩
  · rw [if_neg hl] at h; cases h
end Go.Proofs.YtgonkdfednoclaaDoor.PRows
