/- Texts that the law leans on. -/
import Derived.Test.YtdigebokbhmfaaaGreatDoorOVcRows
set_option linter.unusedVariables false
set_option linter.unusedSimpArgs false
namespace Go.Vc
open Go.RowKit
def appO : List CV → List CV → Option (List CV)
 | [], r => some r
 | x :: l, r => match appO l r with
  | some q => some (x :: q)
  | none => none
theorem appO_eq : ∀ (l r : List CV), appO l r = some (l ++ r)
 | [], r => rfl
 | x :: l, r => by simp [appO, appO_eq l r]
def bldL (st : St) (size : Nat) : Nat → List (Nat × Operand) → Option (List Prop × List CV)
 | _, [] => some ([], [])
 | k, (i, x) :: r => match Nat.beq i k, opv st [] x, bldL st size (k + 1) r with
  | true, some v, some (obs, rest) => match cellsOfRV v with
   | some l => match Nat.beq l.length size, appO l rest with
    | true, some q => some (oneObs l ++ obs, q)
    | _, _ => none
   | none => none
  | _, _, _ => none
theorem keys_nil' {a : Act} : keysHold a [] := fun k hk => by cases hk
section
variable {P : Program} {st : St} {a : Act}
theorem bldL_spec (hwf : WF st) (hr : Rel st a) {size : Nat} : ∀ {parts : List (Nat × Operand)} {k : Nat} {obs : List Prop} {l : List CV}, bldL st size k parts = some (obs, l) → (∀ p ∈ obs, p) →
  l.length = parts.length * size ∧ ∀ cells : Array Value, (k + parts.length) * size ≤ cells.size →
   Instr.fill (fun i => some (i * size, size)) cells (parts.map fun x => (x.1, a.eval x.2)) = some (cells.toList.take (k * size) ++ dens l ++ cells.toList.drop ((k + parts.length) * size)).toArray
 | [], k, obs, l, h, ho => by
  simp only [bldL] at h; cases h
  exact ⟨by simp, fun cells hc => by simp [Instr.fill, dens]⟩
 | (i, x) :: r, k, obs, l, h, ho => by
  simp only [bldL] at h
  split at h
  ·rename_i v obs' rest hi hv hb
   split at h
   ·rename_i l0 hl0
    split at h
    ·rename_i q hlen hq
     cases h
     rw [appO_eq] at hq
     cases hq
     have hi := Nat.eq_of_beq_eq_true hi
     subst hi
     have hlen := Nat.eq_of_beq_eq_true hlen
     obtain ⟨e1, e2⟩ := bldL_spec hwf hr hb fun p hp => ho p (List.mem_append.2 (.inr hp))
     have hone := oneObs_spec (hp := st.hp) (l := l0) (fun p hp => ho p (List.mem_append.2 (.inl hp))) (cells_ok hl0 (opv_ok hwf hr keys_nil' hv))
     have hc := cells_eq hl0 hone
     refine ⟨by simp [hlen, e1, Nat.add_mul, Nat.add_comm], fun cells hcs => ?_⟩
     simp only [List.length_cons] at hcs
     have hks : i * size + size ≤ cells.size := by
      have : (i + 1) * size ≤ (i + (r.length + 1)) * size := Nat.mul_le_mul_right _ (by omega)
      rw [Nat.add_mul, Nat.one_mul] at this; omega
     simp only [List.map_cons, eval_opv hr keys_nil' hv]
     rw [fill_one rfl _ _ _ (by rw [hc]; simp [dens, hlen]) hks]
     have hlen2 : (cells.toList.take (i * size) ++ v.den.cells.toList ++ cells.toList.drop (i * size + size)).length = cells.size := by
      rw [hc]; simp [dens, hlen]; omega
     rw [e2 _ (by simp only [List.size_toArray, hlen2]; rw [show i + 1 + r.length = i + (r.length + 1) by omega]; exact hcs)]
     congr 1
     have hA : (cells.toList.take (i * size) ++ v.den.cells.toList).length = (i + 1) * size := by
      rw [hc]; simp [dens, hlen, Nat.add_mul]; omega
     simp only [List.length_cons]
     rw [← hA, List.take_left, hc]
     have hB : (i + 1 + r.length) * size = (cells.toList.take (i * size) ++ (dens l0).toArray.toList).length + r.length * size := by
      rw [← hc, hA, Nat.add_mul]
     rw [hB, List.drop_append, List.drop_eq_nil_of_le (Nat.le_add_right _ _), Nat.add_sub_cancel_left, List.drop_drop, List.nil_append]
     simp only [dens, List.map_append, List.append_assoc]
     rw [show i * size + size + r.length * size = (i + (r.length + 1)) * size by rw [Nat.add_mul, Nat.add_mul]; omega]
    ·cases h
   ·cases h
  ·cases h
theorem bldL_ok (hwf : WF st) (hr : Rel st a) {size : Nat} : ∀ {parts : List (Nat × Operand)} {k : Nat} {obs : List Prop} {l : List CV}, bldL st size k parts = some (obs, l) → ∀ c ∈ l, CVok st.hp c
 | [], k, obs, l, h => by simp only [bldL] at h; cases h; intro c hc; cases hc
 | (i, x) :: r, k, obs, l, h => by
  simp only [bldL] at h
  split at h
  ·rename_i v obs' rest hi hv hb
   split at h
   ·rename_i l0 hl0
    split at h
    ·rename_i q hlen hq
     cases h
     rw [appO_eq] at hq
     cases hq
     intro c hc
     rcases List.mem_append.1 hc with hc | hc
     ·exact cells_ok hl0 (opv_ok hwf hr keys_nil' hv) c hc
     ·exact bldL_ok hwf hr hb c hc
    ·cases h
   ·cases h
  ·cases h
theorem run_buildSlice (t e : TypeId) (i : TypeInfo) (ht : P.underlying t = some (.slice e)) (hi : P.info? e = some i) (hz : ∃ z, i.zero = some z) (len : Nat) (parts : List (Nat × Value)) (cells : List Value) (w : World)
  (hs : len * i.size ≤ 16777216) (hf : ∀ cs : Array Value, cs.size = len * i.size → Instr.fill (fun k => some (k * i.size, i.size)) cs parts = some cells.toArray) :
  (Instr.buildSlice t len parts.toArray).run P w = .ok (.slice (some ⟨w.heap.size, 0, none⟩) len len) (w.alloc (.cells cells.toArray e)) := by
 obtain ⟨z, hz⟩ := hz
 have h1 : ¬ (len * i.size > 2 ^ 24) := by simp; omega
 by_cases h0 : len * i.size = 0
 ·have := hf ((Array.range (len * i.size)).map ((#[] : Array Value)[· % (#[] : Array Value).size]!)) (by simp)
  have h2 : ¬ ((0 : Nat) > 2 ^ 24) := by decide
  simp only [h0] at this
  simp only [Instr.buildSlice, Sem.run_bind, run_underlying ht, Result.andThen_ok, ok_sizeOf hi, h0, h2, if_false, if_true, Sem.run_pure]
  simp only [this, newRow, Sem.run_bind, run_newObj, Result.andThen_ok, Sem.run_pure]
  rfl
 ·have := hf ((Array.range (len * i.size)).map (z.cells[· % z.cells.size]!)) (by simp)
  simp only [Instr.buildSlice, Sem.run_bind, run_underlying ht, Result.andThen_ok, ok_sizeOf hi, h1, if_false, h0, ok_zeroValue hi hz, Sem.run_pure]
  simp only [this, newRow, Sem.run_bind, run_newObj, Result.andThen_ok, Sem.run_pure]
  rfl
end
def SrcOk (w : World) (u : Value) (size : Nat) (rows : List (List CV)) : Prop :=
 (∀ l ∈ rows, l.length = size) ∧ (∀ l ∈ rows, ∀ c ∈ l, c.den.oneCell' = true) ∧
  ((∃ a c, u = .slice (some a) rows.length c ∧ ∀ j x, (dens rows.flatten)[j]? = some x → w.cell? (a.add j) = some x) ∨ (u = .slice none 0 0 ∧ rows = []))
theorem flatten_len {β : Type} {size : Nat} : ∀ {L : List (List β)}, (∀ l ∈ L, l.length = size) → L.flatten.length = L.length * size
 | [], _ => by simp
 | l :: L, h => by
  have h1 := h l (by simp)
  have h2 := flatten_len (L := L) fun x hx => h x (by simp [hx])
  simp [h1, h2, Nat.add_mul, Nat.add_comm]
theorem append_any {P : Program} {w : World} (t ty e : TypeId) (i : TypeInfo) (z : Value) (ht : P.underlying t = some (.slice e)) (hi : P.info? e = some i) (hz : i.zero = some z) (hzs : z.cells.size = i.size) (hby : 1 ≤ i.bytes)
  (v : Value) (n : Nat) (xs : List Value) (hown : ownsAt w e i.size v n xs) (u : Value) (rows : List (List CV)) (hsrc : SrcOk w u i.size rows) (hbytes : (n + rows.length) * i.bytes ≤ 140737488355328) :
  ∃ v' w', (Builtin.append_ #[t, t] ty #[v, u]).run P w = .ok v' w' ∧ ownsAt w' e i.size v' (n + rows.length) (xs ++ dens rows.flatten) ∧ Fr (blkOf v) w w' ∧ (∀ b ∈ blkOf v', b ∈ blkOf v ∨ w.heap.size ≤ b) := by
 obtain ⟨h1, h2, ⟨a, c, rfl, h3⟩ | ⟨rfl, rfl⟩⟩ := hsrc
 ·refine append_own t ty e i z ht hi hz hzs hby v n xs hown a rows.length c (dens rows.flatten) (by simp only [dens, List.length_map]; exact flatten_len h1) h3 ?_ hbytes
  intro u hu
  simp only [dens, List.mem_map, List.mem_flatten] at hu
  obtain ⟨c, ⟨l, hl, hc⟩, rfl⟩ := hu
  exact h2 l hl c hc
 ·refine ⟨v, w, ?_, by simpa [dens] using hown, Fr.refl _ _, fun b hb => .inl hb⟩
  rcases hown.2 with ⟨rfl, rfl⟩ | ⟨g, o, cap, cur, rfl, hg, hnc, hcm, hcs, htake⟩
  ·simp [Builtin.append_, run_underlying ht, sizeOf, typeInfo, hi, Builtin.lenOf, Builtin.firstCells]
  ·simp [Builtin.append_, run_underlying ht, sizeOf, typeInfo, hi, Builtin.lenOf, Builtin.firstCells, hnc, storeCells]
def chunks (size : Nat) : Nat → List CV → Option (List (List CV))
 | 0, [] => some []
 | 0, _ :: _ => none
 | n + 1, cs => match takeCells 0 size cs, chunks size n (cs.drop size) with
  | some l, some r => some (l :: r)
  | _, _ => none
theorem chunks_spec {size : Nat} : ∀ {n : Nat} {cs : List CV} {rows : List (List CV)}, chunks size n cs = some rows → rows.length = n ∧ rows.flatten = cs ∧ ∀ l ∈ rows, l.length = size
 | 0, [], rows, h => by simp only [chunks] at h; cases h; simp
 | 0, _ :: _, rows, h => by simp [chunks] at h
 | n + 1, cs, rows, h => by
  simp only [chunks] at h
  split at h
  ·rename_i l r hl hr
   cases h
   obtain ⟨h1, h2, h3⟩ := chunks_spec hr
   obtain ⟨e1, e2⟩ := takeCells_spec hl
   have hle : size ≤ cs.length := by
    rcases Nat.eq_zero_or_pos size with h0 | h0
    ·omega
    ·have := e2 (size - 1) (by omega)
     rw [Nat.zero_add, List.getElem?_eq_getElem (show size - 1 < l.length by omega)] at this
     have := (List.getElem?_eq_some_iff.1 this).1
     omega
   have el : l = cs.take size := by
    apply List.ext_getElem?
    intro j
    by_cases hj : j < size
    ·have := e2 j hj
     rw [Nat.zero_add] at this
     rw [List.getElem?_take_of_lt hj, this]
    ·rw [List.getElem?_eq_none (by omega), List.getElem?_eq_none (by rw [List.length_take]; omega)]
   refine ⟨by simp [h1], by rw [List.flatten_cons, h2, el, List.take_append_drop], fun x hx => ?_⟩
   rcases List.mem_cons.1 hx with rfl | hx
   ·exact e1
   ·exact h3 x hx
  ·cases h
theorem splice_take {β : Type} (D m : List β) (q N : Nat) (h1 : q + m.length ≤ N) (h2 : N ≤ D.length) :
  (D.take q ++ m ++ D.drop (q + m.length)).take N = (D.take N).take q ++ m ++ (D.take N).drop (q + m.length) := by
 have e : (D.take q ++ m).length = q + m.length := by rw [List.length_append, List.length_take]; omega
 rw [List.take_append, List.take_of_length_le (by omega), e, List.take_take, Nat.min_eq_left (by omega), List.drop_take]
theorem flatten_set {size : Nat} : ∀ {L : List (List CV)} (_ : ∀ l ∈ L, l.length = size) {k off : Nat} {row l row' : List CV} (_ : L[k]? = some row) (_ : setCells off l row = some row'),
  (L.set k row').flatten = L.flatten.take (k * size + off) ++ l ++ L.flatten.drop (k * size + off + l.length)
 | [], _, k, off, row, l, row', hk, hs => by simp at hk
 | r :: L, hL, 0, off, row, l, row', hk, hs => by
  simp at hk; subst hk
  obtain ⟨e1, e2⟩ := setCells_spec hs
  simp only [List.set_cons_zero, List.flatten_cons, Nat.zero_mul, Nat.zero_add]
  rw [e1, List.take_append_of_le_length (by omega), List.drop_append_of_le_length e2]
  simp
 | r :: L, hL, k + 1, off, row, l, row', hk, hs => by
  have hk' : L[k]? = some row := by simpa using hk
  have ih := flatten_set (fun x hx => hL x (by simp [hx])) hk' hs
  have hr := hL r (by simp)
  have e1 : (r ++ L.flatten).take (r.length + (k * size + off)) = r ++ L.flatten.take (k * size + off) := by
   rw [List.take_append, List.take_of_length_le (by omega), Nat.add_sub_cancel_left]
  have e2 : (r ++ L.flatten).drop (r.length + (k * size + off + l.length)) = L.flatten.drop (k * size + off + l.length) := by
   rw [List.drop_append, List.drop_eq_nil_of_le (by omega), Nat.add_sub_cancel_left, List.nil_append]
  simp only [List.set_cons_succ, List.flatten_cons]
  rw [ih, show (k + 1) * size + off = r.length + (k * size + off) by rw [hr, Nat.add_mul]; omega, e1, show r.length + (k * size + off) + l.length = r.length + (k * size + off + l.length) by omega, e2]
  simp
theorem row_store {P : Program} {w : World} {v : Value} {E size : Nat} {L : List (List CV)} (h : (LO.row v E size L).holds w) {k off : Nat} {row l row' : List CV} (hk : L[k]? = some row) (hs : setCells off l row = some row')
  (hone : ∀ u ∈ dens l, u.oneCell' = true) {a : Addr} {n c : Nat} (hv : v = .slice (some a) n c) :
  ∃ w', (storeCells (elemAddr a size (k : Int) off) (dens l)).run P w = .ok () w' ∧ Fr (blkOf v) w w' ∧ (LO.row v E size (L.set k row')).holds w' := by
 obtain ⟨⟨hlen, hown⟩, hL⟩ := h
 obtain ⟨e1, e2⟩ := setCells_spec hs
 have hrow : row.length = size := hL row (List.mem_of_getElem? hk)
 have hkl : k < L.length := by
  rcases Nat.lt_or_ge k L.length with h' | h'
  ·exact h'
  ·rw [List.getElem?_eq_none h'] at hk; cases hk
 rcases hown with ⟨rfl, _⟩ | ⟨g, o, cap, cur, rfl, hg, hn, hcm, hcs, htake⟩
 ·cases hv
 ·cases hv
  have hb : k * size + size ≤ L.length * size := by
   have : (k + 1) * size ≤ L.length * size := Nat.mul_le_mul_right _ (by omega)
   rw [Nat.add_mul, Nat.one_mul] at this; exact this
  have hcapn : L.length * size ≤ c * size := Nat.mul_le_mul_right _ hn
  have ea : elemAddr (⟨g, o, none⟩ : Addr) size (k : Int) off = ⟨g, o + (k * size + off), none⟩ := by
   unfold elemAddr; rw [Int.toNat_natCast, addr_add, addr_add, Nat.add_assoc]
  have hdl : (dens l).length = l.length := by simp [dens]
  have hst := run_storeCells_at P g (o + (k * size + off)) E (dens l) 0 cur w hg (by rw [hdl]; omega) hone
  rw [Nat.add_zero, hdl] at hst
  have hset : ∀ x ∈ L.set k row', x.length = size := by
   intro x hx
   rcases List.mem_or_eq_of_mem_set hx with hx | rfl
   ·exact hL x hx
   ·rw [e1]; simp; omega
  refine ⟨_, by rw [ea]; exact hst, (Fr.refl _ _).setRow (.inl (by simp [blkOf])) _, ⟨by simp only [dens, List.length_map]; exact flatten_len hset, .inr ⟨g, o, c, _, by rw [List.length_set], setRow_heap w g cur _ E _ hg, by rw [List.length_set]; exact hn, hcm, ?_, ?_⟩⟩, hset⟩
  ·simp only [List.size_toArray, List.length_append, List.length_take, List.length_drop, Array.length_toList, hdl]
   omega
  ·have hol : o + (k * size + off) ≤ cur.toList.length := by simp only [Array.length_toList]; omega
   rw [List.length_set, flatten_set hL hk hs]
   rw [List.append_assoc, List.drop_append_of_le_length (by rw [List.length_take]; omega), List.drop_take, Nat.add_sub_cancel_left, ← List.append_assoc]
   have e3 : cur.toList.drop (o + (k * size + off) + l.length) = (cur.toList.drop o).drop (k * size + off + (dens l).length) := by
    rw [List.drop_drop, hdl, Nat.add_assoc]
   rw [e3, splice_take _ _ _ _ (by rw [hdl]; omega) (by simp only [List.length_drop, Array.length_toList]; omega), htake, hdl]
   simp [dens, List.map_append, List.map_take, List.map_drop]
end Go.Vc
