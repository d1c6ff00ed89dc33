/- Texts that the law leans on. -/
import Derived.Test.YtdigebokbhmfaaaGreatDoorOVcCore
import Derived.Laws.StructEq
set_option linter.unusedVariables false
set_option linter.unusedSimpArgs false
namespace Go.Vc
open Go.RowKit
theorem ok_isAgg {P : Program} {t : TypeId} {d : TypeDesc} (h : P.underlying t = some d) (w : World) : (isAgg t).run P w = .ok (isAggD d) w := by
 cases d <;> simp [isAgg, run_underlying h, isAggD]
theorem ok_sizeOf {P : Program} {t : TypeId} {i : TypeInfo} (h : P.info? t = some i) (w : World) : (sizeOf t).run P w = .ok i.size w := by
 simp [sizeOf, typeInfo, h]
theorem ok_zeroValue {P : Program} {t : TypeId} {i : TypeInfo} {z : Value} (h : P.info? t = some i) (hz : i.zero = some z) (w : World) : (zeroValue t).run P w = .ok z w := by
 simp [zeroValue, typeInfo, h, hz]
theorem ok_loadVar {P : Program} {t : TypeId} {ti : TI} (hc : chkTI P t ti = true) {a : Addr} {l : List CV} {v : SV} (hl : l.length = ti.size) (hv : mkSV ti.agg l = some v) {w : World}
  (h : ∀ j u, (dens l)[j]? = some u → w.cell? (a.add j) = some u) : (loadVar t a).run P w = .ok v.den w := by
 obtain ⟨i, d, hi, hd, hs, hg, _⟩ := chk_info hc
 have e := run_loadCells_list (P := P) (w := w) a (dens l) h
 have hlen : (dens l).length = ti.size := by simp [dens, hl]
 unfold loadVar
 simp only [Sem.run_bind, ok_isAgg hd, Result.andThen_ok, hg]
 cases hag : ti.agg
 ·rw [hag] at hv
  simp only [mkSV] at hv
  split at hv
  ·rename_i c
   cases hv
   have := h 0 c.den (by simp [dens])
   simp [SV.den, Addr.add] at this ⊢
   simp [this]
  ·cases hv
 ·rw [hag] at hv
  simp only [mkSV] at hv
  cases hv
  simp only [if_true, Sem.run_bind, ok_sizeOf hi, Result.andThen_ok, hs, ← hlen, e, Sem.run_pure, SV.den]
theorem addOff_den {v u : CV} {n : Nat} (h : addOff v n = some u) : ∀ a, v.den = .pointer (some a) → u.den = .pointer (some (a.add n)) := by
 intro a ha
 cases v with
 | p id blk o =>
  simp only [addOff] at h; cases h
  simp only [CV.den, Value.pointer.injEq, Option.some.injEq] at ha ⊢
  subst ha
  unfold Addr.add
  by_cases h0 : n = 0
  ·simp [h0]
  ·simp [h0]
 | e v size idx o =>
  simp only [addOff] at h; cases h
  simp only [CV.den, elemPtr] at ha ⊢
  split at ha
  ·rename_i b _ _
   simp only [Value.pointer.injEq, Option.some.injEq] at ha ⊢
   subst ha
   unfold elemAddr Addr.add
   by_cases h0 : n = 0
   ·simp [h0]
   ·by_cases h1 : o = 0
    ·simp [h0, h1]
    ·simp [h0, h1, Nat.add_assoc]
  ·simp at ha
 | r id v size idx o =>
  simp only [addOff] at h; cases h
  simp only [CV.den, elemPtr] at ha ⊢
  split at ha
  ·rename_i b _ _
   simp only [Value.pointer.injEq, Option.some.injEq] at ha ⊢
   subst ha
   unfold elemAddr Addr.add
   by_cases h0 : n = 0
   ·simp [h0]
   ·by_cases h1 : o = 0
    ·simp [h0, h1]
    ·simp [h0, h1, Nat.add_assoc]
  ·simp at ha
 | i _ => simp [addOff] at h
 | b _ => simp [addOff] at h
 | x _ => simp [addOff] at h
 | o _ _ => simp [addOff] at h
 | q _ _ _ => simp [addOff] at h
 | s _ => simp [addOff] at h
theorem intBin_ok {P : Program} {op : BinOp} {t : TypeId} {a b : Int} {obs : List Prop} {v : RV} (h : intBin op a b = some (obs, v)) (ho : ∀ p ∈ obs, p) (w : World) :
  (binOp op t (.int .i64 a) (.int .i64 b)).run P w = .ok v.den w := by
 cases op <;> simp only [intBin] at h <;> (try (cases h)) <;> simp only [List.mem_cons, List.not_mem_nil, or_false, forall_eq_or_imp, forall_eq, false_implies, implies_true] at ho
 case add => simp [binOp, Op.intArith, wrap_inR ho, RV.den, SV.den, CV.den]
 case sub => simp [binOp, Op.intArith, wrap_inR ho, RV.den, SV.den, CV.den]
 case mul => simp [binOp, Op.intArith, wrap_inR ho, RV.den, SV.den, CV.den]
 case quo =>
  obtain ⟨h0, h1, h2⟩ := ho
  have hb : b ≠ 0 := by omega
  have e1 : a.tdiv b = a / b := Int.tdiv_eq_ediv_of_nonneg h0
  have h3 := Int.ediv_nonneg h0 (b := b) (by omega)
  have h4 := Int.ediv_le_self b h0
  have e2 : IntKind.i64.wrap (a / b) = a / b := wrap_inR ⟨by have := h2.1; omega, by have := h2.2; omega⟩
  simp [binOp, Op.intDiv, hb, e1, e2, RV.den, SV.den, CV.den]
 case rem =>
  obtain ⟨h0, h1⟩ := ho
  have hb : b ≠ 0 := by omega
  have e1 : a.tmod b = a % b := Int.tmod_eq_emod_of_nonneg h0
  simp [binOp, Op.intDiv, hb, e1, RV.den, SV.den, CV.den]
 all_goals (simp [binOp, Op.intCmp, RV.den, SV.den, CV.den]; try rfl)
theorem eqGuard_int {P : Program} {op : BinOp} {t : TypeId} {x y : Operand} {k k' : IntKind} {a b : Int} (w : World) : (eqGuard op t x y (.int k a) (.int k' b)).run P w = .ok () w := by
 cases op <;> simp [eqGuard]
theorem eqGuard_bool {P : Program} {op : BinOp} {t : TypeId} {x y : Operand} {a b : Bool} (w : World) : (eqGuard op t x y (.bool a) (.bool b)).run P w = .ok () w := by
 cases op <;> simp [eqGuard]
theorem equalIn_bool {P : Program} {t : TypeId} {m n : Bool} (d : Nat) (hu : P.underlying t = some .bool) (w : World) : (Op.equalIn (d + 1) t (.bool m) (.bool n)).run P w = .ok (m == n) w := by
 rw [Op.equalIn]
 simp only [Sem.run_bind, run_underlying hu, Result.andThen_ok, Sem.run_pure]
theorem eql_bool {P : Program} {t : TypeId} {m n : Bool} (hu : P.underlying t = some .bool) (w : World) : (binOp .eql t (.bool m) (.bool n)).run P w = .ok (.bool (m == n)) w := by
 have := equalIn_bool (P := P) (m := m) (n := n) 9999 hu w
 simp only [binOp, Op.equal, Op.maxDepth, Sem.run_bind, this, Result.andThen_ok, Sem.run_pure]
theorem equalIn_nil {P : Program} {t e : TypeId} {a : Option Addr} {n c : Nat} (d : Nat) (hu : P.underlying t = some (.slice e)) (w : World) : (Op.equalIn (d + 1) t (.slice a n c) (.slice none 0 0)).run P w = .ok (isNilS (.slice a n c)) w := by
 rw [Op.equalIn]
 cases a <;> simp only [Sem.run_bind, run_underlying hu, Result.andThen_ok, Sem.run_pure, isNilS, Option.isNone]
theorem eql_nil {P : Program} {t e : TypeId} {a : Option Addr} {n c : Nat} (hu : P.underlying t = some (.slice e)) (w : World) : (binOp .eql t (.slice a n c) (.slice none 0 0)).run P w = .ok (.bool (isNilS (.slice a n c))) w := by
 have := equalIn_nil (P := P) (a := a) (n := n) (c := c) 9999 hu w
 simp only [binOp, Op.equal, Op.maxDepth, Sem.run_bind, this, Result.andThen_ok, Sem.run_pure]
theorem neq_nil {P : Program} {t e : TypeId} {a : Option Addr} {n c : Nat} (hu : P.underlying t = some (.slice e)) (w : World) : (binOp .neq t (.slice a n c) (.slice none 0 0)).run P w = .ok (.bool (!isNilS (.slice a n c))) w := by
 have := equalIn_nil (P := P) (a := a) (n := n) (c := c) 9999 hu w
 simp only [binOp, Op.equal, Op.maxDepth, Sem.run_bind, this, Result.andThen_ok, Sem.run_pure]
theorem eqGuard_slice {P : Program} {op : BinOp} {t : TypeId} {x y : Operand} {a b : Option Addr} {n c n' c' : Nat} (w : World) : (eqGuard op t x y (.slice a n c) (.slice b n' c')).run P w = .ok () w := by
 cases op <;> simp [eqGuard]
theorem neq_bool {P : Program} {t : TypeId} {m n : Bool} (hu : P.underlying t = some .bool) (w : World) : (binOp .neq t (.bool m) (.bool n)).run P w = .ok (.bool (m != n)) w := by
 have := equalIn_bool (P := P) (m := m) (n := n) 9999 hu w
 simp only [binOp, Op.equal, Op.maxDepth, Sem.run_bind, this, Result.andThen_ok, Sem.run_pure]
 rfl
def ints (xs : List Int) : Array Value := (xs.map (Value.int .i64)).toArray
theorem eqC_spec : ∀ {l l' : List CV} {g : Bool}, eqC l l' = some g → ∃ xs ys : List Int, dens l = xs.map (Value.int .i64) ∧ dens l' = ys.map (Value.int .i64) ∧ xs.length = ys.length ∧ g = decide (xs = ys)
 | [], [], g, h => by simp only [eqC] at h; cases h; exact ⟨[], [], rfl, rfl, rfl, by simp⟩
 | .i a :: r, .i b :: q, g, h => by
  simp only [eqC] at h
  split at h
  ·rename_i g' hg
   cases h
   obtain ⟨xs, ys, h1, h2, h3, h4⟩ := eqC_spec hg
   refine ⟨a :: xs, b :: ys, ?_, ?_, by simp [h3], by simp [h4]⟩
   ·simp only [dens, List.map_cons, CV.den]; rw [← h1]; rfl
   ·simp only [dens, List.map_cons, CV.den]; rw [← h2]; rfl
  ·cases h
 | [], _ :: _, g, h => by simp [eqC] at h
 | _ :: _, [], g, h => by simp [eqC] at h
 | .b _ :: _, c :: _, g, h => by cases c <;> simp [eqC] at h
 | .x _ :: _, c :: _, g, h => by cases c <;> simp [eqC] at h
 | .p _ _ _ :: _, c :: _, g, h => by cases c <;> simp [eqC] at h
 | .e _ _ _ _ :: _, c :: _, g, h => by cases c <;> simp [eqC] at h
 | .o _ _ :: _, c :: _, g, h => by cases c <;> simp [eqC] at h
 | .r _ _ _ _ _ :: _, c :: _, g, h => by cases c <;> simp [eqC] at h
 | .q _ _ _ :: _, c :: _, g, h => by cases c <;> simp [eqC] at h
 | .s _ :: _, c :: _, g, h => by cases c <;> simp [eqC] at h
 | .i _ :: _, .b _ :: _, g, h => by simp [eqC] at h
 | .i _ :: _, .x _ :: _, g, h => by simp [eqC] at h
 | .i _ :: _, .p _ _ _ :: _, g, h => by simp [eqC] at h
 | .i _ :: _, .e _ _ _ _ :: _, g, h => by simp [eqC] at h
 | .i _ :: _, .o _ _ :: _, g, h => by simp [eqC] at h
 | .i _ :: _, .r _ _ _ _ _ :: _, g, h => by simp [eqC] at h
 | .i _ :: _, .q _ _ _ :: _, g, h => by simp [eqC] at h
 | .i _ :: _, .s _ :: _, g, h => by simp [eqC] at h
theorem part_int {P : Program} {t : TypeId} {k : IntKind} (ht : P.underlying t = some (.int k)) {xs : List Int} {o : Nat} {x : Int} (hx : xs[o]? = some x) (w : World) : (part t (ints xs) o).run P w = .ok (.int .i64 x) w := by
 unfold part
 simp only [Sem.run_bind, ok_isAgg ht, Result.andThen_ok, isAggD]
 simp [ints, hx]
theorem part_struct {P : Program} {t : TypeId} {fs : Array Field} {i : TypeInfo} (ht : P.underlying t = some (.struct fs)) (hi : P.info? t = some i) (xs : List Int) (o : Nat) (w : World) : (part t (ints xs) o).run P w = .ok (.agg (ints ((xs.drop o).take i.size))) w := by
 unfold part
 simp only [Sem.run_bind, ok_isAgg ht, Result.andThen_ok, isAggD, if_true, ok_sizeOf hi, Sem.run_pure, ints]
 congr 2
 apply Array.ext'
 simp [List.map_take, List.map_drop]
theorem decide_split {xs ys : List Int} {o n : Nat} (h : xs.length = ys.length) : decide (xs.drop o = ys.drop o) = (decide ((xs.drop o).take n = (ys.drop o).take n) && decide (xs.drop (o + n) = ys.drop (o + n))) := by
 rw [Bool.eq_iff_iff]
 simp only [Bool.and_eq_true, decide_eq_true_eq]
 constructor
 ·intro e; rw [e, ← List.drop_drop, e, List.drop_drop]; exact ⟨rfl, rfl⟩
 ·rintro ⟨h1, h2⟩
  rw [← List.take_append_drop n (xs.drop o), ← List.take_append_drop n (ys.drop o), h1, List.drop_drop, List.drop_drop, h2]
theorem cmpF_eq {P : Program} {d : Nat} {rec : TypeId → Option Nat} (hrec : ∀ t n, rec t = some n → ∀ (xs ys : List Int), xs.length = n → ys.length = n → ∀ w, (Op.equalIn d t (.agg (ints xs)) (.agg (ints ys))).run P w = .ok (decide (xs = ys)) w) (hd : 0 < d) :
  ∀ {fs : List Field} {o n : Nat}, cmpF P rec fs o = some n → ∀ (xs ys : List Int), xs.length = n → ys.length = n → ∀ w, o ≤ n ∧ (Op.eqFields d (ints xs) (ints ys) fs).run P w = .ok (decide (xs.drop o = ys.drop o)) w
 | [], o, n, h, xs, ys, hx, hy, w => by
  simp only [cmpF] at h; cases h
  refine ⟨Nat.le_refl _, ?_⟩
  rw [List.drop_eq_nil_of_le (by omega), List.drop_eq_nil_of_le (by omega)]
  simp [Op.eqFields]
 | f :: r, o, n, h, xs, ys, hx, hy, w => by
  simp only [cmpF] at h
  split at h
  ·rename_i hc
   obtain ⟨hname, hoff⟩ := hc
   split at h
   ·rename_i hu
    have ih := cmpF_eq hrec hd h xs ys hx hy w
    refine ⟨by omega, ?_⟩
    obtain ⟨x, ex⟩ : ∃ x, xs[o]? = some x := ⟨_, List.getElem?_eq_getElem (by omega)⟩
    obtain ⟨y, ey⟩ : ∃ y, ys[o]? = some y := ⟨_, List.getElem?_eq_getElem (by omega)⟩
    obtain ⟨d', rfl⟩ : ∃ d', d = d' + 1 := ⟨d - 1, by omega⟩
    simp only [Op.eqFields, hname, ne_eq, not_false_eq_true, if_true, hoff, Sem.run_bind, part_int hu ex, part_int hu ey, Result.andThen_ok, run_equalIn_int w d' f.type .i64 .i64 x y hu]
    rw [decide_split (n := 1) (by omega)]
    have tx : (xs.drop o).take 1 = [x] := by rw [List.take_one, List.head?_drop, ex]; rfl
    have ty : (ys.drop o).take 1 = [y] := by rw [List.take_one, List.head?_drop, ey]; rfl
    rw [tx, ty]
    by_cases hxy : x = y
    ·subst hxy; simp [ih.2]
    ·simp [hxy]
   ·rename_i fs' hu
    split at h
    ·rename_i m i hm hi
     split at h
     ·rename_i hsz
      have ih := cmpF_eq hrec hd h xs ys hx hy w
      refine ⟨by omega, ?_⟩
      have e := hrec _ _ hm ((xs.drop o).take m) ((ys.drop o).take m) (by simp; omega) (by simp; omega) w
      simp only [Op.eqFields, hname, ne_eq, not_false_eq_true, if_true, hoff, Sem.run_bind, part_struct hu hi, Result.andThen_ok, hsz, e]
      rw [decide_split (n := m) (by omega)]
      by_cases hxy : (xs.drop o).take m = (ys.drop o).take m
      ·simp [hxy, ih.2]
      ·simp [hxy]
     ·cases h
    ·cases h
   ·cases h
  ·cases h
theorem cmpB_eq {P : Program} : ∀ {d : Nat} {t : TypeId} {n : Nat}, cmpB P d t = some n → ∀ k, 0 < k → ∀ (xs ys : List Int), xs.length = n → ys.length = n → ∀ w, (Op.equalIn (d + k) t (.agg (ints xs)) (.agg (ints ys))).run P w = .ok (decide (xs = ys)) w
 | 0, t, n, h, k, hk, xs, ys, hx, hy, w => by simp [cmpB] at h
 | d + 1, t, n, h, k, hk, xs, ys, hx, hy, w => by
  simp only [cmpB] at h
  split at h
  ·rename_i fs hu
   split at h
   ·cases h
   ·rename_i hst
    have hfo : P.fieldsOf t = fs := by unfold Program.fieldsOf; rw [hu]
    rw [show d + 1 + k = (d + k) + 1 by omega, run_equalIn_struct w (d + k) t _ _ (by rw [hfo]; exact hu) hst, hfo]
    have := (cmpF_eq (P := P) (d := d + k) (rec := cmpB P d) (fun t n h xs ys hx hy w => cmpB_eq h k hk xs ys hx hy w) (by omega) h xs ys hx hy w).2
    simpa using this
  ·cases h
theorem eql_struct {P : Program} {t : TypeId} {n : Nat} (hc : cmpOk P t n = true) {xs ys : List Int} (hx : xs.length = n) (hy : ys.length = n) (w : World) : (binOp .eql t (.agg (ints xs)) (.agg (ints ys))).run P w = .ok (.bool (decide (xs = ys))) w := by
 simp only [cmpOk, Bool.and_eq_true, beq_iff_eq] at hc
 rw [run_eql_struct, cmpB_eq hc.1 9992 (by decide) xs ys hx hy w]; rfl
theorem neq_struct {P : Program} {t : TypeId} {n : Nat} (hc : cmpOk P t n = true) {xs ys : List Int} (hx : xs.length = n) (hy : ys.length = n) (w : World) : (binOp .neq t (.agg (ints xs)) (.agg (ints ys))).run P w = .ok (.bool (!decide (xs = ys))) w := by
 simp only [cmpOk, Bool.and_eq_true, beq_iff_eq] at hc
 rw [run_neq_struct, cmpB_eq hc.1 9992 (by decide) xs ys hx hy w]; rfl
theorem guard_struct {P : Program} {t : TypeId} {n : Nat} (hc : cmpOk P t n = true) {op : BinOp} {x y : Operand} {xs ys : Array Value} (w : World) : (eqGuard op t x y (.agg xs) (.agg ys)).run P w = .ok () w := by
 simp only [cmpOk, Bool.and_eq_true, Bool.not_eq_true'] at hc
 exact run_eqGuard_agg w op t x y xs ys hc.2
theorem run_sliceBound {P : Program} {n : Int} {y : Nat} {code : BoundsCode} (h0 : 0 ≤ n) (h1 : n ≤ y) (w : World) : (Instr.sliceBound (.int .i64 n) y code).run P w = .ok n.toNat w := by
 simp [Instr.sliceBound, asIntOf, h0, h1]
def optV (o : Option Int) : Option Value := o.map (Value.int .i64)
theorem run_sub {P : Program} {t e : TypeId} {i : TypeInfo} (ht : P.underlying t = some (.slice e)) (hi : P.info? e = some i) {a : Option Addr} {n c : Nat} {lo hi' : Option Int} (h0 : 0 ≤ lo.getD 0) (h1 : lo.getD 0 ≤ hi'.getD n) (h2 : hi'.getD n ≤ c) (w : World) :
  (Instr.sliceAt t (.slice a n c) (optV lo) (optV hi') none).run P w = .ok (subV (.slice a n c) i.size (lo.getD 0) (hi'.getD n)) w := by
 have hh : 0 ≤ hi'.getD (n : Int) := by omega
 cases lo with
 | none =>
  cases hi' with
  | none =>
   simp [Instr.sliceAt, run_underlying ht, Instr.slice, Instr.sliceBounds, optV, ok_sizeOf hi, subV]
  | some m =>
   simp at h1 h2
   simp [Instr.sliceAt, run_underlying ht, Instr.slice, Instr.sliceBounds, optV, ok_sizeOf hi, subV, run_sliceBound h1 h2]
 | some l =>
  cases hi' with
  | none =>
   simp at h0 h1 h2
   simp [Instr.sliceAt, run_underlying ht, Instr.slice, Instr.sliceBounds, optV, ok_sizeOf hi, subV, run_sliceBound h0 h1]
  | some m =>
   simp at h0 h1 h2
   have : l ≤ (m.toNat : Int) := by omega
   simp [Instr.sliceAt, run_underlying ht, Instr.slice, Instr.sliceBounds, optV, ok_sizeOf hi, subV, run_sliceBound (by omega : 0 ≤ m) h2, run_sliceBound h0 this]
theorem pickRV_den {g : Bool} {u v r : RV} (h : pickRV g u v = some r) : r.den = if g then u.den else v.den := by
 unfold pickRV at h
 split at h
 ·cases h; cases g <;> rfl
 ·cases h; cases g <;> rfl
 ·cases h
section
variable {P : Program} {tab : Tab} {st : St} {a : Act} {cur : Keys} {o : Oper} {obs : List Prop} {v : RV} {w : World}
theorem places_ok : ∀ {fs : List Field} {l : List (Nat × Nat × Bool)}, fldsOk P fs l = true → fs.mapM (fun f => (P.info? f.type).map fun i => (f.offset, i.size)) = some (l.map fun x => (x.1, x.2.1))
 | [], [], _ => by simp
 | [], _ :: _, h => by simp [fldsOk] at h
 | _ :: _, [], h => by simp [fldsOk] at h
 | f :: r, (o, n, g) :: q, h => by
  simp only [fldsOk, Bool.and_eq_true, beq_iff_eq] at h
  obtain ⟨⟨⟨h1, h2⟩, h3⟩, h4⟩ := h
  split at h2
  ·rename_i j hj
   simp at h2
   rw [List.mapM_cons, hj, places_ok h4]
   simp [h1, h2.1]
  ·cases h2
theorem bldS_spec (hwf : WF st) (hr : Rel st a) (hk : keysHold a cur) {flds : List (Nat × Nat × Bool)} {places : Nat → Option (Nat × Nat)} (hpl : ∀ i o n g, flds[i]? = some (o, n, g) → places i = some (o, n)) :
  ∀ {parts : List (Nat × Operand)} {obs obs' : List Prop} {acc l : List CV}, bldS st cur flds parts obs acc = some (obs', l) → (∀ p ∈ obs', p) →
   Instr.fill places (dens acc).toArray (parts.map fun x => (x.1, a.eval x.2)) = some (dens l).toArray ∧ (∀ p ∈ obs, p)
 | [], obs, obs', acc, l, h, ho => by simp only [bldS] at h; cases h; exact ⟨rfl, ho⟩
 | (i, x) :: r, obs, obs', acc, l, h, ho => by
  simp only [bldS] at h
  split at h
  ·rename_i v hv
   split at h
   ·rename_i l0 o n g hl0 hf
    split at h
    ·rename_i acc' hlen hset
     obtain ⟨h1, h2⟩ := bldS_spec hwf hr hk hpl h ho
     have hone := oneObs_spec (hp := st.hp) (l := l0) (fun p hp => h2 p (List.mem_append.2 (.inl hp))) (cells_ok hl0 (opv_ok hwf hr hk hv))
     have hc := cells_eq hl0 hone
     obtain ⟨e1, e2⟩ := setCells_spec hset
     have hlen := Nat.eq_of_beq_eq_true hlen
     refine ⟨?_, fun p hp => h2 p (List.mem_append.2 (.inr hp))⟩
     simp only [List.map_cons, eval_opv hr hk hv]
     rw [fill_one (hpl i o n g hf) _ _ _ (by rw [hc]; simp [dens, hlen]) (by simp [dens]; omega), ← h1, e1]
     congr 1
     simp [dens, hc, ← hlen, List.map_take, List.map_drop]
    ·cases h
   ·cases h
  ·cases h
theorem opds_spec (hr : Rel st a) (hk : keysHold a cur) : ∀ {l : List Operand} {vs : List Value}, opds st cur l = some vs → l.map a.eval = vs
 | [], vs, h => by simp only [opds] at h; cases h; rfl
 | x :: r, vs, h => by
  simp only [opds] at h
  split at h
  ·rename_i v l hv hl
   cases h
   simp [eval_opv hr hk hv, opds_spec hr hk hl]
  ·cases h
theorem opvO_spec (hr : Rel st a) (hk : keysHold a cur) {x : Option Operand} {l : Option RV} {d n : Int} (h : opvO st cur x = some l) (hn : optI d l = some n) : ∃ o : Option Int, x.map a.eval = optV o ∧ o.getD d = n := by
 cases x with
 | none =>
  simp only [opvO] at h; cases h
  simp only [optI] at hn; cases hn
  exact ⟨none, rfl, rfl⟩
 | some y =>
  simp only [opvO] at h
  split at h
  ·rename_i v hv
   cases h
   have e := eval_opv hr hk hv
   unfold optI at hn
   split at hn
   ·rename_i hq; cases hq
   ·rename_i m hq
    cases hq; cases hn
    exact ⟨some n, by simp [e, optV, RV.den, SV.den, CV.den], rfl⟩
   ·cases hn
  ·cases h
theorem keysHold_pick {c : Operand} {g : Bool} (hk : keysHold a cur) (hc : a.eval c = .bool g) (hn : a.tmps.size = st.N) (hcell : ∀ t, c = .tmp t → t < a.tmps.size) : keysHold a (pickKeys c g cur) := by
 cases c with
 | tmp t =>
  intro k hk'
  simp only [pickKeys, List.mem_cons] at hk'
  rcases hk' with rfl | hk'
  ·have := hcell t rfl
   simp only [Act.eval, Array.getD_eq_getD_getElem?, Array.getElem?_eq_getElem this, Option.getD_some] at hc
   simp [Array.getElem?_eq_getElem this, hc]
  ·exact hk k hk'
 | _ => exact hk
theorem opv_lt (hr : Rel st a) {t : Nat} {v : RV} (h : opv st cur (.tmp t) = some v) : t < a.tmps.size := by
 simp only [opv] at h
 have key : ∀ u, a.tmps[t]? = some u → t < a.tmps.size := fun u hu => by
  rcases Nat.lt_or_ge t a.tmps.size with h' | h'
  ·exact h'
  ·rw [Array.getElem?_eq_none h'] at hu; cases hu
 split at h
 ·rename_i ks u hg
  rcases hr.gl t ks u hg with ⟨_, h1, _⟩ | ⟨_, h1⟩
  ·exact key _ h1
  ·exact key _ h1
 ·rename_i hg
  split at h
  ·rename_i u hl
   exact key _ (hr.sl t u hl)
  ·cases h
set_option maxHeartbeats 1000000 in
theorem pev1_sound (hT : TabOk P tab) (hwf : WF st) (hr : Rel st a) (hk : keysHold a cur) {hp : List (Nat × LO)} (hsub : ∀ id q, look hp id = some q → look st.hp id = some q) (h : pev1 tab st hp cur o.op = some (obs, v)) (ho : ∀ p ∈ obs, p) (hw : ∀ x ∈ hp, x.2.holds w) :
  (execOp a.eval o).run P w = .ok (.value v.den) w := by
 obtain ⟨dst, op, type, pos, after, guard⟩ := o
 dsimp only at h
 unfold execOp
 cases op <;> simp only [pev1] at h <;> try (cases h)
 case move x =>
  split at h
  ·rename_i u hu
   cases h
   simp [eval_opv hr hk hu]
  ·cases h
 case assign x =>
  split at h
  ·rename_i u hu
   cases h
   simp [eval_opv hr hk hu]
  ·cases h
 case pick c x y =>
  split at h
  ·rename_i g hc
   split at h
   ·rename_i u1 u2 hx hy
    split at h
    ·rename_i r hp
     cases h
     have ec := eval_opv hr hk hc
     have lt : ∀ t, c = .tmp t → t < a.tmps.size := fun t e => by subst e; exact opv_lt hr hc
     have e := pickRV_den hp
     simp only [RV.den, SV.den, CV.den] at ec
     cases g
     ·have ey := eval_opv hr (keysHold_pick hk ec hr.size lt) hy
      simp at e
      simp [ec, asBool, ey, e]
     ·have ex := eval_opv hr (keysHold_pick hk ec hr.size lt) hx
      simp at e
      simp [ec, asBool, ex, e]
    ·cases h
   ·cases h
  ·cases h
 case binOp op t x y t' =>
  split at h
  ·rename_i m n hx hy
   have ex := eval_opv hr hk hx
   have ey := eval_opv hr hk hy
   simp only [RV.den, SV.den, CV.den] at ex ey
   have e := intBin_ok (P := P) (t := t) h ho w
   simp [ex, ey, e, eqGuard_int]
  ·rename_i m n hx hy
   have ex := eval_opv hr hk hx
   have ey := eval_opv hr hk hy
   simp only [RV.den, SV.den, CV.den] at ex ey
   split at h
   ·rename_i ti hti
    split at h
    ·rename_i hk5
     cases h
     have hu := chk_bool (hT _ _ hti) hk5
     simp [ex, ey, eqGuard_bool, eql_bool hu, RV.den, SV.den, CV.den]
    ·rename_i hk5
     cases h
     have hu := chk_bool (hT _ _ hti) hk5
     simp [ex, ey, eqGuard_bool, neq_bool hu, RV.den, SV.den, CV.den]
    ·cases h
   ·cases h
  ·rename_i l l' hx hy
   have ex := eval_opv hr hk hx
   have ey := eval_opv hr hk hy
   simp only [RV.den, SV.den] at ex ey
   split at h
   ·rename_i ti hti
    split at h
    ·rename_i g hk2 hcm hlen heq
     cases h
     obtain ⟨fs, _, _, hc⟩ := chk_struct' (hT _ _ hti) hk2
     have hc := hc hcm
     obtain ⟨xs, ys, e1, e2, e3, rfl⟩ := eqC_spec heq
     have hlen := Nat.eq_of_beq_eq_true hlen
     have hxl : xs.length = ti.size := by rw [← hlen]; have := congrArg List.length e1; simpa [dens] using this.symm
     rw [e1] at ex; rw [e2] at ey
     have q := eql_struct hc hxl (by omega : ys.length = ti.size) w
     simp only [ints] at q
     simp [ex, ey, guard_struct hc, q, RV.den, SV.den, CV.den]
    ·rename_i g hk2 hcm hlen heq
     cases h
     obtain ⟨fs, _, _, hc⟩ := chk_struct' (hT _ _ hti) hk2
     have hc := hc hcm
     obtain ⟨xs, ys, e1, e2, e3, rfl⟩ := eqC_spec heq
     have hlen := Nat.eq_of_beq_eq_true hlen
     have hxl : xs.length = ti.size := by rw [← hlen]; have := congrArg List.length e1; simpa [dens] using this.symm
     rw [e1] at ex; rw [e2] at ey
     have q := neq_struct hc hxl (by omega : ys.length = ti.size) w
     simp only [ints] at q
     simp [ex, ey, guard_struct hc, q, RV.den, SV.den, CV.den]
    ·cases h
   ·cases h
  ·rename_i vv uu hx hy
   have ex := eval_opv hr hk hx
   have ey := eval_opv hr hk hy
   simp only [RV.den, SV.den, CV.den] at ex ey
   unfold xBin at h
   split at h
   ·rename_i n
    split at h
    ·rename_i m
     split at h
     ·cases h
      simp only [List.mem_cons, List.not_mem_nil, or_false, forall_eq_or_imp, forall_eq] at ho
      obtain ⟨rfl, h0⟩ := ho
      have e : m.fdiv 2 = m / 2 := Int.fdiv_eq_ediv_of_nonneg _ (by omega)
      simp [ex, ey, eqGuard_int, binOp, Op.shift, IntKind.bits, e, RV.den, SV.den, CV.den]
     ·cases h
      simp [ex, ey, eqGuard_int, binOp, Op.intCmp, RV.den, SV.den, CV.den]
     ·cases h
    ·cases h
   ·rename_i n
    split at h
    ·rename_i m
     split at h
     ·cases h
      simp only [List.mem_cons, List.not_mem_nil, or_false, forall_eq_or_imp, forall_eq] at ho
      obtain ⟨h0, h1⟩ := ho
      have e : m.tmod n = m % n := Int.tmod_eq_emod_of_nonneg h0
      have hn : ¬ n = 0 := by omega
      simp [ex, ey, eqGuard_int, binOp, Op.intDiv, hn, e, RV.den, SV.den, CV.den]
     ·cases h
    ·cases h
   ·split at h
    ·rename_i ti hti
     split at h
     ·rename_i hk1
      cases h
      obtain ⟨hu, _⟩ := chk_slice (hT _ _ hti) hk1
      simp only [List.mem_cons, List.not_mem_nil, or_false, forall_eq] at ho
      obtain ⟨ad, n, c, rfl, _⟩ := ho
      simp [ex, ey, eqGuard_slice, eql_nil hu, neq_nil hu, RV.den, SV.den, CV.den]
     ·rename_i hk1
      cases h
      obtain ⟨hu, _⟩ := chk_slice (hT _ _ hti) hk1
      simp only [List.mem_cons, List.not_mem_nil, or_false, forall_eq] at ho
      obtain ⟨ad, n, c, rfl, _⟩ := ho
      simp [ex, ey, eqGuard_slice, eql_nil hu, neq_nil hu, RV.den, SV.den, CV.den]
     ·cases h
    ·cases h
   ·cases h
  ·rename_i id u hx hy
   have ex := eval_opv hr hk hx
   have ey := eval_opv hr hk hy
   simp only [RV.den, SV.den, CV.den] at ex ey
   obtain ⟨ad, n, c, rfl⟩ := opv_ok hwf hr hk hx
   split at h
   ·rename_i ti hti
    split at h
    ·rename_i hk1
     cases h
     obtain ⟨hu, _⟩ := chk_slice (hT _ _ hti) hk1
     simp [ex, ey, eqGuard_slice, eql_nil hu, neq_nil hu, RV.den, SV.den, CV.den]
    ·rename_i hk1
     cases h
     obtain ⟨hu, _⟩ := chk_slice (hT _ _ hti) hk1
     simp [ex, ey, eqGuard_slice, eql_nil hu, neq_nil hu, RV.den, SV.den, CV.den]
    ·cases h
   ·cases h
  ·cases h
 case unOp op t x =>
  split at h
  ·rename_i m hx
   cases h
   have ex := eval_opv hr hk hx
   simp only [RV.den, SV.den, CV.den] at ex
   simp [ex, Op.unary, RV.den, SV.den, CV.den]
  ·rename_i m hx
   cases h
   have ex := eval_opv hr hk hx
   simp only [RV.den, SV.den, CV.den] at ex
   simp only [List.mem_cons, List.not_mem_nil, or_false, forall_eq] at ho
   simp only [Int.zero_sub] at ho ⊢
   simp [ex, Op.unary, Op.intArith, wrap_inR ho, RV.den, SV.den, CV.den]
  ·cases h
 case extract t ix =>
  split at h
  ·rename_i l hx
   split at h
   ·rename_i u hu
    cases h
    have ex := eval_opv hr hk hx
    simp only [RV.den] at ex
    simp [ex, Instr.extract, hu, RV.den]
   ·cases h
  ·cases h
 case nilCheck x =>
  split at h
  ·rename_i id blk off hx
   cases h
   have ex := eval_opv hr hk hx
   simp only [RV.den, SV.den, CV.den] at ex
   simp [ex, RV.den, SV.den, CV.den]
  ·rename_i id u size idx off hx
   cases h
   have ex := eval_opv hr hk hx
   obtain ⟨a0, n0, c0, rfl⟩ := opv_ok hwf hr hk hx
   simp only [RV.den, SV.den, CV.den, elemPtr] at ex
   simp [ex, RV.den, SV.den, CV.den, elemPtr]
  ·rename_i u size idx off hx
   cases h
   have ex := eval_opv hr hk hx
   obtain ⟨a0, n0, c0, rfl⟩ := opv_ok hwf hr hk hx
   simp only [RV.den, SV.den, CV.den, elemPtr] at ex
   simp [ex, RV.den, SV.den, CV.den, elemPtr]
  ·cases h
 case fieldAddr s x f =>
  split at h
  ·rename_i ti u hti hx
   split at h
   ·rename_i off n g hk2 hf
    split at h
    ·rename_i u' hu'
     cases h
     have ex := eval_opv hr hk hx
     simp only [RV.den, SV.den] at ex
     obtain ⟨fs, hfs, hok⟩ := chk_struct (hT _ _ hti) hk2
     obtain ⟨fd, j, d, h1, h2, h3, h4, h5, h6, h7⟩ := fldsOk_spec hok f off n g hf
     have h1' : fs[f]? = some fd := by simpa using h1
     obtain ⟨ad, had⟩ : ∃ ad, u.den = .pointer (some ad) := by
      have hok' := opv_ok hwf hr hk hx
      simp only [RVok, SVok] at hok'
      cases u with
      | p id blk o => exact ⟨_, rfl⟩
      | e v size idx o =>
       obtain ⟨a0, n0, c0, rfl⟩ := hok'
       exact ⟨_, rfl⟩
      | r id v size idx o =>
       obtain ⟨a0, n0, c0, rfl⟩ := hok'
       exact ⟨_, rfl⟩
      | o _ _ => simp [addOff] at hu'
      | q _ _ _ => simp [addOff] at hu'
      | s _ => simp [addOff] at hu'
      | i _ => simp [addOff] at hu'
      | b _ => simp [addOff] at hu'
      | x _ => simp [addOff] at hu'
     have e := addOff_den hu' ad had
     have hne : j.size ≠ 0 := by rw [h4]; exact h5
     simp [ex, Instr.fieldAt, run_underlying hfs, h1', had, Instr.sureAddr, fieldPlace, ok_sizeOf h3, hne, h2, RV.den, SV.den, e]
    ·cases h
   ·cases h
  ·cases h
 case indexAddr t x ix =>
  split at h
  ·rename_i ti u n hti hx hix
   split at h
   ·rename_i hk1
    cases h
    have ex := eval_opv hr hk hx
    have ei := eval_opv hr hk hix
    simp only [RV.den, SV.den, CV.den] at ex ei
    simp only [List.mem_cons, List.not_mem_nil, or_false, forall_eq_or_imp, forall_eq] at ho
    obtain ⟨hu, j, hj, hj1, hj2⟩ := chk_slice (hT _ _ hti) hk1
    have hsl : ∃ ad len cap, u = .slice (some ad) len cap ∧ n < len := by
     have h2 := ho.2
     unfold slen at h2
     split at h2
     ·exact ⟨_, _, _, rfl, h2⟩
     ·omega
    obtain ⟨ad, len, cap, rfl, hlt⟩ := hsl
    have h0 := ho.1
    simp [ex, ei, Instr.indexAt, asIntOf, run_underlying hu, h0, hlt, ok_sizeOf hj, hj1, RV.den, SV.den, CV.den, elemPtr, elemAddr]
    simp [Addr.add]
   ·cases h
  ·rename_i ti id u n hti hx hix
   split at h
   ·rename_i v0 E size L hk1 hob
    split at h
    ·rename_i hsz
     cases h
     have ex := eval_opv hr hk hx
     have ei := eval_opv hr hk hix
     simp only [RV.den, SV.den, CV.den] at ex ei
     simp only [List.mem_cons, List.not_mem_nil, or_false, forall_eq_or_imp, forall_eq] at ho
     obtain ⟨rfl, h0, hlt⟩ := ho
     obtain ⟨hu, j, hj, hj1, hj2⟩ := chk_slice (hT _ _ hti) hk1
     have hsz := Nat.eq_of_beq_eq_true hsz
     have hobj := hw _ (look_mem hob)
     simp only [LO.holds, ownsAt] at hobj
     obtain ⟨⟨_, hv | ⟨g, o, cap, cur, rfl, hg, _⟩⟩, _⟩ := hobj
     ·omega
     simp [ex, ei, Instr.indexAt, asIntOf, run_underlying hu, h0, hlt, ok_sizeOf hj, hj1, ← hsz, RV.den, SV.den, CV.den, elemPtr, elemAddr]
     simp [Addr.add]
    ·cases h
   ·cases h
  ·cases h
 case load t x =>
  split at h
  ·rename_i ti id blk off hti hx
   split at h
   ·rename_i blk' T cells hob
    split at h
    ·rename_i l hl
     split at h
     ·rename_i u hu
      cases h
      have ex := eval_opv hr hk hx
      simp only [RV.den, SV.den, CV.den] at ex
      obtain ⟨T', cells', hob'⟩ := opv_ok hwf hr hk hx
      rw [hsub _ _ hob] at hob'
      cases hob'
      obtain ⟨hlen, hget⟩ := takeCells_spec hl
      have hobj := hw _ (look_mem hob)
      simp only [LO.holds] at hobj
      have e := ok_loadVar (hT _ _ hti) (a := ⟨blk, off, none⟩) hlen hu (w := w) (fun j q hq => by
       have hj : j < ti.size := by
        rcases Nat.lt_or_ge j ti.size with h' | h'
        ·exact h'
        ·rw [List.getElem?_eq_none (by simp [dens, hlen, h'])] at hq; cases hq
       have h1 := hget j hj
       have ha : (⟨blk, off, none⟩ : Addr).add j = ⟨blk, off + j, none⟩ := by
        unfold Addr.add; split
        ·simp [*]
        ·rfl
       rw [ha, cell_of_row w blk (off + j) _ _ _ hobj]
       simp only [dens, List.getElem?_map] at hq
       simp only [dens, List.getElem?_toArray, List.getElem?_map, h1, hq])
      simp [ex, Instr.loadAt, Instr.sureAddr, e, RV.den]
     ·cases h
    ·cases h
   ·cases h
  ·cases h
 case build t parts =>
  split at h
  ·rename_i ti hti
   split at h
   ·rename_i obs' l hk2 hb
    cases h
    obtain ⟨fs, hfs, hok⟩ := chk_struct (hT _ _ hti) hk2
    obtain ⟨i, d, hi, hd, hs, hag, z, hz, hzc, _⟩ := chk_info (hT _ _ hti)
    have hpl := places_ok hok
    have hb' := (bldS_spec hwf hr hk (places := fun i => (ti.flds.map fun x => (x.1, x.2.1)).toArray[i]?) (fun i o n g hf => by simp [hf]) hb ho).1
    have hzc' : z.cells = (dens ti.zero).toArray := by apply Array.ext'; simpa using hzc
    have hbuilt : P.built t (parts.map fun (i, x) => (i, a.eval x)).toList = some (dens l).toArray := by
     unfold Program.built
     simp only [hi, hfs, hz, hpl, hzc']
     rw [Array.toList_map]
     exact hb'
    have e := run_build (P := P) w t _ _ hbuilt
    simp [e, RV.den, SV.den]
   ·cases h
  ·cases h
 case field t x f =>
  split at h
  ·rename_i ti l hti hx
   split at h
   ·rename_i off n g hk2 hf
    split at h
    ·rename_i l' hl'
     split at h
     ·rename_i u hu
      cases h
      have ex := eval_opv hr hk hx
      simp only [RV.den, SV.den] at ex
      obtain ⟨fs, hfs, hok⟩ := chk_struct (hT _ _ hti) hk2
      obtain ⟨fd, j, d, h1, h2, h3, h4, h5, h6, h7⟩ := fldsOk_spec hok f off n g hf
      have h1' : fs[f]? = some fd := by simpa using h1
      obtain ⟨hlen, hget⟩ := takeCells_spec hl'
      have hp : (part fd.type (dens l).toArray off).run P w = .ok u.den w := by
       unfold part
       simp only [Sem.run_bind, ok_isAgg h6, Result.andThen_ok, h7]
       cases g
       ·simp only [mkSV] at hu
        split at hu
        ·rename_i c
         cases hu
         have h8 : n = 1 := by simpa using hlen.symm
         have := hget 0 (by omega)
         simp at this
         simp [dens, this, SV.den]
        ·cases hu
       ·simp only [mkSV] at hu
        cases hu
        simp only [if_true, Sem.run_bind, ok_sizeOf h3, Result.andThen_ok, Sem.run_pure, SV.den, h4]
        congr 3
        apply Array.ext'
        simp only [Array.toList_extract, List.extract]
        apply List.ext_getElem?
        intro k
        by_cases hkn : k < n
        ·rw [List.getElem?_take_of_lt (by omega), List.getElem?_drop]
         have := hget k hkn
         simp [dens, this]
        ·rw [List.getElem?_eq_none (by simp; omega), List.getElem?_eq_none (by simp [dens, hlen]; omega)]
      simp [ex, Instr.field, run_underlying hfs, h1', asAgg, h2, hp, RV.den]
     ·cases h
    ·cases h
   ·cases h
  ·cases h
 case convert src dst' x =>
  split at h
  ·rename_i ti tj n hti htj hx
   split at h
   ·rename_i hk6 hk6'
    cases h
    have ex := eval_opv hr hk hx
    simp only [RV.den, SV.den, CV.den] at ex
    simp only [List.mem_cons, List.not_mem_nil, or_false, forall_eq] at ho
    simp [convert, run_underlying (chk_i64 (hT _ _ hti) hk6), run_underlying (chk_i64 (hT _ _ htj) hk6'), ex, Conv.intToInt, wrap_inR ho, RV.den, SV.den, CV.den]
   ·rename_i hk6 hk6' hk7
    cases h
    have ex := eval_opv hr hk hx
    simp only [RV.den, SV.den, CV.den] at ex
    simp only [List.mem_cons, List.not_mem_nil, or_false, forall_eq_or_imp, forall_eq] at ho
    obtain ⟨h0, h1⟩ := ho
    have hw : IntKind.u64.wrap n = n := by
     have := h1.2
     simp only [IntKind.wrap, IntKind.signed, IntKind.bits]
     simp
     omega
    simp [convert, run_underlying (chk_i64 (hT _ _ hti) hk6), run_underlying (chk_u64 (hT _ _ htj) hk7), ex, Conv.intToInt, hw, RV.den, SV.den, CV.den]
   ·cases h
  ·rename_i ti tj k n hti htj hx
   split at h
   ·rename_i hk6
    cases h
    have ex := eval_opv hr hk hx
    simp only [RV.den, SV.den, CV.den] at ex
    simp only [List.mem_cons, List.not_mem_nil, or_false, forall_eq] at ho
    obtain ⟨i, d, hi, hd, _⟩ := chk_info (hT _ _ hti)
    simp [convert, run_underlying hd, run_underlying (chk_i64 (hT _ _ htj) hk6), ex, Conv.intToInt, wrap_inR ho, RV.den, SV.den, CV.den]
   ·cases h
  ·cases h
 case slice t x lo hi mx =>
  cases mx with
  | some _ => cases h
  | none =>
   simp only at h
   split at h
   ·rename_i ti u hti hx
    have ex := eval_opv hr hk hx
    simp only [RV.den, SV.den, CV.den] at ex
    split at h
    ·rename_i l h' hk1 hlo hhi
     split at h
     ·rename_i n m hn hm
      cases h
      simp only [List.mem_cons, List.not_mem_nil, or_false, forall_eq_or_imp, forall_eq] at ho
      obtain ⟨⟨ad, len, cap, rfl, hnil, hcap⟩, h0, h1, h2⟩ := ho
      obtain ⟨hu, j, hj, hj1, hj2⟩ := chk_slice (hT _ _ hti) hk1
      have e : slen (.slice ad len cap) = len := by
       cases ad with
       | none => simp [slen, (hnil rfl).1]
       | some a => rfl
      rw [e] at hm h2
      obtain ⟨lo', el, en⟩ := opvO_spec hr hk hlo hn
      obtain ⟨hi', eh, em⟩ := opvO_spec hr hk hhi hm
      have q := run_sub (P := P) hu hj (a := ad) (n := len) (c := cap) (lo := lo') (hi' := hi') (by rw [en]; exact h0) (by rw [en, em]; exact h1) (by rw [em]; omega) w
      rw [en, em, hj1] at q
      simp [ex, el, eh, q, RV.den, SV.den, CV.den]
     ·cases h
    ·cases h
   ·rename_i ti id u hti hx
    have ex := eval_opv hr hk hx
    simp only [RV.den, SV.den, CV.den] at ex
    split at h
    ·rename_i l h' v0 E size L hk1 hlo hhi hob
     split at h
     ·rename_i n m hn hm hsz
      cases h
      simp only [List.mem_cons, List.not_mem_nil, or_false, forall_eq_or_imp, forall_eq] at ho
      obtain ⟨rfl, h0, h1, h2⟩ := ho
      obtain ⟨hu, j, hj, hj1, hj2⟩ := chk_slice (hT _ _ hti) hk1
      have hsz := Nat.eq_of_beq_eq_true hsz
      obtain ⟨lo', el, en⟩ := opvO_spec hr hk hlo hn
      obtain ⟨hi', eh, em⟩ := opvO_spec hr hk hhi hm
      have hobj := hw _ (look_mem hob)
      simp only [LO.holds, ownsAt] at hobj
      have key : ∃ ad cap, u = .slice ad L.length cap ∧ L.length ≤ cap := by
       obtain ⟨⟨_, ⟨rfl, hl0⟩ | ⟨g, o, cap, cur, rfl, hg, hlc, _⟩⟩, _⟩ := hobj
       ·exact ⟨none, 0, by rw [hl0], by omega⟩
       ·exact ⟨_, cap, rfl, hlc⟩
      obtain ⟨ad, cap, rfl, hlc⟩ := key
      have h2' : m ≤ cap := by
       rcases h2 with h2 | h2
       ·omega
       ·exact h2
      have q := run_sub (P := P) hu hj (a := ad) (n := L.length) (c := cap) (lo := lo') (hi' := hi') (by rw [en]; exact h0) (by rw [en, em]; exact h1) (by rw [em]; exact h2') w
      rw [en, em, hj1, ← hsz] at q
      simp [ex, el, eh, q, RV.den, SV.den, CV.den]
     ·cases h
    ·cases h
   ·cases h
 case makeFunc fn first caps =>
  cases fn <;> simp only at h <;> try (cases h)
  split at h
  ·rename_i l l' hl hl'
   cases h
   have e1 : first.map a.eval = l.toArray := by apply Array.ext'; simpa using opds_spec hr hk hl
   have e2 : caps.map a.eval = l'.toArray := by apply Array.ext'; simpa using opds_spec hr hk hl'
   simp [Instr.makeFunc, e1, e2, RV.den, SV.den, CV.den]
  ·cases h
 case call c =>
  obtain ⟨callee, args, argTypes⟩ := c
  dsimp only at h
  split at h
  ·rename_i x t hargs htys
   have ea : args = #[x] := by rw [← Array.toList_inj]; simpa using hargs
   have et : argTypes = #[t] := by rw [← Array.toList_inj]; simpa using htys
   subst ea et
   split at h
   ·rename_i ti u hti hx
    have ex := eval_opv hr hk hx
    simp only [RV.den, SV.den, CV.den] at ex
    split at h
    ·rename_i hk1
     cases h
     obtain ⟨hu, _⟩ := chk_slice (hT _ _ hti) hk1
     simp only [List.mem_cons, List.not_mem_nil, or_false, forall_eq] at ho
     obtain ⟨ad, n, c, rfl, hnil, _⟩ := ho
     have e : slen (.slice ad n c) = n := by
      cases ad with
      | none => simp [slen, (hnil rfl).1]
      | some a => rfl
     simp [resolve, invoke, builtin, Builtin.len_, ex, run_underlying hu, goInt, RV.den, SV.den, CV.den, e]
    ·rename_i hk4 _
     cases h
     have hu := chk_string (hT _ _ hti) hk4
     simp only [List.mem_cons, List.not_mem_nil, or_false, forall_eq] at ho
     obtain ⟨s, rfl⟩ := ho
     simp [resolve, invoke, builtin, Builtin.len_, ex, run_underlying hu, goInt, RV.den, SV.den, CV.den, strOf]
    ·cases h
   ·rename_i ti id u hti hx
    have ex := eval_opv hr hk hx
    simp only [RV.den, SV.den, CV.den] at ex
    split at h
    ·rename_i v0 E size L hk1 hob
     cases h
     obtain ⟨hu, _⟩ := chk_slice (hT _ _ hti) hk1
     simp only [List.mem_cons, List.not_mem_nil, or_false, forall_eq] at ho
     subst ho
     have hobj := hw _ (look_mem hob)
     simp only [LO.holds, ownsAt] at hobj
     obtain ⟨⟨_, ⟨rfl, hn⟩ | ⟨g, o, cap, cur, rfl, hg, _⟩⟩, _⟩ := hobj
     ·simp [resolve, invoke, builtin, Builtin.len_, ex, run_underlying hu, goInt, RV.den, SV.den, CV.den, hn]
     ·simp [resolve, invoke, builtin, Builtin.len_, ex, run_underlying hu, goInt, RV.den, SV.den, CV.den]
    ·cases h
   ·cases h
  ·rename_i x t hargs htys
   have ea : args = #[x] := by rw [← Array.toList_inj]; simpa using hargs
   have et : argTypes = #[t] := by rw [← Array.toList_inj]; simpa using htys
   subst ea et
   split at h
   ·rename_i ti id u hti hx
    have ex := eval_opv hr hk hx
    simp only [RV.den, SV.den, CV.den] at ex
    split at h
    ·rename_i v0 E size L hk1 hob
     cases h
     obtain ⟨hu, _⟩ := chk_slice (hT _ _ hti) hk1
     simp only [List.mem_cons, List.not_mem_nil, or_false, forall_eq] at ho
     subst ho
     have hobj := hw _ (look_mem hob)
     simp only [LO.holds, ownsAt] at hobj
     obtain ⟨⟨_, ⟨rfl, hn⟩ | ⟨g, o, cap, cur, rfl, hg, _⟩⟩, _⟩ := hobj
     ·simp [resolve, invoke, builtin, Builtin.cap_, ex, run_underlying hu, goInt, RV.den, SV.den, CV.den, scap]
     ·simp [resolve, invoke, builtin, Builtin.cap_, ex, run_underlying hu, goInt, RV.den, SV.den, CV.den, scap]
    ·cases h
   ·cases h
  ·rename_i x y hargs
   have ea : args = #[x, y] := by rw [← Array.toList_inj]; simpa using hargs
   subst ea
   split at h
   ·rename_i m n hx hy
    cases h
    have ex := eval_opv hr hk hx
    have ey := eval_opv hr hk hy
    simp only [RV.den, SV.den, CV.den] at ex ey
    have e : (if n > m then n else m) = max m n := by omega
    simp [resolve, invoke, builtin, Builtin.max_, Builtin.max2, ex, ey, RV.den, SV.den, CV.den]
    omega
   ·cases h
  ·rename_i x y hargs
   have ea : args = #[x, y] := by rw [← Array.toList_inj]; simpa using hargs
   subst ea
   split at h
   ·rename_i m n hx hy
    cases h
    have ex := eval_opv hr hk hx
    have ey := eval_opv hr hk hy
    simp only [RV.den, SV.den, CV.den] at ex ey
    simp [resolve, invoke, builtin, Builtin.min_, Builtin.min2, ex, ey, RV.den, SV.den, CV.den]
    omega
   ·cases h
  ·cases h
end
def freeG (d : Nat) : List (Nat × Keys × RV) → Bool
 | [] => true
 | (s, ks, _) :: r => match Nat.beq s d, ks.any (fun k => Nat.beq k.1 d) with
  | false, false => freeG d r
  | _, _ => false
def freeK (d : Nat) : List (Nat × Keys × RV) → Bool
 | [] => true
 | (_, ks, _) :: r => match ks.any (fun k => Nat.beq k.1 d) with
  | false => freeK d r
  | true => false
def put : St → Option Nat → Keys → RV → Option St
 | ⟨N, sl, gl, hp, S, ws, df⟩, d, ks, v => match d with
  | none => some ⟨N, sl, gl, hp, S, ws, df⟩
  | some d => match Nat.blt d N with
   | false => none
   | true => match ks with
    | [] => match freeG d gl with
     | true => some ⟨N, (d, some v) :: sl, gl, hp, S, ws, df⟩
     | false => none
    | k :: r => match (k :: r).any (fun k => Nat.beq k.1 d), freeK d gl with
     | false, true => some ⟨N, (d, none) :: sl, (d, k :: r, v) :: gl, hp, S, ws, df⟩
     | _, _ => none
theorem freeG_spec {d : Nat} {l : List (Nat × Keys × RV)} (h : freeG d l = true) : (∀ s ks v, (s, ks, v) ∈ l → s ≠ d ∧ ∀ k ∈ ks, k.1 ≠ d) := by
 induction l with
 | nil => intro s ks v hm; cases hm
 | cons x r ih =>
  obtain ⟨t, q, u⟩ := x
  simp only [freeG] at h
  split at h
  ·rename_i h1 h2
   intro s ks v hm
   rcases List.mem_cons.1 hm with e | hm
   ·cases e
    refine ⟨fun e => by subst e; simp [Nat.beq_refl] at h1, fun k hk e => ?_⟩
    rw [List.any_eq_false] at h2
    have := h2 k hk
    rw [e] at this
    simp [Nat.beq_refl] at this
   ·exact ih h s ks v hm
  ·cases h
theorem freeK_spec {d : Nat} {l : List (Nat × Keys × RV)} (h : freeK d l = true) : (∀ s ks v, (s, ks, v) ∈ l → ∀ k ∈ ks, k.1 ≠ d) := by
 induction l with
 | nil => intro s ks v hm; cases hm
 | cons x r ih =>
  obtain ⟨t, q, u⟩ := x
  simp only [freeK] at h
  split at h
  ·rename_i h2
   intro s ks v hm
   rcases List.mem_cons.1 hm with e | hm
   ·cases e
    intro k hk e
    rw [List.any_eq_false] at h2
    have := h2 k hk
    rw [e] at this
    simp [Nat.beq_refl] at this
   ·exact ih h s ks v hm
  ·cases h
theorem get_put_ne {a : Act} {d s : Nat} {v : Value} (h : s ≠ d) : (a.put (some d) v).tmps[s]? = a.tmps[s]? := by
 simp only [Act.put]
 rw [Array.getElem?_setIfInBounds_ne (fun e => h e.symm)]
theorem get_put_eq {a : Act} {d : Nat} {v : Value} (h : d < a.tmps.size) : (a.put (some d) v).tmps[d]? = some v := by
 simp only [Act.put]
 rw [Array.getElem?_setIfInBounds_self_of_lt h]
theorem keysHold_put {a : Act} {d : Nat} {v : Value} {ks : Keys} (h : ∀ k ∈ ks, k.1 ≠ d) : keysHold (a.put (some d) v) ks ↔ keysHold a ks := by
 unfold keysHold
 constructor
 ·intro hk k hm; rw [← hk k hm, get_put_ne (h k hm)]
 ·intro hk k hm; rw [get_put_ne (h k hm)]; exact hk k hm
theorem put_rel {st st' : St} {a : Act} {d : Option Nat} {ks : Keys} {v : RV} (hp : put st d ks v = some st') (hr : Rel st a) {u : Value}
  (hu : (keysHold a ks ∧ u = v.den ∧ RVok st.hp v) ∨ (¬ keysHold a ks ∧ u = undef)) : Rel st' (a.put d u) := by
 obtain ⟨N, sl, gl, hp0, S, ws, df⟩ := st
 cases d with
 | none => simp only [put] at hp; cases hp; exact hr
 | some d =>
  simp only [put] at hp
  split at hp
  ·cases hp
  ·rename_i hlt
   have hlt : d < a.tmps.size := by rw [hr.size]; show d < N; exact Nat.lt_of_not_le fun h => by simp [Nat.blt, Nat.ble_eq] at hlt; omega
   have hsz : (a.put (some d) u).tmps.size = a.tmps.size := by simp [Act.put]
   cases ks with
   | nil =>
    simp only at hp
    split at hp
    ·rename_i hf
     cases hp
     have hf := freeG_spec hf
     have hu' : u = v.den := by
      rcases hu with ⟨_, h, _⟩ | ⟨h, _⟩
      ·exact h
      ·exact (h fun k hk => by cases hk).elim
     refine ⟨by rw [hsz]; exact hr.size, hr.defers, fun s w' hl => ?_, fun s q w' hl => ?_⟩
     ·replace hl : look ((d, some v) :: sl) s = some (some w') := hl
      simp only [look] at hl
      split at hl
      ·rename_i hb
       cases hl
       have := Nat.eq_of_beq_eq_true hb
       subst this
       rw [get_put_eq hlt, hu']
      ·rename_i hb
       rw [get_put_ne (fun e => by subst e; simp [Nat.beq_refl] at hb)]
       exact hr.sl s w' hl
     ·have hm := hf s q w' (look_mem hl)
      rw [keysHold_put hm.2, get_put_ne hm.1]
      exact hr.gl s q w' hl
    ·cases hp
   | cons k r =>
    simp only at hp
    split at hp
    ·rename_i h1 h2
     cases hp
     have h2 := freeK_spec h2
     have h1' : ∀ k' ∈ k :: r, k'.1 ≠ d := by
      intro k' hk' e
      rw [List.any_eq_false] at h1
      have := h1 k' hk'
      rw [e] at this
      simp [Nat.beq_refl] at this
     refine ⟨by rw [hsz]; exact hr.size, hr.defers, fun s w' hl => ?_, fun s q w' hl => ?_⟩
     ·replace hl : look ((d, none) :: sl) s = some (some w') := hl
      simp only [look] at hl
      split at hl
      ·cases hl
      ·rename_i hb
       rw [get_put_ne (fun e => by subst e; simp [Nat.beq_refl] at hb)]
       exact hr.sl s w' hl
     ·replace hl : look ((d, k :: r, v) :: gl) s = some (q, w') := hl
      simp only [look] at hl
      split at hl
      ·rename_i hb
       cases hl
       have := Nat.eq_of_beq_eq_true hb
       subst this
       rw [keysHold_put h1', get_put_eq hlt]
       rcases hu with ⟨h, e, ok⟩ | ⟨h, e⟩
       ·exact .inl ⟨h, by rw [e], ok⟩
       ·exact .inr ⟨h, by rw [e]⟩
      ·rename_i hb
       have hne : s ≠ d := fun e => by subst e; simp [Nat.beq_refl] at hb
       rw [keysHold_put (h2 s q w' (look_mem hl)), get_put_ne hne]
       exact hr.gl s q w' hl
    ·cases hp
theorem put_wf {st st' : St} {d : Option Nat} {ks : Keys} {v : RV} (hp : put st d ks v = some st') (hwf : WF st) (hv : ks = [] → RVok st.hp v) : WF st' := by
 obtain ⟨N, sl, gl, hp0, S, ws, df⟩ := st
 cases d with
 | none => simp only [put] at hp; cases hp; exact hwf
 | some d =>
  simp only [put] at hp
  split at hp
  ·cases hp
  ·cases ks with
   | nil =>
    simp only at hp
    split at hp
    ·cases hp
     refine ⟨fun s u hm => ?_, hwf.hp, hwf.row⟩
     rcases List.mem_cons.1 hm with e | hm
     ·cases e; exact hv rfl
     ·exact hwf.sl s u hm
    ·cases hp
   | cons k r =>
    simp only at hp
    split at hp
    ·cases hp
     refine ⟨fun s u hm => ?_, hwf.hp, hwf.row⟩
     rcases List.mem_cons.1 hm with e | hm
     ·cases e
     ·exact hwf.sl s u hm
    ·cases hp
theorem put_world {st st' : St} {d : Option Nat} {ks : Keys} {v : RV} (hp : put st d ks v = some st') : st'.hp = st.hp ∧ st'.S = st.S ∧ st'.ws = st.ws ∧ st'.N = st.N := by
 obtain ⟨N, sl, gl, hp0, S, ws, df⟩ := st
 cases d with
 | none => simp only [put] at hp; cases hp; exact ⟨rfl, rfl, rfl, rfl⟩
 | some d =>
  simp only [put] at hp
  split at hp
  ·cases hp
  ·cases ks with
   | nil =>
    simp only at hp
    split at hp
    ·cases hp; exact ⟨rfl, rfl, rfl, rfl⟩
    ·cases hp
   | cons k r =>
    simp only at hp
    split at hp
    ·cases hp; exact ⟨rfl, rfl, rfl, rfl⟩
    ·cases hp
theorem holds_congr {st st' : St} {w : World} (h : st'.hp = st.hp ∧ st'.S = st.S ∧ st'.ws = st.ws ∧ st'.N = st.N) (hw : Holds st w) : Holds st' w := by
 obtain ⟨h1, h2, h3, _⟩ := h
 refine ⟨by rw [h1]; exact hw.objs, ?_, by rw [h2, h3]; exact hw.fr, ?_⟩
 ·unfold St.blks; rw [h1]; exact hw.nodup
 ·unfold St.blks; rw [h1, h2, h3]; exact hw.own
end Go.Vc
