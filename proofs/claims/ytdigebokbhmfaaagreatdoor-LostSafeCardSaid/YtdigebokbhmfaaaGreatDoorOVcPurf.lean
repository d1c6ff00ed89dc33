/- Texts that the law leans on. -/
import Derived.Test.YtdigebokbhmfaaaGreatDoorOVcPure
set_option linter.unusedVariables false
set_option linter.unusedSimpArgs false
namespace Go.Vc
open Go.RowKit
theorem toList_bs (l : List UInt8) : (bs l).toList = l := by
 rw [ByteArray.toList_eq]
 rfl
theorem size_bs (l : List UInt8) : (bs l).size = l.length := rfl
theorem append_bs (a b : List UInt8) : bs a ++ bs b = bs (a ++ b) := by
 apply ByteArray.ext
 rw [ByteArray.data_append]
 apply Array.ext'
 simp [bs]
theorem extract_bs (l : List UInt8) (i j : Nat) : (bs l).extract i j = bs ((l.take j).drop i) := by
 apply ByteArray.ext
 apply Array.ext'
 simp only [ByteArray.data_extract, Array.toList_extract, bs, List.extract]
 rw [List.drop_take]
theorem eqGuard_string {P : Program} {op : BinOp} {t : TypeId} {x y : Operand} {a b : ByteArray} (w : World) : (eqGuard op t x y (.string a) (.string b)).run P w = .ok () w := by
 cases op <;> simp [eqGuard]
theorem sBin_ok {P : Program} {op : BinOp} {t : TypeId} {a b : List UInt8} {obs : List Prop} {v : RV} (h : sBin op a b = some (obs, v)) (ho : ∀ p ∈ obs, p) (w : World) :
  (binOp op t (.string (bs a)) (.string (bs b))).run P w = .ok v.den w := by
 cases op <;> simp only [sBin] at h <;> (try (cases h))
 case add =>
  simp only [List.mem_cons, List.not_mem_nil, or_false, forall_eq] at ho
  have e : ¬ ((((bs a).size + (bs b).size : Nat) : Int) > IntKind.i64.max) := by
   rw [size_bs, size_bs]
   have : IntKind.i64.max = 9223372036854775807 := by decide
   omega
  simp only [binOp, Op.stringOp]
  rw [if_neg e]
  simp [append_bs, RV.den, SV.den, CV.den]
 case eql =>
  simp only [binOp, Op.stringOp, toList_bs, RV.den, SV.den, CV.den]
  simp only [Sem.run_pure]
  congr 2
  rw [Bool.eq_iff_iff]; simp
 case neq =>
  simp only [binOp, Op.stringOp, toList_bs, RV.den, SV.den, CV.den]
  simp only [Sem.run_pure]
  congr 2
  rw [Bool.eq_iff_iff]; simp
 case lss =>
  simp only [binOp, Op.stringOp, toList_bs, RV.den, SV.den, CV.den]
  simp only [Sem.run_pure]
theorem cmpK_ok {P : Program} {op : BinOp} {t : TypeId} {k : IntKind} {a b : Int} {obs : List Prop} {v : RV} (h : cmpK op a b = some (obs, v)) (w : World) :
  (binOp op t (.int k a) (.int k b)).run P w = .ok v.den w := by
 cases op <;> simp only [cmpK] at h <;> (try (cases h))
 all_goals (simp [binOp, Op.intCmp, RV.den, SV.den, CV.den]; try rfl)
theorem wrapU {n : Int} (h : inU n) : IntKind.u64.wrap n = n := IntWalk.u64_in n h
theorem ofInt_u {a : Int} (h : inU a) : (BitVec.ofInt 64 a).toNat = a.toNat := by
 obtain ⟨h0, h1⟩ := h
 rw [BitVec.toNat_ofInt]
 have : a % ((2 ^ 64 : Nat) : Int) = a := Int.emod_eq_of_lt h0 (by omega)
 rw [this]
theorem fdiv_pow {a : Int} {n : Nat} : a.fdiv (2 ^ n) = a / 2 ^ n := Int.fdiv_eq_ediv_of_nonneg _ (Int.le_of_lt (Int.pow_pos (by decide)))
theorem u64Bin_ok {P : Program} {op : BinOp} {t : TypeId} {a b : Int} {obs : List Prop} {v : RV} (h : u64Bin op a b = some (obs, v)) (ho : ∀ p ∈ obs, p) (w : World) :
  (binOp op t (.int .u64 a) (.int .u64 b)).run P w = .ok v.den w := by
 have hc : cmpK op a b = some (obs, v) → (binOp op t (.int .u64 a) (.int .u64 b)).run P w = .ok v.den w := fun h => cmpK_ok h w
 cases op <;> simp only [u64Bin] at h <;> (try exact hc h) <;> (try (cases h)) <;> simp only [List.mem_cons, List.not_mem_nil, or_false, forall_eq_or_imp, forall_eq, false_implies, implies_true] at ho
 case add => simp [binOp, Op.intArith, wrapU ho, RV.den, SV.den, CV.den]
 case sub => simp [binOp, Op.intArith, wrapU ho, RV.den, SV.den, CV.den]
 case mul => simp [binOp, Op.intArith, wrapU ho, RV.den, SV.den, CV.den]
 case quo =>
  obtain ⟨h0, h1, h2⟩ := ho
  have hb : b ≠ 0 := by omega
  have e1 : a.tdiv b = a / b := Int.tdiv_eq_ediv_of_nonneg h0
  have h3 := Int.ediv_nonneg h0 (b := b) (by omega)
  have h4 := Int.ediv_le_self b h0
  have e2 : IntKind.u64.wrap (a / b) = a / b := wrapU ⟨h3, by have := h2.2; omega⟩
  simp [binOp, Op.intDiv, hb, e1, e2, RV.den, SV.den, CV.den]
 case rem =>
  obtain ⟨h0, h1⟩ := ho
  have hb : b ≠ 0 := by omega
  have e1 : a.tmod b = a % b := Int.tmod_eq_emod_of_nonneg h0
  simp [binOp, Op.intDiv, hb, e1, RV.den, SV.den, CV.den]
 case and =>
  obtain ⟨ha, hb⟩ := ho
  have e : IntKind.u64.wrap ((BitVec.ofInt 64 a &&& BitVec.ofInt 64 b).toNat : Int) = andU a b := by
   rw [BitVec.toNat_and, ofInt_u ha, ofInt_u hb]
   have h1 : a.toNat &&& b.toNat ≤ a.toNat := Nat.and_le_left
   exact wrapU ⟨by omega, by have := ha.2; have := ha.1; omega⟩
  simp only [binOp, Op.intBits, ne_eq, not_true_eq_false, if_false, Sem.run_pure, RV.den, SV.den, CV.den]
  exact congrArg (fun z => Result.ok (Value.int IntKind.u64 z) w) e
 case or =>
  obtain ⟨ha, hb⟩ := ho
  have e : IntKind.u64.wrap ((BitVec.ofInt 64 a ||| BitVec.ofInt 64 b).toNat : Int) = orU a b := by
   have h1 := (BitVec.ofInt 64 a ||| BitVec.ofInt 64 b).isLt
   rw [wrapU ⟨by omega, by omega⟩, BitVec.toNat_or, ofInt_u ha, ofInt_u hb]; rfl
  simp only [binOp, Op.intBits, ne_eq, not_true_eq_false, if_false, Sem.run_pure, RV.den, SV.den, CV.den]
  exact congrArg (fun z => Result.ok (Value.int IntKind.u64 z) w) e
 case shl =>
  obtain ⟨h0, h1, h2⟩ := ho
  have hn : ¬ b < 0 := by omega
  have hm : min b.toNat 64 = b.toNat := by omega
  simp [binOp, Op.shift, IntKind.bits, hn, hm, wrapU h2, RV.den, SV.den, CV.den]
 case shr =>
  obtain ⟨h0, h1, h2⟩ := ho
  have hn : ¬ b < 0 := by omega
  have hm : min b.toNat 64 = b.toNat := by omega
  simp [binOp, Op.shift, IntKind.bits, hn, hm, fdiv_pow, RV.den, SV.den, CV.den]
theorem u8Bin_ok {P : Program} {op : BinOp} {t : TypeId} {a b : Int} {obs : List Prop} {v : RV} (h : u8Bin op a b = some (obs, v)) (ho : ∀ p ∈ obs, p) (w : World) :
  (binOp op t (.int .u8 a) (.int .u8 b)).run P w = .ok v.den w := by
 have hc : cmpK op a b = some (obs, v) → (binOp op t (.int .u8 a) (.int .u8 b)).run P w = .ok v.den w := fun h => cmpK_ok h w
 cases op <;> simp only [u8Bin] at h <;> (try exact hc h) <;> (try (cases h)) <;> simp only [List.mem_cons, List.not_mem_nil, or_false, forall_eq_or_imp, forall_eq, false_implies, implies_true] at ho
 case add => simp [binOp, Op.intArith, IntWalk.u8_in _ ho, RV.den, SV.den, CV.den]
 case sub => simp [binOp, Op.intArith, IntWalk.u8_in _ ho, RV.den, SV.den, CV.den]
theorem shBin_ok {P : Program} {op : BinOp} {t : TypeId} {a b : Int} {obs : List Prop} {v : RV} (h : shBin op a b = some (obs, v)) (ho : ∀ p ∈ obs, p) (w : World) :
  (binOp op t (.int .u64 a) (.int .i64 b)).run P w = .ok v.den w := by
 cases op <;> simp only [shBin] at h <;> (try (cases h)) <;> simp only [List.mem_cons, List.not_mem_nil, or_false, forall_eq_or_imp, forall_eq, false_implies, implies_true] at ho
 case shl =>
  obtain ⟨h0, h1, h2⟩ := ho
  have hn : ¬ b < 0 := by omega
  have hm : min b.toNat 64 = b.toNat := by omega
  simp [binOp, Op.shift, IntKind.bits, hn, hm, wrapU h2, RV.den, SV.den, CV.den]
 case shr =>
  obtain ⟨h0, h1, h2⟩ := ho
  have hn : ¬ b < 0 := by omega
  have hm : min b.toNat 64 = b.toNat := by omega
  simp [binOp, Op.shift, IntKind.bits, hn, hm, fdiv_pow, RV.den, SV.den, CV.den]
theorem iBin_ok {P : Program} {op : BinOp} {t : TypeId} {a b : Int} {obs : List Prop} {v : RV} (h : iBin op a b = some (obs, v)) (ho : ∀ p ∈ obs, p) (w : World) :
  (binOp op t (.int .i64 a) (.int .i64 b)).run P w = .ok v.den w := by
 cases op <;> simp only [iBin] at h <;> (try (cases h)) <;> simp only [List.mem_cons, List.not_mem_nil, or_false, forall_eq_or_imp, forall_eq, false_implies, implies_true] at ho
 case and => simp only [binOp, Op.intBits, IntKind.bits, ne_eq, not_true_eq_false, if_false, Sem.run_pure, RV.den, SV.den, CV.den]; rfl
 case or => simp only [binOp, Op.intBits, IntKind.bits, ne_eq, not_true_eq_false, if_false, Sem.run_pure, RV.den, SV.den, CV.den]; rfl
 case shl =>
  obtain ⟨h0, h1, h2⟩ := ho
  have hn : ¬ b < 0 := by omega
  have hm : min b.toNat 64 = b.toNat := by omega
  simp [binOp, Op.shift, IntKind.bits, hn, hm, wrap_inR h2, RV.den, SV.den, CV.den]
 case shr =>
  obtain ⟨h0, h1⟩ := ho
  have hn : ¬ b < 0 := by omega
  have hm : min b.toNat 64 = b.toNat := by omega
  simp [binOp, Op.shift, IntKind.bits, hn, hm, fdiv_pow, RV.den, SV.den, CV.den]
theorem equalIn_nilP {P : Program} {t e : TypeId} {a : Option Addr} (d : Nat) (hu : P.underlying t = some (.pointer e)) (w : World) : (Op.equalIn (d + 1) t (.pointer a) (.pointer none)).run P w = .ok a.isNone w := by
 rw [Op.equalIn]
 cases a <;> simp only [Sem.run_bind, run_underlying hu, Result.andThen_ok, Sem.run_pure, Option.isNone]
theorem eqGuard_ptr {P : Program} {op : BinOp} {t : TypeId} {x y : Operand} {a b : Option Addr} (w : World) : (eqGuard op t x y (.pointer a) (.pointer b)).run P w = .ok () w := by
 cases op <;> simp [eqGuard]
theorem nilP_ok {P : Program} {op : BinOp} {t e : TypeId} {a : Option Addr} {g : Bool} {obs : List Prop} {v : RV} (hu : P.underlying t = some (.pointer e)) (hg : g = a.isNone) (h : boolOp op g = some (obs, v)) (w : World) :
  (binOp op t (.pointer a) (.pointer none)).run P w = .ok v.den w := by
 have e := equalIn_nilP (P := P) (a := a) 9999 hu w
 cases op <;> simp only [boolOp] at h <;> (try (cases h))
 ·simp only [binOp, Op.equal, Op.maxDepth, Sem.run_bind, e, Result.andThen_ok, Sem.run_pure, hg]; rfl
 ·simp only [binOp, Op.equal, Op.maxDepth, Sem.run_bind, e, Result.andThen_ok, Sem.run_pure, hg]; rfl
theorem equalIn_nilI {P : Program} {t : TypeId} {ms : Array (String × TypeId)} {u : Value} {g : Bool} (d : Nat) (hu : P.underlying t = some (.interface ms)) (hg : nilI u = some g) (w : World) : (Op.equalIn (d + 1) t u .nilIface).run P w = .ok g w := by
 unfold nilI at hg
 rw [Op.equalIn]
 split at hg
 ·cases hg; simp only [Sem.run_bind, run_underlying hu, Result.andThen_ok, Sem.run_pure]
 ·cases hg; simp only [Sem.run_bind, run_underlying hu, Result.andThen_ok, Sem.run_pure]
 ·cases hg
theorem nilI_ok {P : Program} {op : BinOp} {t : TypeId} {ms : Array (String × TypeId)} {u : Value} {g : Bool} {obs : List Prop} {v : RV} (hu : P.underlying t = some (.interface ms)) (hg : nilI u = some g) (h : boolOp op g = some (obs, v)) (w : World) :
  (binOp op t u .nilIface).run P w = .ok v.den w := by
 have e := equalIn_nilI (P := P) 9999 hu hg w
 have hn : ∀ k n, u ≠ .int k n := fun k n e => by subst e; cases hg
 unfold nilI at hg
 cases op <;> simp only [boolOp] at h <;> (try (cases h))
 ·split at hg <;> first | (cases hg; done) | (simp only [binOp, Op.equal, Op.maxDepth, Sem.run_bind, e, Result.andThen_ok, Sem.run_pure]; rfl)
 ·split at hg <;> first | (cases hg; done) | (simp only [binOp, Op.equal, Op.maxDepth, Sem.run_bind, e, Result.andThen_ok, Sem.run_pure]; rfl)
theorem guard_nilI {P : Program} {op : BinOp} {t : TypeId} {x : Operand} {u : Value} {g : Bool} (hg : nilI u = some g) (w : World) : (eqGuard op t x (.const .nilIface) u .nilIface).run P w = .ok () w := by
 unfold nilI at hg
 split at hg
 ·cases op <;> simp [eqGuard]
 ·cases op <;> simp [eqGuard]
 ·cases hg
theorem isNilC_spec {y : Operand} (h : isNilC y = true) : y = .const .nilIface := by
 unfold isNilC at h; split at h
 ·rfl
 ·cases h
theorem nilP_spec {hp : List (Nat × LO)} {v : CV} {g : Bool} (h : nilP v = some g) (hok : CVok hp v) : ∃ a, v.den = .pointer a ∧ g = a.isNone := by
 unfold nilP at h
 split at h
 ·cases h; exact ⟨_, rfl, rfl⟩
 ·cases h; obtain ⟨a, n, c, rfl⟩ := hok; exact ⟨_, rfl, rfl⟩
 ·cases h; obtain ⟨a, n, c, rfl⟩ := hok; exact ⟨_, rfl, rfl⟩
 ·cases h; exact ⟨_, rfl, rfl⟩
 ·cases h; exact ⟨_, rfl, rfl⟩
 ·cases h
theorem addOff_ptr {hp : List (Nat × LO)} {u u' : CV} {n : Nat} (h : addOff u n = some u') (hok : CVok hp u) : ∃ ad, u.den = .pointer (some ad) := by
 cases u with
 | p id blk o => exact ⟨_, rfl⟩
 | e v size idx o => obtain ⟨a0, n0, c0, rfl⟩ := hok; exact ⟨_, rfl⟩
 | r id v size idx o => obtain ⟨a0, n0, c0, rfl⟩ := hok; exact ⟨_, rfl⟩
 | _ => simp [addOff] at h
theorem addOff_ok {hp : List (Nat × LO)} {u u' : CV} {n : Nat} (h : addOff u n = some u') (hok : CVok hp u) : CVok hp u' := by
 cases u <;> simp only [addOff] at h <;> cases h <;> exact hok
theorem byte_get {l : List UInt8} {n : Int} (h0 : 0 ≤ n) (h1 : n < l.length) : (bs l)[n.toNat]? = some (l.getD n.toNat 0) := by
 have hlt : n.toNat < l.length := by omega
 have e : (bs l)[n.toNat]? = l[n.toNat]? := by
  show (if h : n.toNat < (bs l).size then some ((bs l)[n.toNat]'h) else none) = _
  rw [dif_pos (by rw [size_bs]; exact hlt), List.getElem?_eq_getElem hlt]
  rfl
 rw [e, List.getElem?_eq_getElem hlt, List.getD_eq_getElem?_getD, List.getElem?_eq_getElem hlt]
 rfl
theorem run_subS {P : Program} {t : TypeId} (ht : P.underlying t = some .string) (l : List UInt8) {lo hi' : Option Int} (h0 : 0 ≤ lo.getD 0) (h1 : lo.getD 0 ≤ hi'.getD l.length) (h2 : hi'.getD l.length ≤ l.length) (w : World) :
  (Instr.sliceAt t (.string (bs l)) (optV lo) (optV hi') none).run P w = .ok (.string (bs ((l.take (hi'.getD l.length).toNat).drop (lo.getD 0).toNat))) w := by
 cases lo with
 | none =>
  cases hi' with
  | none =>
   simp [Instr.sliceAt, run_underlying ht, Instr.slice, Instr.sliceBounds, optV, extract_bs, size_bs]
  | some m =>
   simp at h1 h2
   have h2' : m ≤ ((bs l).size : Int) := by rw [size_bs]; exact h2
   simp [Instr.sliceAt, run_underlying ht, Instr.slice, Instr.sliceBounds, optV, extract_bs, run_sliceBound h1 h2']
 | some n =>
  cases hi' with
  | none =>
   simp at h0 h1 h2
   have h1' : n ≤ ((bs l).size : Int) := by rw [size_bs]; exact h1
   simp [Instr.sliceAt, run_underlying ht, Instr.slice, Instr.sliceBounds, optV, extract_bs, size_bs, run_sliceBound h0 h1']
   rw [run_sliceBound h0 h1]
   simp [extract_bs]
  | some m =>
   simp at h0 h1 h2
   have h2' : m ≤ ((bs l).size : Int) := by rw [size_bs]; exact h2
   have h3 : n ≤ (m.toNat : Int) := by omega
   simp [Instr.sliceAt, run_underlying ht, Instr.slice, Instr.sliceBounds, optV, extract_bs, run_sliceBound (by omega : 0 ≤ m) h2', run_sliceBound h0 h3]
section
variable {P : Program} {tab : Tab} {st : St} {a : Act} {cur : Keys} {o : Oper} {obs : List Prop} {v : RV} {w : World}
set_option maxHeartbeats 1000000 in
theorem pev2_sound (hT : TabOk P tab) (hwf : WF st) (hr : Rel st a) (hk : keysHold a cur) {hp : List (Nat × LO)} (h : pev2 tab st hp cur o.op = some (obs, v)) (ho : ∀ p ∈ obs, p) :
  (execOp a.eval o).run P w = .ok (.value v.den) w := by
 obtain ⟨dst, op, type, pos, after, guard⟩ := o
 dsimp only at h
 unfold execOp
 cases op <;> simp only [pev2] at h <;> try (cases h; done)
 case binOp op t x y t' =>
  split at h
  ·rename_i m n hx hy
   have ex := eval_opv hr hk hx
   have ey := eval_opv hr hk hy
   simp only [RV.den, SV.den, CV.den] at ex ey
   have e := sBin_ok (P := P) (t := t) h ho w
   simp [ex, ey, e, eqGuard_string]
  ·rename_i m n hx hy
   have ex := eval_opv hr hk hx
   have ey := eval_opv hr hk hy
   simp only [RV.den, SV.den, CV.den] at ex ey
   have e := iBin_ok (P := P) (t := t) h ho w
   simp [ex, ey, e, eqGuard_int]
  ·rename_i k m k' n hx hy
   have ex := eval_opv hr hk hx
   have ey := eval_opv hr hk hy
   simp only [RV.den, SV.den, CV.den] at ex ey
   split at h
   ·have e := u64Bin_ok (P := P) (t := t) h ho w
    simp [ex, ey, e, eqGuard_int]
   ·have e := u8Bin_ok (P := P) (t := t) h ho w
    simp [ex, ey, e, eqGuard_int]
   ·have e := cmpK_ok (P := P) (t := t) (k := .i32) h w
    simp [ex, ey, e, eqGuard_int]
   ·have e := cmpK_ok (P := P) (t := t) (k := .u32) h w
    simp [ex, ey, e, eqGuard_int]
   ·cases h
  ·rename_i m n hx hy
   have ex := eval_opv hr hk hx
   have ey := eval_opv hr hk hy
   simp only [RV.den, SV.den, CV.den] at ex ey
   have e := shBin_ok (P := P) (t := t) h ho w
   simp [ex, ey, e, eqGuard_int]
  ·rename_i u hx hy
   have ex := eval_opv hr hk hx
   have ey := eval_opv hr hk hy
   simp only [RV.den, SV.den] at ex ey
   simp only [CV.den] at ey
   split at h
   ·rename_i ti g hti hg
    split at h
    ·rename_i hk8
     obtain ⟨e, hu⟩ := chk_ptr (hT _ _ hti) hk8
     obtain ⟨ad, ea, hg'⟩ := nilP_spec hg (opv_ok hwf hr hk hx)
     have q := nilP_ok (P := P) (a := ad) hu hg' h w
     rw [ea] at ex
     simp [ex, ey, q, eqGuard_ptr]
    ·cases h
   ·cases h
  ·rename_i u hx hy
   have ex := eval_opv hr hk hx
   have ey := eval_opv hr hk hy
   simp only [RV.den, SV.den, CV.den] at ex ey
   split at h
   ·rename_i ti g hti hg hc
    split at h
    ·rename_i hk9
     obtain ⟨ms, hu⟩ := chk_iface (hT _ _ hti) hk9
     have hyc := isNilC_spec hc
     subst hyc
     have q := nilI_ok (P := P) hu hg h w
     simp [ex, ey, q, guard_nilI hg]
    ·cases h
   ·cases h
  ·cases h
 case indexAddr t x ix =>
  split at h
  ·rename_i ti u n hti hx hix
   split at h
   ·rename_i u' hk3 hu'
    cases h
    have ex := eval_opv hr hk hx
    have ei := eval_opv hr hk hix
    simp only [RV.den, SV.den] at ex ei
    simp only [CV.den] at ei
    simp only [List.mem_cons, List.not_mem_nil, or_false, forall_eq_or_imp, forall_eq] at ho
    obtain ⟨h0, hlt⟩ := ho
    obtain ⟨hu, j, hj, hj1⟩ := chk_array (hT _ _ hti) hk3
    obtain ⟨ad, had⟩ := addOff_ptr hu' (opv_ok hwf hr hk hx)
    have e := addOff_den hu' ad had
    rw [had] at ex
    simp [ex, ei, Instr.indexAt, asIntOf, run_underlying hu, Instr.sureAddr, h0, hlt, ok_sizeOf hj, hj1, RV.den, SV.den, e]
   ·cases h
  ·cases h
 case index t x ix =>
  split at h
  ·rename_i ti l n hti hx hix
   split at h
   ·rename_i hk4
    cases h
    have ex := eval_opv hr hk hx
    have ei := eval_opv hr hk hix
    simp only [RV.den, SV.den, CV.den] at ex ei
    simp only [List.mem_cons, List.not_mem_nil, or_false, forall_eq_or_imp, forall_eq] at ho
    have hu := chk_string (hT _ _ hti) hk4
    have hb := byte_get ho.1 ho.2
    simp [ex, ei, Instr.index, asIntOf, run_underlying hu, ho.1, hb, byteI, RV.den, SV.den, CV.den]
   ·cases h
  ·cases h
 case slice t x lo hi mx =>
  cases mx with
  | some _ => cases h
  | none =>
   simp only at h
   split at h
   ·rename_i ti l hti hx
    split at h
    ·rename_i l1 l2 hk4 hlo hhi
     split at h
     ·rename_i n m hn hm
      cases h
      have ex := eval_opv hr hk hx
      simp only [RV.den, SV.den, CV.den] at ex
      obtain ⟨o1, e1, g1⟩ := opvO_spec hr hk hlo hn
      obtain ⟨o2, e2, g2⟩ := opvO_spec hr hk hhi hm
      simp only [List.mem_cons, List.not_mem_nil, or_false, forall_eq_or_imp, forall_eq] at ho
      have hu := chk_string (hT _ _ hti) hk4
      subst g1; subst g2
      have q := run_subS (P := P) hu l (lo := o1) (hi' := o2) ho.1 ho.2.1 ho.2.2 w
      simp [ex, e1, e2, q, RV.den, SV.den, CV.den]
     ·cases h
    ·cases h
   ·cases h
 case convert src dst x =>
  split at h
  ·rename_i ti tj l hti htj hx
   split at h
   ·rename_i h1 h2
    cases h
    have ex := eval_opv hr hk hx
    simp only [RV.den, SV.den, CV.den] at ex
    have u1 := chk_string (hT _ _ hti) h1
    have u2 := chk_string (hT _ _ htj) h2
    simp [ex, convert, run_underlying u1, run_underlying u2, RV.den, SV.den, CV.den]
   ·cases h
  ·rename_i ti tj n hti htj hx
   have ex := eval_opv hr hk hx
   simp only [RV.den, SV.den, CV.den] at ex
   obtain ⟨_, ds, _, u1, _⟩ := chk_info (hT _ _ hti)
   split at h
   ·rename_i h1
    cases h
    simp only [List.mem_cons, List.not_mem_nil, or_false, forall_eq] at ho
    have u2 := chk_int (hT _ _ htj) (k := .u8) h1 (by decide)
    simp [ex, convert, run_underlying u1, run_underlying u2, Conv.intToInt, IntWalk.u8_in _ ho, RV.den, SV.den, CV.den]
   ·rename_i h0 h1
    cases h
    simp only [List.mem_cons, List.not_mem_nil, or_false, forall_eq_or_imp, forall_eq] at ho
    have u2 := chk_int (hT _ _ htj) (k := .i32) h1 (by decide)
    simp [ex, convert, run_underlying u1, run_underlying u2, Conv.intToInt, IntWalk.i32_in _ ho, RV.den, SV.den, CV.den]
   ·cases h
  ·rename_i ti tj k n hti htj hx
   have ex := eval_opv hr hk hx
   simp only [RV.den, SV.den, CV.den] at ex
   obtain ⟨_, ds, _, u1, _⟩ := chk_info (hT _ _ hti)
   split at h
   ·rename_i h1
    cases h
    simp only [List.mem_cons, List.not_mem_nil, or_false, forall_eq] at ho
    have u2 := chk_int (hT _ _ htj) (k := .u64) h1 (by decide)
    simp [ex, convert, run_underlying u1, run_underlying u2, Conv.intToInt, wrapU ho, RV.den, SV.den, CV.den]
   ·rename_i h1 _
    cases h
    simp only [List.mem_cons, List.not_mem_nil, or_false, forall_eq] at ho
    have u2 := chk_int (hT _ _ htj) (k := .u8) h1 (by decide)
    simp [ex, convert, run_underlying u1, run_underlying u2, Conv.intToInt, IntWalk.u8_in _ ho, RV.den, SV.den, CV.den]
   ·rename_i h1 _ _
    cases h
    simp only [List.mem_cons, List.not_mem_nil, or_false, forall_eq_or_imp, forall_eq] at ho
    have u2 := chk_int (hT _ _ htj) (k := .i32) h1 (by decide)
    simp [ex, convert, run_underlying u1, run_underlying u2, Conv.intToInt, IntWalk.i32_in _ ho, RV.den, SV.den, CV.den]
   ·cases h
  ·cases h
 case makeInterface t x =>
  split at h
  ·rename_i ti u hti hx
   split at h
   ·cases h
   ·rename_i h9
    cases h
    have ex := eval_opv hr hk hx
    simp only [RV.den, SV.den] at ex
    obtain ⟨_, ds, _, u1, _⟩ := chk_info (hT _ _ hti)
    have hne : ∀ ms, ds ≠ .interface ms := fun ms e => by
     subst e
     have hc := hT _ _ hti
     unfold chkTI at hc
     split at hc
     ·rename_i i' d' hi' hd'
      rw [u1] at hd'; cases hd'
      simp only [Bool.and_eq_true, beq_iff_eq] at hc
      rw [hc.2] at h9; cases h9
     ·cases hc
    simp only [Instr.makeInterface, Sem.run_bind, run_underlying u1, Result.andThen_ok, ex]
    cases ds <;> first | (exact absurd rfl (hne _)) | rfl
  ·cases h
 case call c =>
  obtain ⟨callee, args, argTypes⟩ := c
  split at h
  ·rename_i x t hc ha ht
   dsimp only at hc ha ht
   subst hc
   have ha' : args = #[x] := by apply Array.ext'; simpa using ha
   have ht' : argTypes = #[t] := by apply Array.ext'; simpa using ht
   subst ha'; subst ht'
   split at h
   ·rename_i ti l hti hx
    split at h
    ·rename_i hk4
     cases h
     have ex := eval_opv hr hk hx
     simp only [RV.den, SV.den, CV.den] at ex
     have hu := chk_string (hT _ _ hti) hk4
     simp [resolve, invoke, builtin, Builtin.len_, ex, run_underlying hu, goInt, size_bs, RV.den, SV.den, CV.den]
    ·cases h
   ·cases h
  ·cases h
theorem pev_sound (hT : TabOk P tab) (hwf : WF st) (hr : Rel st a) (hk : keysHold a cur) {hp : List (Nat × LO)} (hsub : ∀ id q, look hp id = some q → look st.hp id = some q) (h : pev tab st hp cur o.op = some (obs, v)) (ho : ∀ p ∈ obs, p) (hw : ∀ x ∈ hp, x.2.holds w) :
  (execOp a.eval o).run P w = .ok (.value v.den) w := by
 unfold pev at h
 split at h
 ·rename_i r hr1
  cases h
  exact pev1_sound hT hwf hr hk hsub hr1 ho hw
 ·exact pev2_sound hT hwf hr hk h ho
end
end Go.Vc
