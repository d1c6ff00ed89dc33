/- Texts that the law leans on. -/
import Derived.Test.YtdigebokbhmfaaaGreatDoorOVcMake
set_option linter.unusedVariables false
set_option linter.unusedSimpArgs false
namespace Go.Vc
open Go.RowKit
structure At (st : St) (R : Act → World → Prop) : Prop where
 out : WF st → ∀ a w, Rel st a → Holds st w → R a w
def SameS (st st' : St) : Prop := st'.sl = st.sl ∧ st'.gl = st.gl ∧ st'.N = st.N ∧ st'.df = st.df
theorem SameS.rel {st st' : St} {a : Act} (h : SameS st st') (hg : st.gl = []) (hr : Rel st a) : Rel st' a := by
 obtain ⟨h1, h2, h3, h4⟩ := h
 refine ⟨by rw [h3]; exact hr.size, hr.defers.trans h4.symm, fun s v hl => hr.sl s v (by rw [← h1]; exact hl), fun s ks v hl => ?_⟩
 rw [h2, hg] at hl; cases hl
def goPut (st : St) (d : Option Nat) (v : RV) (K : St → Prop) : Prop :=
 match put st d [] v with
 | some st' => K st'
 | none => False
def appTo (st : St) (d : Option Nat) (ti : TI) (rows : List (List CV)) (K : St → Prop) : RV → Prop
 | .s (.c (.o id v)) => match look st.hp id with
  | some (.row v0 E size L) => match Nat.beq E ti.elem, Nat.beq size ti.esize with
   | true, true => (v = v0 ∧ (L.length + rows.length) * ti.ebytes ≤ 140737488355328) ∧
     ∀ v' : Value, hpSetK st.hp id (.row v' E size (L ++ rows)) (fun hp => st.withHp hp (fun st' => goPut st' d (.s (.c (.o id v'))) K))
   | _, _ => False
  | _ => False
 | .s (.c (.x (.slice none 0 0))) => (0 + rows.length) * ti.ebytes ≤ 140737488355328 ∧ ∀ v' : Value, st.pushK (.row v' ti.elem ti.esize rows) (fun n st' => goPut st' d (.s (.c (.o n v'))) K)
 | _ => False
def stepA (tab : Tab) (o : Oper) (st : St) (K : St → Prop) (s x : Operand) (t t' : TypeId) : Prop :=
 match Nat.beq t t', look tab t, opv st [] s, opv st [] x with
 | true, some ti, some sv, some (.s (.c xc)) => match Nat.beq ti.kind 1, Nat.ble 1 ti.ebytes, look tab ti.elem with
  | true, true, some _ => match xc with
   | .o id v => match look st.hp id with
    | some (.row v0 _ size L) => match Nat.beq size ti.esize with
     | true => v = v0 ∧ obl [] (oneObs L.flatten) (appTo st o.dst ti L K sv)
     | false => False
    | _ => False
   | xc => ∃ rows : List (List CV), ((∀ w, Holds st w → SrcOk w xc.den ti.esize rows) ∧ ∀ l ∈ rows, ∀ c ∈ l, noP c = true) ∧ appTo st o.dst ti rows K sv
  | _, _, _ => False
 | _, _, _, _ => False
def UCall (P : Program) (st : St) (f : FuncId) (args : List Value) (d : Option Nat) (K : St → Prop) : Prop :=
 (Body P f ∧ (WF st → ∀ w, Holds st w → Calls P f args.toArray w (fun e w' => ∃ (r : RV) (st' : St), e = .returned r.den ∧ SameS st st' ∧ WF st' ∧ RVok st'.hp r ∧ Holds st' w' ∧ goPut st' d r K))) ∨
 (∃ r : RV, noPr r = true ∧ (∀ w, Holds st w → (callFunc f args.toArray).run P w = .ok (.value r.den) w) ∧ goPut st d r K)
def St.withDf : St → Deferred → (St → Prop) → Prop
 | ⟨N, sl, gl, hp, S, ws, df⟩, d, K => K ⟨N, sl, gl, hp, S, ws, d :: df⟩
def stepClear (tab : Tab) (o : Oper) (st : St) (K : St → Prop) (x : Operand) (t : TypeId) : Prop :=
 match look tab t, opv st [] x with
 | some ti, some (.s (.c (.x u))) => match Nat.beq ti.kind 1, look tab ti.elem, Nat.ble 1 ti.esize with
  | true, some te, true => ∃ id lo : Nat, match look st.hp id with
   | some (.row v E size L) => match Nat.beq size ti.esize with
    | true => (u = subV v size lo L.length ∧ lo ≤ L.length) ∧ obl [] (oneObs te.zero) (hpSetK st.hp id (.row v E size (spliceR L (List.replicate (L.length - lo) te.zero) lo)) (fun hp => st.withHp hp (fun st' => goPut st' o.dst (.tup []) K)))
    | false => False
   | _ => False
  | _, _, _ => False
 | _, _ => False
def stepCopy (tab : Tab) (o : Oper) (st : St) (K : St → Prop) (d x : Operand) (t : TypeId) : Prop :=
 match look tab t, opv st [] d, opv st [] x with
 | some ti, some (.s (.c (.x u))), some (.s (.c xc)) => match Nat.beq ti.kind 1 with
  | true => ∃ (id lo : Nat) (rows : List (List CV)), match look st.hp id with
   | some (.row v E size L) => match Nat.beq size ti.esize with
    | true => (u = subV v size lo L.length ∧ lo + rows.length ≤ L.length ∧ (∀ w, Holds st w → SrcN w xc.den size rows (L.length - lo)) ∧ ∀ l ∈ rows, ∀ c ∈ l, noP c = true) ∧
     hpSetK st.hp id (.row v E size (spliceR L rows lo)) (fun hp => st.withHp hp (fun st' => goPut st' o.dst (.s (.c (.i rows.length))) K))
    | false => False
   | _ => False
  | false => False
 | _, _, _ => False
def stepAZ (tab : Tab) (o : Oper) (st : St) (K : St → Prop) (s x : Operand) (t t' : TypeId) : Prop :=
 match look tab t, look tab t', opv st [] s, opv st [] x with
 | some ti, some tx, some (.s (.c (.x u))), some (.s (.c (.i k))) => match Nat.beq ti.kind 1, Nat.beq tx.kind 6, look tab ti.elem, Nat.ble 1 ti.ebytes, Nat.ble 1 ti.esize with
  | true, true, some te, true, true => ∃ rows : List (List CV), ((∀ w, Holds st w → SrcOk w u ti.esize rows) ∧ (∀ l ∈ rows, ∀ c ∈ l, noP c = true) ∧ 0 < k ∧ scap u < rows.length + k ∧ (rows.length + k) * ti.ebytes ≤ 140737488355328) ∧
    ∀ v' : Value, st.pushK (.row v' ti.elem ti.esize (rows ++ List.replicate k.toNat te.zero)) (fun n st' => goPut st' o.dst (.s (.c (.o n v'))) K)
  | _, _, _, _, _ => False
 | _, _, _, _ => False
structure RawE (P : Program) (st : St) (o : Oper) (K : St → Prop) : Prop where
 out : ∀ ρ : Operand → Value, (∀ x v, opv st [] x = some v → ρ x = v.den) → WF st → ∀ w, Holds st w → ∃ st' w',
  ((∃ r : RV, (execOp ρ o).run P w = .ok (.value r.den) w' ∧ RVok st'.hp r ∧ goPut st' o.dst r K) ∨ (o.dst = none ∧ (execOp ρ o).run P w = .ok .skip w' ∧ K st')) ∧ SameS st st' ∧ WF st' ∧ Holds st' w'
def isStrT (tab : Tab) (t : TypeId) : Bool :=
 match look tab t with
 | some ti => Nat.beq ti.kind 4
 | none => false
def step (P : Program) (tab : Tab) (ops : Array Oper) (o : Oper) (st : St) (K : St → Prop) : Prop :=
 match o.guard, st.gl with
 | none, [] => match callOf st [] o.op with
  | some (f, args) => UCall P st f args o.dst K
  | none => match o.op with
   | .alloc t => match look tab t with
    | some ti => ∀ blk : Nat, st.pushK (.box blk t ti.zero) (fun n st' => goPut st' o.dst (.s (.c (.p n blk 0))) K)
    | none => False
   | .box t x => match opv st [] x with
    | some v => match cellsOfRV v with
     | some l => obl [] (oneObs l) (∀ blk : Nat, st.pushK (.box blk t l) (fun n st' => goPut st' o.dst (.s (.c (.p n blk 0))) K))
     | none => False
    | none => False
   | .store t x y => match o.dst, look tab t, opv st [] x, opv st [] y with
    | none, some ti, some (.s (.c (.p id _ off))), some v => match look st.hp id, cellsOfRV v with
     | some (.box b T cells), some l => match Nat.beq l.length ti.size, setCells off l cells with
      | true, some cells' => obl [] (oneObs l) (hpSetK st.hp id (.box b T cells') (fun hp => st.withHp hp K))
      | _, _ => False
     | _, _ => False
    | none, some ti, some (.s (.c (.r id v size idx off))), some yv => match look st.hp id, cellsOfRV yv with
     | some (.row v0 E size0 L), some l => ∃ row : List CV, (v = v0 ∧ size = size0 ∧ 0 ≤ idx ∧ L[idx.toNat]? = some row) ∧
      match Nat.beq l.length ti.size, setCells off l row with
      | true, some row' => obl [] (oneObs l) (hpSetK st.hp id (.row v0 E size0 (L.set idx.toNat row')) (fun hp => st.withHp hp K))
      | _, _ => False
     | _, _ => False
    | _, _, _, _ => RawE P st o K
   | .buildSlice t len parts => match look tab t with
    | some ti => match Nat.beq ti.kind 1, bldL st ti.esize 0 parts.toList, look tab ti.elem with
     | true, some (obs, l), some _ => match Nat.beq parts.toList.length len, Nat.ble (len * ti.esize) 16777216, Nat.ble len 16777216 with
      | true, true, true => match chunks ti.esize len l with
       | some rows => obl [] obs (∀ v' : Value, st.pushK (.row v' ti.elem ti.esize rows) (fun n st' => goPut st' o.dst (.s (.c (.o n v'))) K))
       | none => False
      | _, _, _ => False
     | _, _, _ => False
    | none => False
   | .makeSlice t l c => match look tab t, opv st [] l, opv st [] c with
    | some ti, some (.s (.c (.i n))), some (.s (.c (.i m))) => match Nat.beq ti.kind 1, look tab ti.elem, Nat.ble 1 ti.esize, Nat.ble 1 ti.ebytes with
     | true, some te, true, true => (n = m ∧ 0 ≤ n ∧ n * ti.ebytes ≤ 140737488355328) ∧ ∀ v' : Value, st.pushK (.row v' ti.elem ti.esize (List.replicate n.toNat te.zero)) (fun n st' => goPut st' o.dst (.s (.c (.o n v'))) K)
     | _, _, _, _ => False
    | _, _, _ => False
   | .defer c => match o.dst, c.callee with
    | none, .value f => match opv st [] f, opvs st [] c.args.toList with
     | some (.s (.c (.x (.func (.func g) first caps)))), some l => st.withDf { target := .fn (.func g) caps, args := first ++ rdens l } K
     | _, _ => False
    | _, _ => False
   | .call c => match c.callee, c.args.toList, c.argTypes.toList with
    | .builtin .append, [s, x], [t, t'] => match Nat.beq t t' with
     | true => stepA tab o st K s x t t'
     | false => match isStrT tab t' with
      | true => RawE P st o K
      | false => stepAZ tab o st K s x t t'
    | .builtin .clear, [x], [t] => stepClear tab o st K x t
    | .builtin .copy, [d, x], [t, _] => stepCopy tab o st K d x t
    | .builtin .delete, _, _ => RawE P st o K
    | _, _, _ => stepQ P tab ops o st K
   | .mapUpdate _ _ _ _ => RawE P st o K
   | .insert _ _ _ _ => RawE P st o K
   | .makeMap _ _ => RawE P st o K
   | .range _ _ => RawE P st o K
   | .next _ _ => RawE P st o K
   | _ => stepQ P tab ops o st K
 | _, _ => stepQ P tab ops o st K
theorem ownsAt_some {w : World} {E size n : Nat} {v : Value} {xs : List Value} (h : ownsAt w E size v n xs) (hn : 0 < n) : ∃ a m c, v = .slice (some a) m c := by
 rcases h.2 with ⟨_, h0⟩ | ⟨g, o, cap, cur, rfl, _⟩
 ·omega
 ·exact ⟨_, _, _, rfl⟩
theorem ownsAt_slice {w : World} {E size n : Nat} {v : Value} {xs : List Value} (h : ownsAt w E size v n xs) : ∃ a m c, v = .slice a m c := by
 rcases h.2 with ⟨rfl, _⟩ | ⟨g, o, cap, cur, rfl, _⟩
 ·exact ⟨_, _, _, rfl⟩
 ·exact ⟨_, _, _, rfl⟩
theorem appTo_sound {P : Program} {tab : Tab} {o : Oper} {st : St} {K : St → Prop} {a : Act} {w : World} {Q : Exit → Act → World → Prop} {next : Act → World → Prop} (hT : TabOk P tab)
  (hwf : WF st) (hr : Rel st a) (hw : Holds st w) (hgl : st.gl = []) {t : TypeId} {ti te : TI} (hti : look tab t = some ti) (hk1 : Nat.beq ti.kind 1 = true) (hb1 : Nat.ble 1 ti.ebytes = true) (hte : look tab ti.elem = some te)
  {s x : Operand} {sv : RV} (hs : opv st [] s = some sv) {xv : Value} (hx : a.eval x = xv) {rows : List (List CV)} (hsrc : SrcOk w xv ti.esize rows) (hrows : ∀ l ∈ rows, ∀ c ∈ l, CVok st.hp c)
  (h : appTo st o.dst ti rows K sv) (hop : o.op = .call { callee := .builtin .append, args := #[s, x], argTypes := #[t, t] })
  (fin : ∀ {st1 : St} {r : RV} {u : Value} {w' : World}, goPut st1 o.dst r K → u = r.den → WF st1 → RVok st1.hp r → Rel st1 a → Holds st1 w' → next (a.put o.dst u) w') : o.wp P a w next Q := by
 obtain ⟨hu, j, hj, hj1, hj2⟩ := chk_slice (hT _ _ hti) hk1
 obtain ⟨i', d, hi', hd, hsz, hag, z, hz, hzc, hzl⟩ := chk_info (hT _ _ hte)
 rw [hj] at hi'
 cases hi'
 have hzs : z.cells.size = j.size := by
  have : z.cells.toList.length = te.zero.length := by rw [hzc]; simp [dens]
  simp only [Array.length_toList] at this
  omega
 have hby : 1 ≤ j.bytes := by rw [hj2]; exact Nat.le_of_ble_eq_true hb1
 have es := eval_opv hr (fun k hk => by cases hk) hs
 have run : ∀ (v : Value) {v' : Value} {w' : World}, sv.den = v → (Builtin.append_ #[t, t] o.type #[v, xv]).run P w = .ok v' w' → (execOp a.eval o).run P w = .ok (.value v') w' := by
  intro v v' w' hv hrun
  rw [hv] at es
  obtain ⟨dst, op, type, pos, after, guard⟩ := o
  dsimp only at hop
  subst hop
  simp [execOp, resolve, invoke, builtin, es, hx, hrun]
 rw [← hj1] at hsrc
 unfold appTo at h
 split at h
 ·rename_i id v
  split at h
  ·rename_i v0 E size L hob
   split at h
   ·rename_i hE hsize
    obtain ⟨⟨rfl, hbd⟩, hK⟩ := h
    have hE := Nat.eq_of_beq_eq_true hE
    have hsize := Nat.eq_of_beq_eq_true hsize
    subst hE hsize
    have hobj := hw.objs _ (look_mem hob)
    obtain ⟨hown, hL⟩ := hobj
    rw [← hj1] at hown
    obtain ⟨v', w', hrun, hown', hfr, hbl⟩ := append_any t o.type ti.elem j z hu hj hz hzs hby v L.length _ hown xv rows hsrc (by rw [hj2]; exact hbd)
    unfold Oper.wp
    rw [run v rfl hrun]
    have hk := hK v'
    rw [hpSetK_eq] at hk
    replace hk : goPut (st.setHp (hpSet st.hp id (.row v' ti.elem ti.esize (L ++ rows)))) o.dst (.s (.c (.o id v'))) K := hk
    have hown2 : ownsAt w' ti.elem ti.esize v' (L ++ rows).length (dens (L ++ rows).flatten) := by
     rw [← hj1]
     simpa [dens, List.flatten_append] using hown'
    have hold : LOok st.hp (.row v ti.elem ti.esize L) := hwf.obj (look_mem hob)
    refine fin hk rfl (hwf.setO hob (fun b T cells e => by cases e) ⟨fun hn => ownsAt_some hown2 hn, fun l hl c hc => ?_⟩) (ownsAt_slice hown2)
     ⟨hr.size, hr.defers, hr.sl, fun s ks u hl' => by replace hl' : look st.gl s = some (ks, u) := hl'; rw [hgl] at hl'; cases hl'⟩
     (hw.setG hob hfr ⟨hown2, fun l hl => ?_⟩ hbl)
    ·rcases List.mem_append.1 hl with hl | hl
     ·exact hold.2 l hl c hc
     ·exact hrows l hl c hc
    ·rcases List.mem_append.1 hl with hl | hl
     ·exact hL l hl
     ·rw [← hj1]; exact hsrc.1 l hl
   ·exact h.elim
  ·exact h.elim
 ·obtain ⟨hbd, hK⟩ := h
  simp only [pushK_eq] at hK
  obtain ⟨v', w', hrun, hown', hfr, hbl⟩ := append_any t o.type ti.elem j z hu hj hz hzs hby (.slice none 0 0) 0 [] ⟨by simp, .inl ⟨rfl, rfl⟩⟩ xv rows hsrc (by rw [hj2]; exact hbd)
  unfold Oper.wp
  rw [run _ rfl hrun]
  have hown2 : ownsAt w' ti.elem ti.esize v' rows.length (dens rows.flatten) := by
   rw [← hj1]; simpa using hown'
  refine fin (hK v') rfl (hwf.push (show LOok st.hp (.row v' ti.elem ti.esize rows) from ⟨fun hn => ownsAt_some hown2 hn, hrows⟩)) (ownsAt_slice hown2) hr.push
   (hw.pushG hfr ⟨hown2, fun l hl => by rw [← hj1]; exact hsrc.1 l hl⟩ fun b hb => (hbl b hb).elim (fun h => by simp [blkOf] at h) (fun h => h))
 ·exact h.elim
theorem rows_some' {w : World} {v : Value} {E size : Nat} {L : List (List CV)} (h : (LO.row v E size L).holds w) : 0 < L.length → ∃ a n c, v = .slice (some a) n c := fun hn => ownsAt_some h.1 hn
theorem append_zeros {P : Program} {w : World} (t tn ty e : TypeId) (i : TypeInfo) (z : Value) (ht : P.underlying t = some (.slice e)) (htn : P.underlying tn = some (.int .i64)) (hi : P.info? e = some i) (hz : i.zero = some z) {zero : List CV} (hzc : z.cells.toList = dens zero) (hzl : zero.length = i.size) (hpos : 0 < i.size)
  {u : Value} {rows : List (List CV)} (hsrc : SrcOk w u i.size rows) {k : Nat} (h0 : 0 < k) (hcap : scap u < rows.length + k) (hby : 1 ≤ i.bytes) (hbd : (rows.length + k) * i.bytes ≤ 140737488355328) :
  ∃ v' w', (Builtin.append_ #[t, tn] ty #[u, .int .i64 k]).run P w = .ok v' w' ∧ Ext w w' ∧ (LO.row v' e i.size (rows ++ List.replicate k zero)).holds w' ∧ ∀ b ∈ blkOf v', w.heap.size ≤ b := by
 have hzs : z.cells.size = i.size := by rw [← Array.length_toList, hzc]; simp [dens, hzl]
 have hcells : (Builtin.zeroCells z.cells k).toList = dens (List.replicate k zero).flatten := by
  rw [← made_eq z.cells zero hzc k (by omega)]
  simp [Builtin.zeroCells, madeCells, hzs, hzl]
 have hbd' : k * i.bytes ≤ 140737488355328 := Nat.le_trans (Nat.mul_le_mul_right _ (by omega)) hbd
 have h47 : rows.length + k ≤ 140737488355328 := Nat.le_trans (Nat.le_mul_of_pos_right _ hby) hbd
 have h63 : rows.length + k ≤ maxLen := by unfold maxLen; omega
 have hw : IntKind.i64.wrap (k : Int) = k := by rw [IntKind.wrap_i64]; omega
 have hneg : ¬ ((k : Int) < 0) := by omega
 have hns : ¬ (k * i.size = 0) := Nat.mul_ne_zero (by omega) (by omega)
 have h48i : ¬ (281474976710656 < (k : Int) * (i.bytes : Int)) := by rw [← Int.natCast_mul]; omega
 have hrl : ∀ l ∈ rows ++ List.replicate k zero, l.length = i.size := fun l hl => by
  rcases List.mem_append.1 hl with hl | hl
  ·exact hsrc.1 l hl
  ·rw [List.eq_of_mem_replicate hl]; exact hzl
 have hlen : (dens (rows ++ List.replicate k zero).flatten).length = (rows.length + k) * i.size := by
  simp only [dens, List.length_map]; rw [flatten_len hrl]; simp
 obtain ⟨h1, h2, ⟨a, c, rfl, h3⟩ | ⟨rfl, rfl⟩⟩ := hsrc
 ·have hn : ¬ (rows.length + k ≤ c) := by simp only [scap] at hcap; omega
  have h63' : ¬ (9223372036854775807 < ((rows.length : Int) + (k : Int))) := by unfold maxLen at h63; omega
  have hlt : c < rows.length + k := by omega
  have h48' : ¬ (281474976710656 < Builtin.nextslicecap (rows.length + k) c * i.bytes) := by have := growslice_fits hlt hbd; omega
  have hfo := run_firstCells_some (P := P) w.drew i.size rows.length a rows.length c (dens rows.flatten) (by simp only [dens, List.length_map]; exact flatten_len h1) (by simpa using h3)
  have hge := grownCap_ge w (rows.length + k) c e
  have hcm := grownCap_le_maxLen w (rows.length + k) c e h63
  have ow := ownsAt_new (w := w) (E := e) hlen hge hcm (Builtin.zeroCells z.cells (grownCap w (rows.length + k) c e - (rows.length + k))) (by rw [size_zeroCells, hzs])
  refine ⟨.slice (some ⟨w.heap.size, 0, none⟩) (rows.length + k) (grownCap w (rows.length + k) c e), w.drew.alloc (.cells ((dens rows.flatten).toArray ++ Builtin.zeroCells z.cells k ++ Builtin.zeroCells z.cells (grownCap w (rows.length + k) c e - (rows.length + k))) e), ?_, fr_drew_alloc _ _ _, ⟨?_, hrl⟩, fun b hb => ?_⟩
  ·simp [Builtin.append_, run_underlying ht, run_underlying htn, sizeOf, typeInfo, zeroValue, hi, hz, asInt, asIntOf, hw, hneg, hns, hn, h63', h48', h48i, Question.forced, hfo, newRow, grownCap]
  ·have ec : (dens rows.flatten).toArray ++ Builtin.zeroCells z.cells k = (dens (rows ++ List.replicate k zero).flatten).toArray := by
    apply Array.ext'
    rw [Array.toList_append, hcells]
    simp [dens]
   rw [ec]
   simpa using ow
  ·simp only [blkOf, List.mem_singleton] at hb; omega
 ·simp only [List.nil_append, List.length_nil, Nat.zero_add] at *
  have hn : k ≠ 0 := by omega
  have h63' : ¬ (9223372036854775807 < (k : Int)) := by unfold maxLen at h63; omega
  have h48' : ¬ (281474976710656 < Builtin.nextslicecap k 0 * i.bytes) := by have := growslice_fits h0 hbd; omega
  have hr : (Builtin.append_ #[t, tn] ty #[.slice none 0 0, .int .i64 k]).run P w =
   .ok (.slice (some ⟨w.heap.size, 0, none⟩) k (grownCap w k 0 e)) (w.drew.alloc (.cells (Builtin.zeroCells z.cells k ++ Builtin.zeroCells z.cells (grownCap w k 0 e - k)) e)) := by
   simp [Builtin.append_, run_underlying ht, run_underlying htn, sizeOf, typeInfo, zeroValue, hi, hz, asInt, asIntOf, hw, hn, hneg, hns, h63', h48', h48i, Question.forced, run_firstCells_none, newRow, grownCap]
  have hge := grownCap_ge w k 0 e
  have hcm := grownCap_le_maxLen w k 0 e (by simpa using h63)
  have ow := ownsAt_new (w := w) (E := e) hlen hge hcm (Builtin.zeroCells z.cells (grownCap w k 0 e - k)) (by rw [size_zeroCells, hzs])
  refine ⟨_, _, hr, fr_drew_alloc _ _ _, ⟨?_, hrl⟩, fun b hb => ?_⟩
  ·have ec : Builtin.zeroCells z.cells k = (dens (List.replicate k zero).flatten).toArray := by
    apply Array.ext'
    rw [hcells]
   rw [ec]
   simpa using ow
  ·simp only [blkOf, List.mem_singleton] at hb; omega
theorem SrcOk.of_row {w : World} {v : Value} {E size : Nat} {L : List (List CV)} (h : (LO.row v E size L).holds w) (hone : ∀ l ∈ L, ∀ c ∈ l, c.den.oneCell' = true) : SrcOk w v size L := by
 obtain ⟨⟨hlen, hv⟩, hL⟩ := h
 refine ⟨hL, hone, ?_⟩
 rcases hv with ⟨rfl, h0⟩ | ⟨g, o, cap, cur, rfl, hg, hn, hc, hs, htake⟩
 ·exact .inr ⟨rfl, List.eq_nil_of_length_eq_zero h0⟩
 ·refine .inl ⟨_, cap, rfl, fun j x hx => ?_⟩
  rw [addr_add, cell_of_row w g _ _ _ _ hg]
  have hj : j < L.length * size := by
   rcases Nat.lt_or_ge j (L.length * size) with h' | h'
   ·exact h'
   ·rw [List.getElem?_eq_none (by rw [hlen]; exact h')] at hx; cases hx
  rw [← htake, List.getElem?_take_of_lt hj, List.getElem?_drop] at hx
  simpa using hx
theorem keys_nil {a : Act} : keysHold a [] := fun k hk => by cases hk
theorem step_sound {P : Program} {tab : Tab} {ops : Array Oper} {o : Oper} {st : St} {K : St → Prop} {a : Act} {w : World} {Q : Exit → Act → World → Prop} (hT : TabOk P tab)
  (h : step P tab ops o st K) (hwf : WF st) (hr : Rel st a) (hw : Holds st w) {next : Act → World → Prop} (hn : ∀ st' a' w', K st' → WF st' → Rel st' a' → Holds st' w' → next a' w') :
  if Region.wanted o (yielded ops a.tmps) then o.wp P a w next Q else next (a.put o.dst undef) w := by
 have quiet : stepQ P tab ops o st K → if Region.wanted o (yielded ops a.tmps) then o.wp P a w next Q else next (a.put o.dst undef) w := by
  intro h
  have hq := stepQ_sound (st0 := st) (next := fun a' => ∀ w', Holds st w' → next a' w') hT h hwf hr (SameW.refl st) (fun st' a' hk hwf' hr' hs w' hw' => hn st' a' w' hk hwf' hr' (hs.holds hw'))
  split
  ·rename_i hwant
   rw [if_pos hwant] at hq
   exact Oper.wp_of_quiet hw (fun a' w' hw' h => h w' hw') hq
  ·rename_i hwant
   rw [if_neg hwant] at hq
   exact hq w hw
 have fin : ∀ {st1 : St} {r : RV} {u : Value} {w' : World}, goPut st1 o.dst r K → u = r.den → WF st1 → RVok st1.hp r → Rel st1 a → Holds st1 w' → next (a.put o.dst u) w' := by
  intro st1 r u w' hg hu hwf1 hrv hr1 hw1
  unfold goPut at hg
  split at hg
  ·rename_i st2 hput
   exact hn st2 _ _ hg (put_wf hput hwf1 fun _ => hrv) (put_rel hput hr1 (.inl ⟨keys_nil, hu, hrv⟩)) (holds_congr (put_world hput) hw1)
  ·exact hg.elim
 unfold step at h
 split at h
 ·rename_i hguard hgl
  have hwant : Region.wanted o (yielded ops a.tmps) = true := by simp [Region.wanted, hguard]
  have rawE : RawE P st o K → if Region.wanted o (yielded ops a.tmps) then o.wp P a w next Q else next (a.put o.dst undef) w := by
   intro h
   rw [if_pos hwant]
   obtain ⟨st', w', hrun, hs, hwf', hw'⟩ := h.out a.eval (fun x v hx => eval_opv hr keys_nil hx) hwf w hw
   unfold Oper.wp
   rcases hrun with ⟨r, e, hrv, hg⟩ | ⟨hd, e, hk⟩
   ·rw [e]; exact fin hg rfl hwf' hrv (hs.rel hgl hr) hw'
   ·rw [e]
    show next (a.put o.dst undef) w'
    rw [hd]
    exact hn st' _ _ hk hwf' (hs.rel hgl hr) hw'
  split at h
  ·rename_i f args hcall
   rw [if_pos hwant]
   unfold Oper.wp
   rcases h with ⟨hbody, hc⟩ | ⟨r, hnp, hrun, hg⟩
   ·rw [callOf_spec hr keys_nil hcall hbody w]
    refine (hc hwf w hw).mono ?_
    rintro e w' ⟨r, st', rfl, hs, hwf', hrv, hw', hg⟩
    exact fin hg rfl hwf' hrv (hs.rel hgl hr) hw'
   ·rw [callOf_run hr keys_nil hcall w, hrun w hw]
    exact fin hg rfl hwf (noPr_ok hnp) hr hw
  ·split at h
   ·rename_i t hop
    split at h
    ·rename_i ti hti
     rw [if_pos hwant]
     obtain ⟨i, d, hi, hd, hs, hag, z, hz, hzc, hzz⟩ := chk_info (hT _ _ hti)
     obtain ⟨dst, op, type, pos, after, guard⟩ := o
     dsimp only at hop
     subst hop
     have e : (execOp a.eval ⟨dst, .alloc t, type, pos, after, guard⟩).run P w = .ok (.value (.pointer (some ⟨w.heap.size, 0, none⟩))) (w.alloc (.cells (dens ti.zero).toArray t)) := by
      have hc : z.cells = (dens ti.zero).toArray := by apply Array.ext'; simpa using hzc
      simp only [execOp, Instr.alloc, Sem.run_bind, ok_zeroValue hi hz, Result.andThen_ok, newVar, newRow, run_newObj, Sem.run_pure, hc]
      rfl
     unfold Oper.wp
     rw [e]
     simp only [pushK_eq] at h
     have hzok : LOok st.hp (.box w.heap.size t ti.zero) := zero_ok (hp := st.hp) hT hti
     exact fin (h w.heap.size) rfl (hwf.push hzok) ⟨t, ti.zero, by simp [St.push, look, Nat.beq_refl]⟩ hr.push (hw.push t ti.zero)
    ·exact h.elim
   ·rename_i t x hop
    split at h
    ·rename_i v hx
     split at h
     ·rename_i l hl
      rw [if_pos hwant]
      obtain ⟨h1, h2⟩ := obl_out h
      have hv := opv_ok hwf hr keys_nil hx
      have hone := oneObs_spec (hp := st.hp) (fun p hp => gimp_out (h1 p hp) (fun c hc => by cases hc)) (cells_ok hl hv)
      have ex := eval_opv hr keys_nil hx
      have hcells : v.den.cells = (dens l).toArray := cells_eq hl hone
      have hlok : ∀ c ∈ l, CVok st.hp c := cells_ok hl hv
      obtain ⟨dst, op, type, pos, after, guard⟩ := o
      dsimp only at hop
      subst hop
      have e : (execOp a.eval ⟨dst, .box t x, type, pos, after, guard⟩).run P w = .ok (.value (.pointer (some ⟨w.heap.size, 0, none⟩))) (w.alloc (.cells (dens l).toArray t)) := by
       simp only [execOp, Instr.box, ex, Sem.run_bind, Result.andThen_ok, newVar, newRow, run_newObj, Sem.run_pure, hcells]
       rfl
      unfold Oper.wp
      rw [e]
      simp only [pushK_eq] at h2
      exact fin (h2 w.heap.size) rfl (hwf.push (show LOok st.hp (.box w.heap.size t l) from hlok)) ⟨t, l, by simp [St.push, look, Nat.beq_refl]⟩ hr.push (hw.push t l)
     ·exact h.elim
    ·exact h.elim
   ·rename_i t x y hop
    split at h
    ·rename_i ti id blk off v hdst hti hx hy
     split at h
     ·rename_i b T cells l hob hl
      split at h
      ·rename_i cells' hlen hset
       rw [if_pos hwant]
       obtain ⟨h1, h2⟩ := obl_out h
       rw [hpSetK_eq] at h2
       replace h2 : K (st.setHp (hpSet st.hp id (.box b T cells'))) := h2
       have hone := oneObs_spec (hp := st.hp) (fun p hp => gimp_out (h1 p hp) (fun c hc => by cases hc)) (cells_ok hl (opv_ok hwf hr keys_nil hy))
       have ex := eval_opv hr keys_nil hx
       have ey := eval_opv hr keys_nil hy
       simp only [RV.den, SV.den, CV.den] at ex
       have hv := opv_ok hwf hr keys_nil hy
       obtain ⟨T', cs', hob'⟩ := opv_ok hwf hr keys_nil hx
       rw [hob] at hob'
       cases hob'
       have hcells : v.den.cells = (dens l).toArray := cells_eq hl hone
       have hlok : ∀ c ∈ l, CVok st.hp c := cells_ok hl hv
       obtain ⟨i, d, hi, hd, hs, _⟩ := chk_info (hT _ _ hti)
       have hlen' := Nat.eq_of_beq_eq_true hlen
       obtain ⟨hset1, hset2⟩ := setCells_spec hset
       have hobj := hw.objs _ (look_mem hob)
       simp only [LO.holds] at hobj
       have hst := run_storeCells_at P blk off T (dens l) 0 (dens cells).toArray w hobj (by simp [dens]; omega) hone
       have hfin : ((dens cells).toArray.toList.take (off + 0) ++ dens l ++ (dens cells).toArray.toList.drop (off + 0 + (dens l).length)).toArray = (dens cells').toArray := by
        rw [hset1]
        simp [dens, List.map_append, List.map_take, List.map_drop]
       rw [hfin] at hst
       have e : (execOp a.eval o).run P w = .ok .skip (w.setRow blk (dens cells').toArray) := by
        obtain ⟨dst, op, type, pos, after, guard⟩ := o
        dsimp only at hop
        subst hop
        have hsz : (dens l).toArray.size = i.size := by rw [hs]; simp [dens, hlen']
        simp only [execOp, Instr.storeAt, Instr.sureAddr, ex, ey, Sem.run_bind, Sem.run_pure, Result.andThen_ok, storeVar, ok_sizeOf hi, hsz, ne_eq, not_true_eq_false, if_false, hcells, hst]
       unfold Oper.wp
       rw [e]
       show next (a.put o.dst undef) _
       rw [hdst]
       refine hn _ _ _ h2 (hwf.setO hob (fun b' T' cs' e => by cases e; exact ⟨_, _, rfl⟩) fun c hc => ?_) ⟨hr.size, hr.defers, hr.sl, fun s ks u hl' => by replace hl' : look st.gl s = some (ks, u) := hl'; rw [hgl] at hl'; cases hl'⟩ (hw.set hob)
       rw [hset1] at hc
       simp only [List.mem_append] at hc
       rcases hc with (hc | hc) | hc
       ·exact hwf.hp _ _ _ _ (look_mem hob) c (List.mem_of_mem_take hc)
       ·exact hlok c hc
       ·exact hwf.hp _ _ _ _ (look_mem hob) c (List.mem_of_mem_drop hc)
      ·exact h.elim
     ·exact h.elim
    ·rename_i ti id v size idx off yv hdst hti hx hy
     split at h
     ·rename_i v0 E size0 L l hob hl
      obtain ⟨row, ⟨rfl, rfl, h0i, hrow⟩, h⟩ := h
      split at h
      ·rename_i row' hlen hset
       rw [if_pos hwant]
       obtain ⟨h1, h2⟩ := obl_out h
       rw [hpSetK_eq] at h2
       replace h2 : K (st.setHp (hpSet st.hp id (.row v E size (L.set idx.toNat row')))) := h2
       have hone := oneObs_spec (hp := st.hp) (fun p hp => gimp_out (h1 p hp) (fun c hc => by cases hc)) (cells_ok hl (opv_ok hwf hr keys_nil hy))
       have ex := eval_opv hr keys_nil hx
       have ey := eval_opv hr keys_nil hy
       have hv := opv_ok hwf hr keys_nil hy
       obtain ⟨ad, n, c, rfl⟩ := opv_ok hwf hr keys_nil hx
       simp only [RV.den, SV.den, CV.den, elemPtr] at ex
       have hcells : yv.den.cells = (dens l).toArray := cells_eq hl hone
       have hlok : ∀ c ∈ l, CVok st.hp c := cells_ok hl hv
       obtain ⟨i, d, hi, hd, hs, _⟩ := chk_info (hT _ _ hti)
       have hlen' := Nat.eq_of_beq_eq_true hlen
       obtain ⟨w', hst, hfr, hho⟩ := row_store (P := P) (hw.objs _ (look_mem hob)) hrow hset hone rfl
       rw [Int.toNat_of_nonneg h0i] at hst
       have e : (execOp a.eval o).run P w = .ok .skip w' := by
        obtain ⟨dst, op, type, pos, after, guard⟩ := o
        dsimp only at hop
        subst hop
        have hsz : (dens l).toArray.size = i.size := by rw [hs]; simp [dens, hlen']
        simp only [execOp, Instr.storeAt, Instr.sureAddr, ex, ey, Sem.run_bind, Sem.run_pure, Result.andThen_ok, storeVar, ok_sizeOf hi, hsz, ne_eq, not_true_eq_false, if_false, hcells, hst]
       unfold Oper.wp
       rw [e]
       show next (a.put o.dst undef) _
       rw [hdst]
       have hold : LOok st.hp (.row (.slice (some ad) n c) E size L) := hwf.obj (look_mem hob)
       refine hn _ _ _ h2 (hwf.setO hob (fun b' T' cs' e => by cases e) ⟨fun _ => ⟨_, _, _, rfl⟩, fun q hq c' hc => ?_⟩) ⟨hr.size, hr.defers, hr.sl, fun s ks u hl' => by replace hl' : look st.gl s = some (ks, u) := hl'; rw [hgl] at hl'; cases hl'⟩ (hw.setG hob hfr hho (fun b hb => .inl hb))
       rcases List.mem_or_eq_of_mem_set hq with hq | rfl
       ·exact hold.2 q hq c' hc
       ·rw [(setCells_spec hset).1] at hc
        simp only [List.mem_append] at hc
        have hrm : row ∈ L := List.mem_of_getElem? hrow
        rcases hc with (hc | hc) | hc
        ·exact hold.2 row hrm c' (List.mem_of_mem_take hc)
        ·exact hlok c' hc
        ·exact hold.2 row hrm c' (List.mem_of_mem_drop hc)
      ·exact h.elim
     ·exact h.elim
    ·exact rawE h
   ·rename_i t len parts hop
    split at h
    ·rename_i ti hti
     split at h
     ·rename_i obs l te hk1 hb hte
      split at h
      ·rename_i hlen hsz hln
       split at h
       rotate_left
       ·exact h.elim
       rename_i rows hch
       obtain ⟨c1, c2, c3⟩ := chunks_spec hch
       rw [if_pos hwant]
       obtain ⟨h1, h2⟩ := obl_out h
       have hob : ∀ p ∈ obs, p := fun p hp => gimp_out (h1 p hp) (fun c hc => by cases hc)
       obtain ⟨hu, j, hj, hj1, hj2⟩ := chk_slice (hT _ _ hti) hk1
       obtain ⟨i', d, hi', hd, hs, hag, z, hz, _⟩ := chk_info (hT _ _ hte)
       rw [hj] at hi'
       cases hi'
       obtain ⟨e1, e2⟩ := bldL_spec hwf hr hb hob
       have hlen := Nat.eq_of_beq_eq_true hlen
       have hsz := Nat.le_of_ble_eq_true hsz
       have hf : ∀ cs : Array Value, cs.size = len * j.size → Instr.fill (fun k => some (k * j.size, j.size)) cs (parts.toList.map fun x => (x.1, a.eval x.2)) = some (dens l).toArray := by
        intro cs hcs
        rw [hj1] at hcs ⊢
        have := e2 cs (by rw [Nat.zero_add, hlen, hcs]; exact Nat.le_refl _)
        rw [this, Nat.zero_add, hlen, Nat.zero_mul, List.take_zero, List.drop_eq_nil_of_le (by simp [hcs])]
        simp
       have er := run_buildSlice (P := P) t ti.elem j hu hj ⟨z, hz⟩ len _ _ w (by rw [hj1]; exact hsz) hf
       obtain ⟨dst, op, type, pos, after, guard⟩ := o
       dsimp only at hop
       subst hop
       have e : (execOp a.eval ⟨dst, .buildSlice t len parts, type, pos, after, guard⟩).run P w = .ok (.value (.slice (some ⟨w.heap.size, 0, none⟩) len len)) (w.alloc (.cells (dens l).toArray ti.elem)) := by
        have ep : (parts.map fun (i, x) => (i, a.eval x)) = (parts.toList.map fun x => (x.1, a.eval x.2)).toArray := by
         apply Array.ext'; simp
        simp only [execOp, ep, Sem.run_bind, er, Result.andThen_ok, Sem.run_pure]
       unfold Oper.wp
       rw [e]
       have hhold : (LO.row (.slice (some ⟨w.heap.size, 0, none⟩) len len) ti.elem ti.esize rows).holds (w.alloc (.cells (dens l).toArray ti.elem)) := by
        refine ⟨⟨by rw [c2]; simp only [dens, List.length_map]; rw [e1, hlen, c1], .inr ⟨w.heap.size, 0, len, (dens l).toArray, by rw [c1], by show (w.heap.push _)[w.heap.size]? = _; simp, by omega, ?_, by simp [dens, e1, hlen], ?_⟩⟩, c3⟩
        ·have := Nat.le_of_ble_eq_true hln
         unfold maxLen; omega
        ·rw [c2, c1, List.drop_zero]
         apply List.take_of_length_le
         simp [dens, e1, hlen]
       simp only [pushK_eq] at h2
       refine fin (h2 _) rfl (hwf.push (show LOok st.hp (.row (.slice (some ⟨w.heap.size, 0, none⟩) len len) ti.elem ti.esize rows) from ⟨fun _ => ⟨_, _, _, rfl⟩, fun q hq c hc => bldL_ok hwf hr hb c (by rw [← c2]; exact List.mem_flatten.2 ⟨q, hq, hc⟩)⟩)) ⟨_, _, _, rfl⟩ hr.push
        (hw.pushG ((Fr.refl _ _).alloc _) hhold fun b hb => ?_)
       simp only [LO.blks, blkOf, List.mem_singleton] at hb; omega
      ·exact h.elim
     ·exact h.elim
    ·exact h.elim
   ·rename_i t l c hop
    split at h
    ·rename_i ti n m hti hl hc
     split at h
     ·rename_i te hk1 hte hs1 hb1
      rw [if_pos hwant]
      obtain ⟨⟨rfl, h0, hbd⟩, hK⟩ := h
      obtain ⟨hu, j, hj, hj1, hj2⟩ := chk_slice (hT _ _ hti) hk1
      obtain ⟨i', d, hi', hd, hsz, hag, z, hz, hzc, hzl⟩ := chk_info (hT _ _ hte)
      rw [hj] at hi'
      cases hi'
      have hs1 := Nat.le_of_ble_eq_true hs1
      have hb1 := Nat.le_of_ble_eq_true hb1
      have el := eval_opv hr keys_nil hl
      have ec := eval_opv hr keys_nil hc
      simp only [RV.den, SV.den, CV.den] at el ec
      have hb2 : (ti.ebytes : Int) * n ≤ 140737488355328 := by rw [Int.mul_comm]; exact hbd
      have hn63 : n ≤ 140737488355328 := by
       have : 1 * n ≤ (ti.ebytes : Int) * n := Int.mul_le_mul_of_nonneg_right (by omega) h0
       omega
      have hrun := run_make (P := P) w t ti.elem j z hu hj hz .i64 .i64 n n h0 (Int.le_refl _) (by rw [hj2]; omega) (by omega)
      obtain ⟨k, rfl⟩ : ∃ k : Nat, n = k := ⟨n.toNat, by omega⟩
      simp only [Int.toNat_natCast, pushK_eq] at hrun hK
      have hzl' : te.zero.length = j.size := by omega
      have hmade := made_eq z.cells te.zero hzc k (by omega)
      rw [hzl'] at hmade
      have hrep : ∀ l ∈ List.replicate k te.zero, l.length = ti.esize := fun l hl => by rw [List.eq_of_mem_replicate hl]; omega
      have hhold : (LO.row (.slice (some ⟨w.heap.size, 0, none⟩) k k) ti.elem ti.esize (List.replicate k te.zero)).holds (w.alloc (.cells (madeCells z.cells (k * j.size)) ti.elem)) := by
       refine ⟨⟨by simp only [dens, List.length_map]; exact flatten_len hrep, .inr ⟨w.heap.size, 0, k, _, by simp, by show (w.heap.push _)[w.heap.size]? = _; simp; rfl, by simp, by unfold maxLen; omega, ?_, ?_⟩⟩, hrep⟩
       ·simp [madeCells, hj1]
       ·rw [List.drop_zero, hmade, List.length_replicate]
        apply List.take_of_length_le
        simp only [dens, List.length_map]
        rw [flatten_len hrep, List.length_replicate]; omega
      obtain ⟨dst, op, type, pos, after, guard⟩ := o
      dsimp only at hop
      subst hop
      have e : (execOp a.eval ⟨dst, .makeSlice t l c, type, pos, after, guard⟩).run P w = .ok (.value (.slice (some ⟨w.heap.size, 0, none⟩) k k)) (w.alloc (.cells (madeCells z.cells (k * j.size)) ti.elem)) := by
       simp only [execOp, el, ec, Sem.run_bind, hrun, Result.andThen_ok, Sem.run_pure]
      unfold Oper.wp
      rw [e]
      refine fin (hK _) rfl (hwf.push (show LOok st.hp (.row (.slice (some ⟨w.heap.size, 0, none⟩) k k) ti.elem ti.esize (List.replicate k te.zero)) from ⟨fun _ => ⟨_, _, _, rfl⟩, fun l hl c hc => ?_⟩)) ⟨_, _, _, rfl⟩ hr.push
       (hw.pushG ((Fr.refl _ _).alloc _) hhold fun b hb => ?_)
      ·rw [List.eq_of_mem_replicate hl] at hc
       exact zero_ok (hp := st.hp) hT hte c hc
      ·simp only [LO.blks, blkOf, List.mem_singleton] at hb; omega
     ·exact h.elim
    ·exact h.elim
   ·rename_i c hop
    split at h
    ·rename_i f hdst hcal
     split at h
     ·rename_i g first caps l hf hl
      rw [if_pos hwant]
      have ef := eval_opv hr keys_nil hf
      simp only [RV.den, SV.den, CV.den] at ef
      have ea := opvs_spec hr keys_nil hl
      have e : (execOp a.eval o).run P w = .ok (.defer { target := .fn (.func g) caps, args := first ++ rdens l }) w := by
       obtain ⟨dst, op, type, pos, after, guard⟩ := o
       dsimp only at hop
       subst hop
       obtain ⟨callee, cargs, argTypes⟩ := c
       dsimp only at hcal
       subst hcal
       have ea' : Array.map a.eval cargs = rdens l := by apply Array.ext'; simp [rdens, ea]
       simp only [execOp, resolve, ef, Deferred.ofValue, Sem.run_bind, Sem.run_pure, Result.andThen_ok, ea']
      unfold Oper.wp
      rw [e]
      show next ({ a with defers := _ :: a.defers }.put o.dst undef) w
      rw [hdst]
      obtain ⟨N, sl, gl, hp, S, ws, df⟩ := st
      exact hn _ _ _ h ⟨hwf.sl, hwf.hp, hwf.row⟩ ⟨hr.size, congrArg (List.cons _) hr.defers, hr.sl, hr.gl⟩ ⟨hw.objs, hw.nodup, hw.fr, hw.own⟩
     ·exact h.elim
    ·exact h.elim
   ·rename_i c hop
    split at h
    ·rename_i s x t t' hcal hargs htys
     rw [if_pos hwant]
     split at h
     rotate_left
     ·have hop' : o.op = .call { callee := .builtin .append, args := #[s, x], argTypes := #[t, t'] } := by
       rw [hop]
       obtain ⟨callee, args, argTypes⟩ := c
       simp only at hcal hargs htys
       subst hcal
       congr 2
       ·rw [← Array.toList_inj]; simpa using hargs
       ·rw [← Array.toList_inj]; simpa using htys
      split at h
      ·have q := rawE h
       rwa [if_pos hwant] at q
      unfold stepAZ at h
      split at h
      ·rename_i ti tx u k hti htx hs hx
       split at h
       ·rename_i te hk1 hk6 hte hb1 hs1
        obtain ⟨rows, ⟨hsrc, hnp, h0, hcap, hbd⟩, hK⟩ := h
        obtain ⟨hu, j, hj, hj1, hj2⟩ := chk_slice (hT _ _ hti) hk1
        have hux := chk_i64 (hT _ _ htx) hk6
        obtain ⟨i', d, hi', hd, hsz, hag, z, hz, hzc, hzl⟩ := chk_info (hT _ _ hte)
        rw [hj] at hi'
        cases hi'
        have hs1 := Nat.le_of_ble_eq_true hs1
        have hb1 := Nat.le_of_ble_eq_true hb1
        have es := eval_opv hr keys_nil hs
        have ex := eval_opv hr keys_nil hx
        simp only [RV.den, SV.den, CV.den] at es ex
        obtain ⟨k', rfl⟩ : ∃ k' : Nat, k = k' := ⟨k.toNat, by omega⟩
        simp only [Int.toNat_natCast, pushK_eq] at hK
        have hsrcw := hsrc w hw
        rw [← hj1] at hsrcw
        obtain ⟨v', w', hrun, hfr, hho, hbl⟩ := append_zeros (P := P) t t' o.type ti.elem j z hu hux hj hz hzc (by omega) (by omega) hsrcw (k := k') (by omega) hcap (by omega) (by rw [hj2]; have := hbd; rw [← Int.natCast_add, ← Int.natCast_mul] at this; omega)
        have e : (execOp a.eval o).run P w = .ok (.value v') w' := by
         obtain ⟨dst, op, type, pos, after, guard⟩ := o
         dsimp only at hop'
         subst hop'
         simp [execOp, resolve, invoke, builtin, es, ex, hrun]
        unfold Oper.wp
        rw [e]
        rw [hj1] at hho
        refine fin (hK v') rfl (hwf.push (show LOok st.hp (.row v' ti.elem ti.esize (rows ++ List.replicate k' te.zero)) from ⟨rows_some' hho, fun l hl c hc => ?_⟩)) (ownsAt_slice hho.1) hr.push (hw.pushG (hfr.fr []) hho hbl)
        rcases List.mem_append.1 hl with hl | hl
        ·exact noP_ok (hnp l hl c hc)
        ·rw [List.eq_of_mem_replicate hl] at hc; exact zero_ok (hp := st.hp) hT hte c hc
       ·exact h.elim
      ·exact h.elim
     unfold stepA at h
     split at h
     ·rename_i ti sv xc htt hti hs hx
      have htt := Nat.eq_of_beq_eq_true htt
      subst htt
      have hop' : o.op = .call { callee := .builtin .append, args := #[s, x], argTypes := #[t, t] } := by
       rw [hop]
       obtain ⟨callee, args, argTypes⟩ := c
       simp only at hcal hargs htys
       subst hcal
       congr 2
       ·rw [← Array.toList_inj]; simpa using hargs
       ·rw [← Array.toList_inj]; simpa using htys
      have ex := eval_opv hr keys_nil hx
      simp only [RV.den, SV.den] at ex
      split at h
      ·rename_i te hk1 hb1 hte
       split at h
       ·rename_i id v
        split at h
        ·rename_i v0 E size L hob
         split at h
         ·rename_i hsz
          obtain ⟨rfl, h⟩ := h
          obtain ⟨h1, h2⟩ := obl_out h
          have hsz := Nat.eq_of_beq_eq_true hsz
          have hold : LOok st.hp (.row v E size L) := hwf.obj (look_mem hob)
          have hone := oneObs_spec (hp := st.hp) (fun p hp => gimp_out (h1 p hp) (fun c hc => by cases hc)) (fun c hc => by obtain ⟨l, hl, hc⟩ := List.mem_flatten.1 hc; exact hold.2 l hl c hc)
          have hobj := hw.objs _ (look_mem hob)
          rw [hsz] at hobj
          exact appTo_sound hT hwf hr hw hgl hti hk1 hb1 hte hs ex (rows := L) (SrcOk.of_row hobj (fun l hl c hc => hone c.den (List.mem_map.2 ⟨c, List.mem_flatten.2 ⟨l, hl, hc⟩, rfl⟩))) hold.2 h2 hop' fin
         ·exact h.elim
        ·exact h.elim
       ·obtain ⟨rows, ⟨hsrc, hnp⟩, h⟩ := h
        exact appTo_sound hT hwf hr hw hgl hti hk1 hb1 hte hs ex (hsrc w hw) (fun l hl c hc => noP_ok (hnp l hl c hc)) h hop' fin
      ·exact h.elim
     ·exact h.elim
    ·rename_i x t hcal hargs htys
     rw [if_pos hwant]
     have hop' : o.op = .call { callee := .builtin .clear, args := #[x], argTypes := #[t] } := by
      rw [hop]
      obtain ⟨callee, args, argTypes⟩ := c
      simp only at hcal hargs htys
      subst hcal
      congr 2
      ·rw [← Array.toList_inj]; simpa using hargs
      ·rw [← Array.toList_inj]; simpa using htys
     unfold stepClear at h
     split at h
     ·rename_i ti u hti hx
      split at h
      ·rename_i te hk1 hte hs1
       obtain ⟨id, lo, h⟩ := h
       split at h
       ·rename_i v E size L hob
        split at h
        ·rename_i hsz
         obtain ⟨⟨hu', hlo⟩, h⟩ := h
         obtain ⟨h1, h2⟩ := obl_out h
         rw [hpSetK_eq] at h2
         replace h2 : goPut (st.setHp (hpSet st.hp id (.row v E size (spliceR L (List.replicate (L.length - lo) te.zero) lo)))) o.dst (.tup []) K := h2
         have hone := oneObs_spec (hp := st.hp) (fun p hp => gimp_out (h1 p hp) (fun c hc => by cases hc)) (zero_ok (hp := st.hp) hT hte)
         have ex := eval_opv hr keys_nil hx
         simp only [RV.den, SV.den, CV.den] at ex
         obtain ⟨hu, j, hj, hj1, hj2⟩ := chk_slice (hT _ _ hti) hk1
         obtain ⟨i', d, hi', hd, hsz', hag, z, hz, hzc, hzl⟩ := chk_info (hT _ _ hte)
         rw [hj] at hi'
         cases hi'
         have hsz := Nat.eq_of_beq_eq_true hsz
         have hs1 := Nat.le_of_ble_eq_true hs1
         have hobj := hw.objs _ (look_mem hob)
         have esz : size = j.size := by omega
         subst esz
         obtain ⟨w', hrun, hfr, hho⟩ := clear_own (P := P) t o.type ti.elem j z hu hj hz hzc (by omega) (by omega) hone hobj hlo
         have e : (execOp a.eval o).run P w = .ok (.value (.tuple #[])) w' := by
          obtain ⟨dst, op, type, pos, after, guard⟩ := o
          dsimp only at hop'
          subst hop'
          rw [hu'] at ex
          simp [execOp, resolve, invoke, builtin, ex, hrun]
         unfold Oper.wp
         rw [e]
         have hold : LOok st.hp (.row v E j.size L) := hwf.obj (look_mem hob)
         refine fin h2 rfl (hwf.setO hob (fun b' T' cs' e => by cases e) ⟨fun hn => hold.1 (by rw [spliceR_length (by simp; omega)] at hn; exact hn), fun q hq c' hc => ?_⟩) (fun v hv => by cases hv) ⟨hr.size, hr.defers, hr.sl, fun s ks u hl' => by replace hl' : look st.gl s = some (ks, u) := hl'; rw [hgl] at hl'; cases hl'⟩ (hw.setG hob hfr hho (fun b hb => .inl hb))
         simp only [spliceR, List.mem_append] at hq
         rcases hq with (hq | hq) | hq
         ·exact hold.2 q (List.mem_of_mem_take hq) c' hc
         ·rw [List.eq_of_mem_replicate hq] at hc; exact zero_ok (hp := st.hp) hT hte c' hc
         ·exact hold.2 q (List.mem_of_mem_drop hq) c' hc
        ·exact h.elim
       ·exact h.elim
      ·exact h.elim
     ·exact h.elim
    ·rename_i d x t t' hcal hargs htys
     rw [if_pos hwant]
     have hop' : o.op = .call { callee := .builtin .copy, args := #[d, x], argTypes := #[t, t'] } := by
      rw [hop]
      obtain ⟨callee, args, argTypes⟩ := c
      simp only at hcal hargs htys
      subst hcal
      congr 2
      ·rw [← Array.toList_inj]; simpa using hargs
      ·rw [← Array.toList_inj]; simpa using htys
     unfold stepCopy at h
     split at h
     ·rename_i ti u xc hti hd hx
      split at h
      ·rename_i hk1
       obtain ⟨id, lo, rows, h⟩ := h
       split at h
       ·rename_i v E size L hob
        split at h
        ·rename_i hsz
         obtain ⟨⟨hu', hlo, hsrc, hnp⟩, h2⟩ := h
         rw [hpSetK_eq] at h2
         replace h2 : goPut (st.setHp (hpSet st.hp id (.row v E size (spliceR L rows lo)))) o.dst (.s (.c (.i rows.length))) K := h2
         have ex := eval_opv hr keys_nil hx
         have ed := eval_opv hr keys_nil hd
         simp only [RV.den, SV.den] at ex ed
         rw [show (CV.x u).den = u from rfl] at ed
         obtain ⟨hu, j, hj, hj1, hj2⟩ := chk_slice (hT _ _ hti) hk1
         have hsz := Nat.eq_of_beq_eq_true hsz
         have hobj := hw.objs _ (look_mem hob)
         have esz : size = j.size := by omega
         subst esz
         have hs := hsrc w hw
         obtain ⟨w', hrun, hfr, hho⟩ := copy_own (P := P) t t' o.type ti.elem j hu hj hobj hlo hs
         have e : (execOp a.eval o).run P w = .ok (.value (.int .i64 rows.length)) w' := by
          obtain ⟨dst, op, type, pos, after, guard⟩ := o
          dsimp only at hop'
          subst hop'
          rw [hu'] at ed
          simp only [execOp, resolve, invoke, builtin, List.map_toArray, List.map_cons, List.map_nil, ex, ed, Sem.run_bind, Sem.run_pure, Result.andThen_ok, hrun]
         unfold Oper.wp
         rw [e]
         have hold : LOok st.hp (.row v E j.size L) := hwf.obj (look_mem hob)
         refine fin h2 rfl (hwf.setO hob (fun b' T' cs' e => by cases e) ⟨fun hn => hold.1 (by rw [spliceR_length hlo] at hn; exact hn), fun q hq c' hc => ?_⟩) trivial ⟨hr.size, hr.defers, hr.sl, fun s ks u hl' => by replace hl' : look st.gl s = some (ks, u) := hl'; rw [hgl] at hl'; cases hl'⟩ (hw.setG hob hfr hho (fun b hb => .inl hb))
         simp only [spliceR, List.mem_append] at hq
         rcases hq with (hq | hq) | hq
         ·exact hold.2 q (List.mem_of_mem_take hq) c' hc
         ·exact noP_ok (hnp q hq c' hc)
         ·exact hold.2 q (List.mem_of_mem_drop hq) c' hc
        ·exact h.elim
       ·exact h.elim
      ·exact h.elim
     ·exact h.elim
    ·exact rawE h
    ·exact quiet h
   ·exact rawE h
   ·exact rawE h
   ·exact rawE h
   ·exact rawE h
   ·exact rawE h
   ·exact quiet h
 ·exact quiet h
def St.atEnd : St → (Act → World → Prop) → Prop
 | ⟨N, sl, _, hp, S, ws, df⟩, R => At ⟨N, sl, [], hp, S, ws, df⟩ R
def run (P : Program) (tab : Tab) (ops : Array Oper) (l : List Oper) : St → (St → Prop) → Prop :=
 List.rec (motive := fun _ => St → (St → Prop) → Prop) (fun st K => K st) (fun o _ ih st K => step P tab ops o st (fun st' => ih st' K)) l
def runQ (P : Program) (tab : Tab) (ops : Array Oper) (l : List Oper) : St → (St → Prop) → Prop :=
 List.rec (motive := fun _ => St → (St → Prop) → Prop) (fun st K => K st) (fun o _ ih st K => stepQ P tab ops o st (fun st' => ih st' K)) l
theorem Rel.endR {st : St} {a : Act} (h : Rel st a) : Rel st.endR a := ⟨h.size, h.defers, h.sl, fun s ks v hl => by cases hl⟩
theorem WF.endR {st : St} (h : WF st) : WF st.endR := ⟨h.sl, h.hp, h.row⟩
theorem Holds.endR {st : St} {w : World} (h : Holds st w) : Holds st.endR w := ⟨h.objs, h.nodup, h.fr, h.own⟩
def noG : Oper → Oper
 | ⟨dst, op, type, pos, after, _⟩ => ⟨dst, op, type, pos, after, none⟩
section
variable {P : Program} {tab : Tab} {Q : Exit → Act → World → Prop}
theorem run_sound (hT : TabOk P tab) {ops : Array Oper} : ∀ {l : List Oper} {st : St} {K : St → Prop} {a : Act} {w : World}, run P tab ops l st K → WF st → Rel st a → Holds st w →
  (∀ st' a' w', K st' → WF st' → Rel st' a' → Holds st' w' → Q .normal a' w') → wpList P ops Q l a w
 | [], st, K, a, w, h, hwf, hr, hw, hn => hn st a w h hwf hr hw
 | o :: r, st, K, a, w, h, hwf, hr, hw, hn => by
  have := step_sound (Q := Q) (next := wpList P ops Q r) hT h hwf hr hw (fun st' a' w' hk hwf' hr' hw' => run_sound hT hk hwf' hr' hw' hn)
  simp only [wpList]
  split
  ·rename_i hwant; rw [if_pos hwant] at this; exact .inl this
  ·rename_i hwant; rw [if_neg hwant] at this; exact this
theorem runQ_sound (hT : TabOk P tab) {ops : Array Oper} {st0 : St} {N : Act → Prop} : ∀ {l : List Oper} {st : St} {K : St → Prop} {a : Act}, runQ P tab ops l st K → WF st → Rel st a → SameW st0 st →
  (∀ st' a', K st' → WF st' → Rel st' a' → SameW st0 st' → N a') → wpQuiet P ops (Holds st0) N l a
 | [], st, K, a, h, hwf, hr, h0, hn => hn st a h hwf hr h0
 | o :: r, st, K, a, h, hwf, hr, h0, hn =>
  stepQ_sound (next := wpQuiet P ops (Holds st0) N r) hT h hwf hr h0 (fun st' a' hk hwf' hr' hs => runQ_sound hT hk hwf' hr' hs hn)
theorem At.region (hT : TabOk P tab) {id : Nat} {l : List Oper} {st : St} (h : run P tab l.toArray l st (fun st' => st'.atEnd (Q .normal))) : At st ((Code.region id l.toArray false).wp P Q) :=
 ⟨fun hwf a w hr hw => wp_region_lit (run_sound hT h hwf hr hw fun st' a' w' hk hwf' hr' hw' => (show At st'.endR _ from hk).out hwf'.endR a' w' hr'.endR hw'.endR)⟩
theorem Holds.drawn {st : St} {w : World} (h : Holds st w) : Holds st { w with drawn := w.drawn + 1 } := by
 exact ⟨fun o ho => LO.frame (S := []) ((Fr.refl _ _).drew) (h.objs o ho) (by simp), h.nodup, h.fr.drew, h.own⟩
theorem At.draw (hT : TabOk P tab) (hm : P.follows .mixedOrders = true) {id : Nat} {l : List Oper} {st : St} (hB : Region.lexB .any l.toArray = true)
  (h : runQ P tab l.toArray l st (fun st' => st'.atEnd (Q .normal))) : At st ((Code.region id l.toArray true).wp P Q) :=
 ⟨fun hwf a w hr hw => wp_region_quiet (C := Holds st) hm hB hw.drawn (by
  refine runQ_sound hT (ops := l.toArray) h hwf hr (SameW.refl st) fun st' a' hk hwf' hr' hs w' hw' => ?_
  exact (show At st'.endR _ from hk).out hwf'.endR a' w' hr'.endR (hs.holds hw').endR)⟩
theorem At.seq {x y : Code} {st : St} (h : At st (x.wp P (Exit.then (y.wp P Q) Q))) : At st ((Code.seq x y).wp P Q) :=
 ⟨fun hwf a w hr hw => wp_seq (h.out hwf a w hr hw)⟩
theorem At.skip {st : St} (h : At st (Q .normal)) : At st (Code.skip.wp P Q) := ⟨fun hwf a w hr hw => wp_skip (h.out hwf a w hr hw)⟩
theorem At.exit {id : Nat} {st : St} (h : At st (Q (.exit id))) : At st ((Code.exit id).wp P Q) := ⟨fun hwf a w hr hw => wp_exit (h.out hwf a w hr hw)⟩
theorem At.ret {st : St} (h : At st (Q .ret)) : At st (Code.ret.wp P Q) := ⟨fun hwf a w hr hw => wp_ret (h.out hwf a w hr hw)⟩
theorem At.block {id : Nat} {c : Code} {st : St} (h : At st (c.wp P (Exit.inBlock id Q))) : At st ((Code.block id c).wp P Q) := ⟨fun hwf a w hr hw => wp_block (h.out hwf a w hr hw)⟩
theorem At.cond {c : Operand} {x y : Code} {st : St} {t : Bool} (hc : opv st [] c = some (.s (.c (.b t)))) (ht : t = true → At st (x.wp P Q)) (hf : t = false → At st (y.wp P Q)) : At st ((Code.cond c x y).wp P Q) :=
 ⟨fun hwf a w hr hw => wp_cond_split (t := t) (eval_opv hr keys_nil hc) (fun e => (ht e).out hwf a w hr hw) (fun e => (hf e).out hwf a w hr hw)⟩
def Le (st st' : St) : Prop := (st'.N = st.N ∧ st'.df = st.df) ∧ st'.gl = [] ∧ ∀ s v, look st'.sl s = some (some v) → ∃ u, look st.sl s = some (some u) ∧ u.den = v.den
theorem Le.rel {st st' : St} {a : Act} (h : Le st st') (hr : Rel st a) : Rel st' a :=
 ⟨by rw [h.1.1]; exact hr.size, hr.defers.trans h.1.2.symm, fun s v hl => by obtain ⟨u, h1, h2⟩ := h.2.2 s v hl; rw [← h2]; exact hr.sl s u h1, fun s ks v hl => by rw [h.2.1] at hl; cases hl⟩
theorem At.reshape {st : St} {R : Act → World → Prop} (h : ∀ w, Holds st w → ∃ st', Le st st' ∧ WF st' ∧ Holds st' w ∧ At st' R) : At st R :=
 ⟨fun hwf a w hr hw => let ⟨st', hl, hwf', hw', h'⟩ := h w hw; h'.out hwf' a w (hl.rel hr) hw'⟩
theorem wp_loop_ghost {c : Code} (I : Nat → Act → World → Prop) {a : Act} {w : World} {n : Nat} (h₀ : I n a w)
  (round : ∀ n a w, I n a w → c.wp P (Exit.then (fun a' w' => ∃ m, m < n ∧ I m a' w') Q) a w) : (Code.loop c).wp P Q a w := by
 intro b k cs
 have key : ∀ n a w, I n a w → ∃ e a' w', Q e a' w' ∧ Arrives P (lone (b.at a (.code c :: .inLoop c :: k)) cs w) b k cs e a' w' := by
  intro n
  induction n using Nat.strongRecOn with
  | _ n ih =>
   intro a w hI
   obtain ⟨e, a₁, w₁, hq, harr⟩ := round n a w hI b (.inLoop c :: k) cs
   cases e with
   | normal =>
    obtain ⟨m, hlt, hI₁⟩ := hq
    obtain ⟨e₂, a₂, w₂, hq₂, harr₂⟩ := ih m hlt a₁ w₁ hI₁
    exact ⟨e₂, a₂, w₂, hq₂, .of_steps (Steps.trans harr (.one step_inLoop)) harr₂⟩
   | exit id => exact ⟨_, a₁, w₁, hq, .pass (x := .inLoop c) rfl (fun _ _ => .inl (by simp)) harr⟩
   | goto l => exact ⟨_, a₁, w₁, hq, .pass (x := .inLoop c) rfl (fun _ _ => .inl (by simp)) harr⟩
   | ret => exact ⟨_, a₁, w₁, hq, .pass (x := .inLoop c) rfl (fun _ _ => .inl (by simp)) harr⟩
   | panic ch => exact ⟨_, a₁, w₁, hq, .pass (x := .inLoop c) rfl (fun _ _ => .inl (by simp)) harr⟩
   | outgrown => exact ⟨_, a₁, w₁, hq, .pass (x := .inLoop c) rfl (fun _ _ => .inl (by simp)) harr⟩
 obtain ⟨e, a', w', hq, harr⟩ := key _ a w h₀
 exact ⟨e, a', w', hq, .of_steps (.one step_loop) harr⟩
theorem At.loop {c : Code} {st : St} (I : Nat → St → Prop) (h₀ : At st (fun a w => ∃ n st', I n st' ∧ WF st' ∧ Rel st' a ∧ Holds st' w))
  (round : ∀ n st', I n st' → At st' (c.wp P (Exit.then (fun a w => ∃ m st'', m < n ∧ I m st'' ∧ WF st'' ∧ Rel st'' a ∧ Holds st'' w) Q))) : At st ((Code.loop c).wp P Q) :=
 ⟨fun hwf a w hr hw => by
  obtain ⟨n, st', hI, hwf', hr', hw'⟩ := h₀.out hwf a w hr hw
  refine wp_loop_ghost (fun n a w => ∃ st', I n st' ∧ WF st' ∧ Rel st' a ∧ Holds st' w) (n := n) ⟨st', hI, hwf', hr', hw'⟩ ?_
  rintro n a w ⟨st', hI, hwf', hr', hw'⟩
  refine wp_mono ((round n st' hI).out hwf' a w hr' hw') ?_
  intro e a w hq
  cases e with
  | normal => obtain ⟨m, st'', h1, h2⟩ := hq; exact ⟨m, h1, st'', h2⟩
  | _ => exact hq⟩
theorem At.inv {I : Nat → St → Prop} {st : St} (h : ∀ w, Holds st w → ∃ n st', Le st st' ∧ WF st' ∧ Holds st' w ∧ I n st') : At st (fun a w => ∃ n st', I n st' ∧ WF st' ∧ Rel st' a ∧ Holds st' w) :=
 ⟨fun hwf a w hr hw => let ⟨n, st', hl, hwf', hw', hI⟩ := h w hw; ⟨n, st', hI, hwf', hl.rel hr, hw'⟩⟩
theorem At.inv' {I : Nat → St → Prop} {st : St} {n : Nat} (h : ∀ w, Holds st w → ∃ m st', m < n ∧ Le st st' ∧ WF st' ∧ Holds st' w ∧ I m st') :
  At st (fun a w => ∃ m st', m < n ∧ I m st' ∧ WF st' ∧ Rel st' a ∧ Holds st' w) :=
 ⟨fun hwf a w hr hw => let ⟨m, st', h0, hl, hwf', hw', hI⟩ := h w hw; ⟨m, st', h0, hI, hwf', hl.rel hr, hw'⟩⟩
theorem At.loopF {ρ : Type} {c : Code} {st : St} (F : ρ → St) (Inv : ρ → Prop) (μ : ρ → Nat) (h₀ : ∀ w, Holds st w → ∃ p, Inv p ∧ Le st (F p) ∧ WF (F p) ∧ Holds (F p) w)
  (round : ∀ p, Inv p → At (F p) (c.wp P (Exit.then (fun a w => ∃ m st'', m < μ p ∧ (∃ q, Inv q ∧ m = μ q ∧ st'' = F q) ∧ WF st'' ∧ Rel st'' a ∧ Holds st'' w) Q))) : At st ((Code.loop c).wp P Q) := by
 refine At.loop (fun n st' => ∃ q, Inv q ∧ n = μ q ∧ st' = F q) (At.inv fun w hw => ?_) ?_
 ·obtain ⟨p, h1, h2, h3, h4⟩ := h₀ w hw
  exact ⟨μ p, F p, h2, h3, h4, p, h1, rfl, rfl⟩
 ·rintro n st' ⟨q, hq, rfl, rfl⟩
  exact round q hq
theorem At.next {ρ : Type} {st : St} {F : ρ → St} {Inv : ρ → Prop} {μ : ρ → Nat} {n : Nat} (h : ∀ w, Holds st w → ∃ q, Inv q ∧ μ q < n ∧ Le st (F q) ∧ WF (F q) ∧ Holds (F q) w) :
  At st (fun a w => ∃ m st'', m < n ∧ (∃ q, Inv q ∧ m = μ q ∧ st'' = F q) ∧ WF st'' ∧ Rel st'' a ∧ Holds st'' w) :=
 At.inv' fun w hw => let ⟨q, h1, h2, h3, h4, h5⟩ := h w hw; ⟨μ q, F q, h2, h3, h4, h5, q, h1, rfl, rfl⟩
end
end Go.Vc
