/- Texts that the law leans on. -/
import Derived.WalkKit
import Derived.Deep.Quiet
import Derived.Laws.StructEq
set_option linter.unusedVariables false
set_option linter.unusedSimpArgs false
namespace Go.Vd
open Go.RowKit
structure Fr (S : List Nat) (w w' : World) : Prop where
 os : w'.os = w.os
 tape : w'.tape = w.tape
 output : w'.output = w.output
 size : w.heap.size ≤ w'.heap.size
 block : ∀ k, k < w.heap.size → k ∉ S → w'.heap[k]? = w.heap[k]?
 dr : w.drawn ≤ w'.drawn
theorem Fr.refl (S : List Nat) (w : World) : Fr S w w := ⟨rfl, rfl, rfl, Nat.le_refl _, fun _ _ _ => rfl, Nat.le_refl _⟩
theorem Fr.trans {S : List Nat} {a b c : World} (h : Fr S a b) (k : Fr S b c) : Fr S a c :=
 ⟨k.os.trans h.os, k.tape.trans h.tape, k.output.trans h.output, Nat.le_trans h.size k.size,
  fun i hi hs => (k.block i (Nat.lt_of_lt_of_le hi h.size) hs).trans (h.block i hi hs), Nat.le_trans h.dr k.dr⟩
theorem Fr.mono {S T : List Nat} {a b : World} (h : Fr S a b) (hs : ∀ k, k ∈ S → k ∈ T ∨ a.heap.size ≤ k) : Fr T a b :=
 ⟨h.os, h.tape, h.output, h.size, fun k hk hn => h.block k hk fun hm => (hs k hm).elim hn (fun h => by omega), h.dr⟩
theorem Fr.drew {S : List Nat} {a b : World} (h : Fr S a b) : Fr S a b.drew := ⟨h.os, h.tape, h.output, h.size, h.block, Nat.le_trans h.dr (Nat.le_succ _)⟩
theorem Fr.alloc {S : List Nat} {a b : World} (h : Fr S a b) (o : Obj) : Fr S a (b.alloc o) :=
 ⟨h.os, h.tape, h.output, by have := h.size; show a.heap.size ≤ (b.heap.push o).size; rw [Array.size_push]; omega, fun k hk hs => by
  have := h.size
  show (b.heap.push o)[k]? = _
  rw [Array.getElem?_push, if_neg (by omega)]; exact h.block k hk hs, h.dr⟩
theorem Fr.setRow {S : List Nat} {a b : World} (h : Fr S a b) {g : Nat} (hg : g ∈ S ∨ a.heap.size ≤ g) (cs : Array Value) : Fr S a (b.setRow g cs) :=
 ⟨h.os, h.tape, h.output, by have := h.size; simp [World.setRow]; omega, fun k hk hs => by
  have hne : k ≠ g := fun e => hg.elim (fun h' => hs (e ▸ h')) (fun h' => by omega)
  rw [setRow_other b g k cs hne]; exact h.block k hk hs, h.dr⟩
abbrev Ext (w w' : World) : Prop := Fr [] w w'
theorem Ext.fr {w w' : World} (h : Ext w w') (S : List Nat) : Fr S w w' := h.mono fun k hk => by simp at hk
theorem Ext.below {w w' : World} (h : Ext w w') : Below w.heap.size w w' := ⟨h.os, h.tape, h.output, h.size, fun k hk => h.block k hk (by simp)⟩
def elemAddr (a : Addr) (size : Nat) (idx : Int) (off : Nat) : Addr := (a.add (idx.toNat * size)).add off
def elemPtr (v : Value) (size : Nat) (idx : Int) (off : Nat) : Value :=
 match v with
 | .slice (some a) _ _ => .pointer (some (elemAddr a size idx off))
 | _ => .pointer none
inductive CV where
 | i (n : Int)
 | b (x : Bool)
 | x (v : Value)
 | p (id blk off : Nat)
 | e (v : Value) (size : Nat) (idx : Int) (off : Nat)
 | o (id : Nat) (v : Value)
 | r (id : Nat) (v : Value) (size : Nat) (idx : Int) (off : Nat)
 | q (id blk n : Nat)
def CV.den : CV → Value
 | .i n => .int .i64 n
 | .b t => .bool t
 | .x v => v
 | .p _ blk off => .pointer (some ⟨blk, off, none⟩)
 | .e v size idx off => elemPtr v size idx off
 | .o _ v => v
 | .r _ v size idx off => elemPtr v size idx off
 | .q _ blk n => .slice (some ⟨blk, 0, none⟩) n n
inductive SV where
 | c (v : CV)
 | agg (l : List CV)
def dens (l : List CV) : List Value := l.map CV.den
def SV.den : SV → Value
 | .c v => v.den
 | .agg l => .agg (dens l).toArray
inductive RV where
 | s (v : SV)
 | tup (l : List SV)
def RV.den : RV → Value
 | .s v => v.den
 | .tup l => .tuple (l.map SV.den).toArray
@[reducible] def RV.i (n : Int) : RV := .s (.c (.i n))
@[reducible] def RV.b (x : Bool) : RV := .s (.c (.b x))
@[reducible] def RV.x (v : Value) : RV := .s (.c (.x v))
inductive LO where
 | box (blk : Nat) (T : TypeId) (cells : List CV)
 | row (v : Value) (E size : Nat) (L : List (List CV))
def ownsAt (w : World) (E size : Nat) (v : Value) (n : Nat) (xs : List Value) : Prop :=
 xs.length = n * size ∧ ((v = .slice none 0 0 ∧ n = 0) ∨
  ∃ g o cap cur, v = .slice (some ⟨g, o, none⟩) n cap ∧ w.heap[g]? = some (.cells cur E (0, 0)) ∧ n ≤ cap ∧ cap ≤ maxLen ∧ o + cap * size ≤ cur.size ∧ (cur.toList.drop o).take (n * size) = xs)
def blkOf : Value → List Nat
 | .slice (some a) _ _ => [a.block]
 | _ => []
def LO.holds (w : World) : LO → Prop
 | .box blk T cells => w.heap[blk]? = some (.cells (dens cells).toArray T (0, 0))
 | .row v E size L => ownsAt w E size v L.length (dens L.flatten) ∧ ∀ l ∈ L, l.length = size
def LO.blks : LO → List Nat
 | .box blk _ _ => [blk]
 | .row v _ _ _ => blkOf v
abbrev Keys := List (Nat × Bool)
structure St where
 N : Nat
 sl : List (Nat × Option RV)
 gl : List (Nat × Keys × RV)
 hp : List (Nat × LO)
 S : List Nat
 ws : World
 df : List Deferred := []
def St.setHp : St → List (Nat × LO) → St
 | ⟨N, sl, gl, _, S, ws, df⟩, hp => ⟨N, sl, gl, hp, S, ws, df⟩
def St.endR : St → St
 | ⟨N, sl, _, hp, S, ws, df⟩ => ⟨N, sl, [], hp, S, ws, df⟩
def St.blks (st : St) : List Nat := st.hp.flatMap fun o => o.2.blks
structure Holds (st : St) (w : World) : Prop where
 objs : ∀ o ∈ st.hp, o.2.holds w
 nodup : st.blks.Nodup
 fr : Fr st.S st.ws w
 own : ∀ b ∈ st.blks, b ∈ st.S ∨ st.ws.heap.size ≤ b
def look {α : Type} : List (Nat × α) → Nat → Option α
 | [], _ => none
 | (t, v) :: r, s => match Nat.beq t s with
  | true => some v
  | false => look r s
def keysHold (a : Act) (ks : Keys) : Prop := ∀ k ∈ ks, a.tmps[k.1]? = some (.bool k.2)
def CVok (hp : List (Nat × LO)) : CV → Prop
 | .p id blk _ => ∃ T cells, look hp id = some (.box blk T cells)
 | .e v _ _ _ => ∃ a n c, v = .slice (some a) n c
 | .r _ v _ _ _ => ∃ a n c, v = .slice (some a) n c
 | .o _ v => ∃ a n c, v = .slice a n c
 | _ => True
def SVok (hp : List (Nat × LO)) : SV → Prop
 | .c v => CVok hp v
 | .agg l => ∀ c ∈ l, CVok hp c
def RVok (hp : List (Nat × LO)) : RV → Prop
 | .s v => SVok hp v
 | .tup l => ∀ v ∈ l, SVok hp v
structure Rel (st : St) (a : Act) : Prop where
 size : a.tmps.size = st.N
 defers : a.defers = st.df
 sl : ∀ s v, look st.sl s = some (some v) → a.tmps[s]? = some v.den
 gl : ∀ s ks v, look st.gl s = some (ks, v) → (keysHold a ks ∧ a.tmps[s]? = some v.den ∧ RVok st.hp v) ∨ (¬ keysHold a ks ∧ a.tmps[s]? = some undef)
structure WF (st : St) : Prop where
 sl : ∀ s v, (s, some v) ∈ st.sl → RVok st.hp v
 hp : ∀ id b T cells, (id, LO.box b T cells) ∈ st.hp → ∀ c ∈ cells, CVok st.hp c
 row : ∀ id v E size L, (id, LO.row v E size L) ∈ st.hp → (0 < L.length → ∃ a n c, v = .slice (some a) n c) ∧ ∀ l ∈ L, ∀ c ∈ l, CVok st.hp c
def noP : CV → Bool
 | .p _ _ _ => false
 | .e _ _ _ _ => false
 | .r _ _ _ _ _ => false
 | .o _ _ => false
 | _ => true
def noPs : List CV → Bool
 | [] => true
 | c :: r => match noP c with
  | true => noPs r
  | false => false
theorem noP_ok {hp : List (Nat × LO)} {c : CV} (h : noP c = true) : CVok hp c := by
 cases c <;> simp [noP, CVok] at *
theorem noPs_ok {hp : List (Nat × LO)} {l : List CV} (h : noPs l = true) : ∀ c ∈ l, CVok hp c := by
 induction l with
 | nil => intro c hc; cases hc
 | cons x r ih =>
  simp only [noPs] at h
  split at h
  ·rename_i hx
   intro c hc
   rcases List.mem_cons.1 hc with rfl | hc
   ·exact noP_ok hx
   ·exact ih h c hc
  ·cases h
def subKeys : Keys → Keys → Bool
 | [], _ => true
 | k :: r, l => l.any (fun m => Nat.beq m.1 k.1 && (m.2 == k.2)) && subKeys r l
def ofConst : Value → RV
 | .int .i64 n => .s (.c (.i n))
 | .bool x => .s (.c (.b x))
 | v => .s (.c (.x v))
theorem ofConst_den (v : Value) : (ofConst v).den = v := by
 unfold ofConst; split <;> rfl
def opv (st : St) (cur : Keys) : Operand → Option RV
 | .tmp t => match look st.gl t with
  | some (ks, v) => match subKeys ks cur with
   | true => some v
   | false => none
  | none => match look st.sl t with
   | some (some v) => some v
   | _ => none
 | .const v => some (ofConst v)
 | .global g => some (.s (.c (.x (.pointer (some ⟨g, 0, none⟩)))))
 | .func f => some (.s (.c (.x (.func (.func f) #[] #[]))))
theorem look_mem {α : Type} {l : List (Nat × α)} {s : Nat} {v : α} (h : look l s = some v) : (s, v) ∈ l := by
 induction l with
 | nil => cases h
 | cons x r ih =>
  obtain ⟨t, u⟩ := x
  simp only [look] at h
  split at h
  ·rename_i hb
   cases h
   rw [← Nat.eq_of_beq_eq_true hb]; exact .head _
  ·exact .tail _ (ih h)
theorem subKeys_spec {ks l : Keys} (h : subKeys ks l = true) : ∀ k ∈ ks, k ∈ l := by
 induction ks with
 | nil => intro k hk; cases hk
 | cons x r ih =>
  simp only [subKeys, Bool.and_eq_true, List.any_eq_true] at h
  obtain ⟨⟨m, hm, h1, h2⟩, h3⟩ := h
  intro k hk
  rcases List.mem_cons.1 hk with rfl | hk
  ·have e1 := Nat.eq_of_beq_eq_true h1
   have e2 : m.2 = k.2 := by simpa using h2
   have : m = k := Prod.ext e1 e2
   exact this ▸ hm
  ·exact ih h3 k hk
theorem opv_ok {st : St} {a : Act} {cur : Keys} (hwf : WF st) (hr : Rel st a) (hk : keysHold a cur) {x : Operand} {v : RV} (h : opv st cur x = some v) : RVok st.hp v := by
 cases x with
 | tmp t =>
  simp only [opv] at h
  split at h
  ·rename_i ks u hg
   split at h
   ·rename_i hs
    cases h
    rcases hr.gl _ _ _ hg with ⟨_, _, h1⟩ | ⟨h1, _⟩
    ·exact h1
    ·exact (h1 fun k hk' => hk k (subKeys_spec hs k hk')).elim
   ·cases h
  ·rename_i hg
   split at h
   ·rename_i u hl
    cases h; exact hwf.sl _ _ (look_mem hl)
   ·cases h
 | const u =>
  simp only [opv] at h; cases h
  unfold ofConst; split <;> trivial
 | global g => simp only [opv] at h; cases h; trivial
 | func f => simp only [opv] at h; cases h; trivial
theorem eval_opv {st : St} {a : Act} {cur : Keys} (hr : Rel st a) (hk : keysHold a cur) {x : Operand} {v : RV} (h : opv st cur x = some v) : a.eval x = v.den := by
 cases x with
 | tmp t =>
  simp only [opv] at h
  simp only [Act.eval, Array.getD_eq_getD_getElem?]
  split at h
  ·rename_i ks u hg
   split at h
   ·rename_i hs
    cases h
    rcases hr.gl t ks v hg with ⟨_, h1, _⟩ | ⟨h1, _⟩
    ·rw [h1]; rfl
    ·exact (h1 fun k hk' => hk k (subKeys_spec hs k hk')).elim
   ·cases h
  ·rename_i hg
   split at h
   ·rename_i u hl
    cases h
    rw [hr.sl t v hl]; rfl
   ·cases h
 | const u => simp only [opv] at h; cases h; simp [Act.eval, ofConst_den]
 | global g => simp only [opv] at h; cases h; rfl
 | func f => simp only [opv] at h; cases h; rfl
structure TI where
 kind : Nat
 size : Nat
 zero : List CV
 flds : List (Nat × Nat × Bool) := []
 elem : Nat := 0
 esize : Nat := 0
 ebytes : Nat := 0
 cmp : Bool := false
abbrev Tab := List (Nat × TI)
def TI.agg (ti : TI) : Bool := Nat.beq ti.kind 2
def zeroEq : Value → CV → Bool
 | .int .i64 n, .i m => n == m
 | .bool x, .b y => x == y
 | .slice none 0 0, .x (.slice none 0 0) => true
 | .string s, .x (.string t) => s.size == 0 && t.size == 0
 | .pointer none, .x (.pointer none) => true
 | .nilIface, .x .nilIface => true
 | .nilFunc, .x .nilFunc => true
 | .map none, .x (.map none) => true
 | .int .u8 n, .x (.int .u8 m) => n == m
 | .int .u64 n, .x (.int .u64 m) => n == m
 | _, _ => false
theorem zeroEq_spec {v : Value} {c : CV} (h : zeroEq v c = true) : v = c.den := by
 unfold zeroEq at h
 split at h <;> simp_all [CV.den]
def zerosEq : List Value → List CV → Bool
 | [], [] => true
 | v :: r, c :: q => zeroEq v c && zerosEq r q
 | _, _ => false
theorem zerosEq_spec : ∀ {l : List Value} {c : List CV}, zerosEq l c = true → l = dens c
 | [], [], _ => rfl
 | v :: r, c :: q, h => by
  simp only [zerosEq, Bool.and_eq_true] at h
  simp only [dens, List.map_cons, List.cons.injEq]
  exact ⟨zeroEq_spec h.1, zerosEq_spec h.2⟩
def mkSV (agg : Bool) (l : List CV) : Option SV :=
 match agg with
 | true => some (.agg l)
 | false => match l with
  | [c] => some (.c c)
  | _ => none
def isAggD : TypeDesc → Bool
 | .struct _ | .array _ _ => true
 | _ => false
def fldsOk (P : Program) : List Field → List (Nat × Nat × Bool) → Bool
 | [], [] => true
 | f :: r, (o, n, g) :: q => (f.offset == o) && (match P.info? f.type with | some j => (j.size == n) && (n != 0) | none => false) && (match P.underlying f.type with | some d => isAggD d == g | none => false) && fldsOk P r q
 | _, _ => false
def ik : IntKind → Nat
 | .i64 => 6
 | .u64 => 7
 | _ => 0
def cmpF (P : Program) (rec : TypeId → Option Nat) : List Field → Nat → Option Nat
 | [], o => some o
 | f :: r, o => if f.name ≠ "_" ∧ f.offset = o then
   match P.underlying f.type with
   | some (.int .i64) => cmpF P rec r (o + 1)
   | some (.struct _) => match rec f.type, P.info? f.type with
    | some n, some i => if i.size = n then cmpF P rec r (o + n) else none
    | _, _ => none
   | _ => none
  else none
def cmpB (P : Program) : Nat → TypeId → Option Nat
 | 0, _ => none
 | d + 1, t => match P.underlying t with
  | some (.struct fs) => match P.stoodInHeld t with
   | true => none
   | false => cmpF P (cmpB P d) fs.toList 0
  | _ => none
def cmpOk (P : Program) (t : TypeId) (n : Nat) : Bool := (cmpB P 8 t == some n) && !P.eqGuardType P.depth t
def chkTI (P : Program) (t : TypeId) (ti : TI) : Bool :=
 match P.info? t, P.underlying t with
 | some i, some d =>
  ((i.size == ti.size) && (ti.zero.length == ti.size)) && (match i.zero with | some z => zerosEq z.cells.toList ti.zero && (match z with | .agg _ => ti.agg | _ => !ti.agg) | none => false) && (isAggD d == ti.agg) &&
  (match d with
   | .struct fs => (ti.kind == 2) && (fldsOk P fs.toList ti.flds && (!ti.cmp || cmpOk P t ti.size))
   | .slice e => (ti.kind == 1) && (e == ti.elem) && (match P.info? e with | some j => (j.size == ti.esize) && (j.bytes == ti.ebytes) | none => false)
   | .string => ti.kind == 4
   | .bool => ti.kind == 5
   | .int k => ti.kind == ik k
   | _ => ti.kind == 0)
 | _, _ => false
def TabOk (P : Program) (tab : Tab) : Prop := ∀ t ti, look tab t = some ti → chkTI P t ti = true
theorem TabOk.of_all {P : Program} {tab : Tab} (h : tab.all (fun x => chkTI P x.1 x.2) = true) : TabOk P tab := by
 intro t ti hl
 induction tab with
 | nil => cases hl
 | cons x r ih =>
  obtain ⟨u, y⟩ := x
  simp only [List.all_cons, Bool.and_eq_true] at h
  simp only [look] at hl
  split at hl
  ·rename_i hb
   cases hl
   rw [← Nat.eq_of_beq_eq_true hb]; exact h.1
  ·exact ih h.2 hl
section
variable {P : Program} {t : TypeId} {ti : TI}
theorem chk_info (h : chkTI P t ti = true) : ∃ i d, P.info? t = some i ∧ P.underlying t = some d ∧ i.size = ti.size ∧ isAggD d = ti.agg ∧
  (∃ z, i.zero = some z ∧ z.cells.toList = dens ti.zero ∧ ti.zero.length = ti.size) := by
 unfold chkTI at h
 split at h
 ·rename_i i d hi hd
  simp only [Bool.and_eq_true, beq_iff_eq] at h
  obtain ⟨⟨⟨h1, h2⟩, h3⟩, h4⟩ := h
  refine ⟨i, d, hi, hd, h1.1, h3, ?_⟩
  split at h2
  ·rename_i z hz
   simp only [Bool.and_eq_true] at h2
   exact ⟨z, hz, zerosEq_spec h2.1, h1.2⟩
  ·cases h2
 ·cases h
theorem chk_slice (h : chkTI P t ti = true) (hk : Nat.beq ti.kind 1 = true) : P.underlying t = some (.slice ti.elem) ∧ ∃ j, P.info? ti.elem = some j ∧ j.size = ti.esize ∧ j.bytes = ti.ebytes := by
 have hk := Nat.eq_of_beq_eq_true hk
 unfold chkTI at h
 split at h
 ·rename_i i d hi hd
  simp only [Bool.and_eq_true, beq_iff_eq] at h
  obtain ⟨_, h4⟩ := h
  cases d with
  | int k => exfalso; cases k <;> simp [hk, ik] at h4
  | slice e =>
   simp [hk] at h4
   obtain ⟨h5, h6⟩ := h4
   split at h6
   ·rename_i j hj
    simp at h6
    subst h5
    exact ⟨hd, j, hj, h6.1, h6.2⟩
   ·cases h6
  | _ => simp [hk] at h4
 ·cases h
theorem fldsOk_spec : ∀ {fs : List Field} {l : List (Nat × Nat × Bool)}, fldsOk P fs l = true → ∀ (k : Nat) o n g, l[k]? = some (o, n, g) →
  ∃ f j d, fs[k]? = some f ∧ f.offset = o ∧ P.info? f.type = some j ∧ j.size = n ∧ n ≠ 0 ∧ P.underlying f.type = some d ∧ isAggD d = g
 | [], [], _, k, o, n, g, hl => by simp at hl
 | f :: r, (o, n, g) :: q, h, k, o', n', g', hl => by
  simp only [fldsOk, Bool.and_eq_true, beq_iff_eq] at h
  obtain ⟨⟨⟨h1, h2⟩, h3⟩, h4⟩ := h
  cases k with
  | zero =>
   simp at hl
   obtain ⟨rfl, rfl, rfl⟩ := hl
   split at h2
   ·rename_i j hj
    split at h3
    ·rename_i d hd
     simp at h2 h3
     exact ⟨f, j, d, by simp, h1, hj, h2.1, h2.2, hd, h3⟩
    ·cases h3
   ·cases h2
  | succ k => simpa using fldsOk_spec h4 k o' n' g' (by simpa using hl)
theorem chk_struct' (h : chkTI P t ti = true) (hk : Nat.beq ti.kind 2 = true) : ∃ fs, P.underlying t = some (.struct fs) ∧ fldsOk P fs.toList ti.flds = true ∧ (ti.cmp = true → cmpOk P t ti.size = true) := by
 have hk := Nat.eq_of_beq_eq_true hk
 unfold chkTI at h
 split at h
 ·rename_i i d hi hd
  simp only [Bool.and_eq_true, beq_iff_eq] at h
  obtain ⟨_, h4⟩ := h
  cases d with
  | int k => exfalso; cases k <;> simp [hk, ik] at h4
  | struct fs =>
   simp [hk] at h4
   exact ⟨_, hd, h4.1, fun hc => h4.2.resolve_left (by simp [hc])⟩
  | _ => simp [hk] at h4
 ·cases h
theorem chk_struct (h : chkTI P t ti = true) (hk : Nat.beq ti.kind 2 = true) : ∃ fs, P.underlying t = some (.struct fs) ∧ fldsOk P fs.toList ti.flds = true :=
 let ⟨fs, h1, h2, _⟩ := chk_struct' h hk; ⟨fs, h1, h2⟩
theorem chk_i64 (h : chkTI P t ti = true) (hk : Nat.beq ti.kind 6 = true) : P.underlying t = some (.int .i64) := by
 have hk := Nat.eq_of_beq_eq_true hk
 unfold chkTI at h
 split at h
 ·rename_i i d hi hd
  simp only [Bool.and_eq_true, beq_iff_eq] at h
  obtain ⟨_, h4⟩ := h
  cases d with
  | int k => cases k <;> first | exact hd | simp [hk, ik] at h4
  | _ => simp [hk] at h4
 ·cases h
theorem chk_u64 (h : chkTI P t ti = true) (hk : Nat.beq ti.kind 7 = true) : P.underlying t = some (.int .u64) := by
 have hk := Nat.eq_of_beq_eq_true hk
 unfold chkTI at h
 split at h
 ·rename_i i d hi hd
  simp only [Bool.and_eq_true, beq_iff_eq] at h
  obtain ⟨_, h4⟩ := h
  cases d with
  | int k => cases k <;> first | exact hd | simp [hk, ik] at h4
  | _ => simp [hk] at h4
 ·cases h
theorem chk_bool (h : chkTI P t ti = true) (hk : Nat.beq ti.kind 5 = true) : P.underlying t = some .bool := by
 have hk := Nat.eq_of_beq_eq_true hk
 unfold chkTI at h
 split at h
 ·rename_i i d hi hd
  simp only [Bool.and_eq_true, beq_iff_eq] at h
  obtain ⟨_, h4⟩ := h
  cases d with
  | int k => exfalso; cases k <;> simp [hk, ik] at h4
  | bool => exact hd
  | _ => simp [hk] at h4
 ·cases h
theorem chk_string (h : chkTI P t ti = true) (hk : Nat.beq ti.kind 4 = true) : P.underlying t = some .string := by
 have hk := Nat.eq_of_beq_eq_true hk
 unfold chkTI at h
 split at h
 ·rename_i i d hi hd
  simp only [Bool.and_eq_true, beq_iff_eq] at h
  obtain ⟨_, h4⟩ := h
  cases d with
  | int k => exfalso; cases k <;> simp [hk, ik] at h4
  | string => exact hd
  | _ => simp [hk] at h4
 ·cases h
end
def inR (n : Int) : Prop := -9223372036854775808 ≤ n ∧ n ≤ 9223372036854775807
theorem wrap_inR {n : Int} (h : inR n) : IntKind.i64.wrap n = n := IntWalk.i64_in n ⟨h.1, h.2⟩
def isSl (v : Value) : Prop := ∃ a n c, v = .slice a n c ∧ (a = none → n = 0 ∧ c = 0) ∧ n ≤ c
def slen : Value → Int
 | .slice (some _) n _ => n
 | _ => 0
def scap : Value → Int
 | .slice _ _ c => c
 | _ => 0
def subV (v : Value) (size : Nat) (lo hi : Int) : Value :=
 match v with
 | .slice a _ c => .slice (if c = lo.toNat then a else a.map (·.add (lo.toNat * size))) (hi.toNat - lo.toNat) (c - lo.toNat)
 | v => v
def isNilS : Value → Bool
 | .slice none _ _ => true
 | _ => false
def isStr (v : Value) : Prop := ∃ s, v = .string s
def strOf : Value → ByteArray
 | .string s => s
 | _ => ByteArray.empty
def RV.cells : RV → Option (List CV)
 | .s (.c v) => some [v]
 | .s (.agg l) => some l
 | .tup _ => none
def addOff : CV → Nat → Option CV
 | .p id blk o, n => some (.p id blk (o + n))
 | .e v size idx o, n => some (.e v size idx (o + n))
 | .r id v size idx o, n => some (.r id v size idx (o + n))
 | _, _ => none
def intBin (op : BinOp) (a b : Int) : Option (List Prop × RV) :=
 match op with
 | .add => some ([inR (a + b)], .s (.c (.i (a + b))))
 | .sub => some ([inR (a - b)], .s (.c (.i (a - b))))
 | .mul => some ([inR (a * b)], .s (.c (.i (a * b))))
 | .quo => some ([0 ≤ a, 0 < b, inR a], .s (.c (.i (a / b))))
 | .rem => some ([0 ≤ a, 0 < b], .s (.c (.i (a % b))))
 | .eql => some ([], .s (.c (.b (decide (a = b)))))
 | .neq => some ([], .s (.c (.b (!decide (a = b)))))
 | .lss => some ([], .s (.c (.b (decide (a < b)))))
 | .leq => some ([], .s (.c (.b (decide (a ≤ b)))))
 | .gtr => some ([], .s (.c (.b (decide (b < a)))))
 | .geq => some ([], .s (.c (.b (decide (b ≤ a)))))
 | _ => none
def eqC : List CV → List CV → Option Bool
 | [], [] => some true
 | .i a :: r, .i b :: q => match eqC r q with
  | some g => some (decide (a = b) && g)
  | none => none
 | _, _ => none
def optI (d : Int) : Option RV → Option Int
 | none => some d
 | some (.s (.c (.i n))) => some n
 | _ => none
def takeCells : Nat → Nat → List CV → Option (List CV)
 | 0, 0, _ => some []
 | 0, n + 1, c :: r => match takeCells 0 n r with
  | some l => some (c :: l)
  | none => none
 | o + 1, n, _ :: r => takeCells o n r
 | _, _, _ => none
def setCells : Nat → List CV → List CV → Option (List CV)
 | 0, [], cs => some cs
 | 0, x :: l, _ :: cs => match setCells 0 l cs with
  | some r => some (x :: r)
  | none => none
 | o + 1, l, c :: cs => match setCells o l cs with
  | some r => some (c :: r)
  | none => none
 | _, _, _ => none
theorem setCells_spec : ∀ {o : Nat} {l cs r : List CV}, setCells o l cs = some r → r = cs.take o ++ l ++ cs.drop (o + l.length) ∧ o + l.length ≤ cs.length
 | 0, [], cs, r, h => by cases cs <;> (simp [setCells] at h; subst h; simp)
 | 0, x :: l, [], r, h => by simp [setCells] at h
 | 0, x :: l, c :: cs, r, h => by
  simp only [setCells] at h
  split at h
  ·rename_i q hq
   cases h
   obtain ⟨h1, h2⟩ := setCells_spec hq
   subst h1
   refine ⟨by simp, by simp at h2 ⊢; omega⟩
  ·cases h
 | o + 1, l, [], r, h => by cases l <;> simp [setCells] at h
 | o + 1, l, c :: cs, r, h => by
  have h' : (match setCells o l cs with | some r => some (c :: r) | none => none) = some r := by cases l <;> simpa [setCells] using h
  split at h'
  ·rename_i q hq
   cases h'
   obtain ⟨h1, h2⟩ := setCells_spec hq
   subst h1
   refine ⟨by simp [Nat.add_right_comm o 1], by simp at h2 ⊢; omega⟩
  ·cases h'
def oneObs : List CV → List Prop
 | [] => []
 | .x v :: r => (v.oneCell' = true) :: oneObs r
 | _ :: r => oneObs r
theorem oneObs_spec {hp : List (Nat × LO)} : ∀ {l : List CV}, (∀ p ∈ oneObs l, p) → (∀ c ∈ l, CVok hp c) → ∀ v ∈ dens l, v.oneCell' = true
 | [], _, _, v, hv => by cases hv
 | c :: r, h, hok, v, hv => by
  have hr : ∀ p ∈ oneObs r, p := fun p hp => h p (by cases c <;> simp [oneObs, hp])
  rcases List.mem_cons.1 hv with e | hv
  ·subst e
   cases c with
   | x u => exact h (u.oneCell' = true) (by simp [oneObs])
   | e u s i o =>
    simp only [CV.den, elemPtr]
    split <;> rfl
   | r id u s i o =>
    simp only [CV.den, elemPtr]
    split <;> rfl
   | o id u =>
    obtain ⟨a, n, q, rfl⟩ := hok _ (List.mem_cons_self ..)
    rfl
   | _ => rfl
  ·exact oneObs_spec hr (fun c hc => hok c (List.mem_cons_of_mem _ hc)) v hv
def cellsOfRV : RV → Option (List CV)
 | .s (.c v) => some [v]
 | .s (.agg l) => some l
 | .tup _ => none
theorem cells_eq {v : RV} {l : List CV} (hl : cellsOfRV v = some l) (hone : ∀ u ∈ dens l, u.oneCell' = true) : v.den.cells = (dens l).toArray := by
 unfold cellsOfRV at hl
 split at hl
 ·rename_i c
  cases hl
  have := hone c.den (by simp [dens])
  simp only [RV.den, SV.den, dens, List.map_cons, List.map_nil]
  generalize c.den = u at this
  cases u <;> first | rfl | simp [Value.oneCell'] at this
 ·cases hl; rfl
 ·cases hl
theorem cells_ok {hp : List (Nat × LO)} {v : RV} {l : List CV} (hl : cellsOfRV v = some l) (hv : RVok hp v) : ∀ c ∈ l, CVok hp c := by
 unfold cellsOfRV at hl
 split at hl
 ·cases hl; intro c hc; simp only [List.mem_singleton] at hc; subst hc; exact hv
 ·cases hl; exact hv
 ·cases hl
theorem foldl_set : ∀ (l : List Value) (s off : Nat) (cs : Array Value), off + s + l.length ≤ cs.size →
  ((l.zipIdx s).foldl (fun cs (x : Value × Nat) => cs.setIfInBounds (off + x.2) x.1) cs).toList = cs.toList.take (off + s) ++ l ++ cs.toList.drop (off + s + l.length)
 | [], s, off, cs, h => by simp
 | x :: l, s, off, cs, h => by
  simp only [List.length_cons] at h
  simp only [List.zipIdx_cons, List.foldl_cons]
  rw [foldl_set l (s + 1) off _ (by simp; omega)]
  simp only [Array.toList_setIfInBounds, List.length_cons]
  have hlt : off + s < cs.toList.length := by simp; omega
  rw [List.take_set, List.drop_set_of_lt (by omega)]
  rw [show off + (s + 1) = (off + s) + 1 by omega, List.take_add_one, List.set_append_right _ _ (by rw [List.length_take]; omega)]
  have e1 : (List.take (off + s) cs.toList).length = off + s := by rw [List.length_take]; omega
  rw [e1, Nat.sub_self, List.getElem?_eq_getElem hlt]
  simp [Nat.add_assoc, Nat.add_comm 1 l.length]
theorem fill_one {place : Nat → Option (Nat × Nat)} {i off size : Nat} (hp : place i = some (off, size)) (v : Value) (cells : Array Value) (rest : List (Nat × Value)) (hs : v.cells.size = size) (hf : off + size ≤ cells.size) :
  Instr.fill place cells ((i, v) :: rest) = Instr.fill place (cells.toList.take off ++ v.cells.toList ++ cells.toList.drop (off + size)).toArray rest := by
 simp only [Instr.fill, hp, hs]
 rw [if_neg (by simp; omega)]
 congr 1
 apply Array.ext'
 have := foldl_set v.cells.toList 0 off cells (by simp; omega)
 simp only [Nat.add_zero, Array.length_toList, hs] at this
 rw [← this, ← Array.foldl_toList, Array.toList_zipIdx]
def bldS (st : St) (cur : Keys) (flds : List (Nat × Nat × Bool)) : List (Nat × Operand) → List Prop → List CV → Option (List Prop × List CV)
 | [], obs, acc => some (obs, acc)
 | (i, x) :: r, obs, acc => match opv st cur x with
  | some v => match cellsOfRV v, flds[i]? with
   | some l, some (o, n, _) => match Nat.beq l.length n, setCells o l acc with
    | true, some acc' => bldS st cur flds r (oneObs l ++ obs) acc'
    | _, _ => none
   | _, _ => none
  | none => none
def opds (st : St) (cur : Keys) : List Operand → Option (List Value)
 | [] => some []
 | x :: r => match opv st cur x, opds st cur r with
  | some v, some l => some (v.den :: l)
  | _, _ => none
def opvO (st : St) (cur : Keys) : Option Operand → Option (Option RV)
 | none => some none
 | some x => match opv st cur x with
  | some v => some (some v)
  | none => none
def pickRV (g : Bool) : RV → RV → Option RV
 | .s (.c (.b x)), .s (.c (.b y)) => some (.s (.c (.b (bif g then x else y))))
 | .s (.c (.i x)), .s (.c (.i y)) => some (.s (.c (.i (bif g then x else y))))
 | _, _ => none
def pickKeys (c : Operand) (g : Bool) (cur : Keys) : Keys :=
 match c with
 | .tmp t => (t, g) :: cur
 | _ => cur
def xBin (tab : Tab) (op : BinOp) (t : TypeId) (v u : Value) : Option (List Prop × RV) :=
 match u with
 | .int .u64 b => match v with
  | .int .u64 a => match op with
   | .shr => some ([b = 1, 0 ≤ a], .s (.c (.x (.int .u64 (a / 2)))))
   | .gtr => some ([], .s (.c (.b (decide (b < a)))))
   | _ => none
  | _ => none
 | .int .u8 b => match v with
  | .int .u8 a => match op with
   | .rem => some ([0 ≤ a, 0 < b], .s (.c (.x (.int .u8 (a % b)))))
   | _ => none
  | _ => none
 | .slice none 0 0 => match look tab t with
  | some ti => match Nat.beq ti.kind 1, op with
   | true, .eql => some ([isSl v], .s (.c (.b (isNilS v))))
   | true, .neq => some ([isSl v], .s (.c (.b (!isNilS v))))
   | _, _ => none
  | none => none
 | _ => none
def pev (tab : Tab) (st : St) (hp : List (Nat × LO)) (cur : Keys) : Op → Option (List Prop × RV)
 | .move x => match opv st cur x with
  | some v => some ([], v)
  | none => none
 | .assign x => match opv st cur x with
  | some v => some ([], v)
  | none => none
 | .pick c x y => match opv st cur c with
  | some (.s (.c (.b g))) => match opv st (pickKeys c true cur) x, opv st (pickKeys c false cur) y with
   | some u, some v => match pickRV g u v with
    | some r => some ([], r)
    | none => none
   | _, _ => none
  | _ => none
 | .binOp op t x y _ => match opv st cur x, opv st cur y with
  | some (.s (.c (.i a))), some (.s (.c (.i b))) => intBin op a b
  | some (.s (.c (.b a))), some (.s (.c (.b b))) => match look tab t with
   | some ti => match Nat.beq ti.kind 5, op with
    | true, .eql => some ([], .s (.c (.b (a == b))))
    | true, .neq => some ([], .s (.c (.b (a != b))))
    | _, _ => none
   | none => none
  | some (.s (.agg l)), some (.s (.agg l')) => match look tab t with
   | some ti => match Nat.beq ti.kind 2, ti.cmp, Nat.beq l.length ti.size, eqC l l', op with
    | true, true, true, some g, .eql => some ([], .s (.c (.b g)))
    | true, true, true, some g, .neq => some ([], .s (.c (.b (!g))))
    | _, _, _, _, _ => none
   | none => none
  | some (.s (.c (.x v))), some (.s (.c (.x u))) => xBin tab op t v u
  | some (.s (.c (.o _ v))), some (.s (.c (.x (.slice none 0 0)))) => match look tab t with
   | some ti => match Nat.beq ti.kind 1, op with
    | true, .eql => some ([], .s (.c (.b (isNilS v))))
    | true, .neq => some ([], .s (.c (.b (!isNilS v))))
    | _, _ => none
   | none => none
  | _, _ => none
 | .unOp op _ x => match op, opv st cur x with
  | .not, some (.s (.c (.b a))) => some ([], .s (.c (.b (!a))))
  | .neg, some (.s (.c (.i a))) => some ([inR (0 - a)], .s (.c (.i (0 - a))))
  | _, _ => none
 | .extract t ix => match opv st cur t with
  | some (.tup l) => match l[ix]? with
   | some v => some ([], .s v)
   | none => none
  | _ => none
 | .nilCheck x => match opv st cur x with
  | some (.s (.c (.p id blk o))) => some ([], .s (.c (.p id blk o)))
  | some (.s (.c (.r id v size idx off))) => some ([], .s (.c (.r id v size idx off)))
  | some (.s (.c (.e v size idx off))) => some ([], .s (.c (.e v size idx off)))
  | _ => none
 | .fieldAddr s x f => match look tab s, opv st cur x with
  | some ti, some (.s (.c v)) => match Nat.beq ti.kind 2, ti.flds[f]? with
   | true, some (o, _, _) => match addOff v o with
    | some u => some ([], .s (.c u))
    | none => none
   | _, _ => none
  | _, _ => none
 | .indexAddr t x ix => match look tab t, opv st cur x, opv st cur ix with
  | some ti, some (.s (.c (.x v))), some (.s (.c (.i n))) => match Nat.beq ti.kind 1 with
   | true => some ([0 ≤ n, n < slen v], .s (.c (.e v ti.esize n 0)))
   | false => none
  | some ti, some (.s (.c (.o id v))), some (.s (.c (.i n))) => match Nat.beq ti.kind 1, look hp id with
   | true, some (.row v0 _ size L) => match Nat.beq size ti.esize with
    | true => some ([v = v0, 0 ≤ n, n < L.length], .s (.c (.r id v size n 0)))
    | false => none
   | _, _ => none
  | _, _, _ => none
 | .load t x => match look tab t, opv st cur x with
  | some ti, some (.s (.c (.p id _ o))) => match look hp id with
   | some (.box _ _ cells) => match takeCells o ti.size cells with
    | some l => match mkSV ti.agg l with
     | some v => some ([], .s v)
     | none => none
    | none => none
   | _ => none
  | _, _ => none
 | .build t parts => match look tab t with
  | some ti => match Nat.beq ti.kind 2, bldS st cur ti.flds parts.toList [] ti.zero with
   | true, some (obs, l) => some (obs, .s (.agg l))
   | _, _ => none
  | none => none
 | .field t x f => match look tab t, opv st cur x with
  | some ti, some (.s (.agg l)) => match Nat.beq ti.kind 2, ti.flds[f]? with
   | true, some (o, n, g) => match takeCells o n l with
    | some l' => match mkSV g l' with
     | some v => some ([], .s v)
     | none => none
    | none => none
   | _, _ => none
  | _, _ => none
 | .convert src dst x => match look tab src, look tab dst, opv st cur x with
  | some ti, some tj, some (.s (.c (.i n))) => match Nat.beq ti.kind 6, Nat.beq tj.kind 6, Nat.beq tj.kind 7 with
   | true, true, _ => some ([inR n], .s (.c (.i n)))
   | true, false, true => some ([0 ≤ n, inR n], .s (.c (.x (.int .u64 n))))
   | _, _, _ => none
  | some ti, some tj, some (.s (.c (.x (.int k n)))) => match Nat.beq tj.kind 6 with
   | true => some ([inR n], .s (.c (.i n)))
   | _ => none
  | _, _, _ => none
 | .slice t x lo hi none => match look tab t, opv st cur x with
  | some ti, some (.s (.c (.x v))) => match Nat.beq ti.kind 1, opvO st cur lo, opvO st cur hi with
   | true, some l, some h => match optI 0 l, optI (slen v) h with
    | some n, some m => some ([isSl v, 0 ≤ n, n ≤ m, m ≤ slen v], .s (.c (.x (subV v ti.esize n m))))
    | _, _ => none
   | _, _, _ => none
  | some ti, some (.s (.c (.o id v))) => match Nat.beq ti.kind 1, opvO st cur lo, opvO st cur hi, look hp id with
   | true, some l, some h, some (.row v0 _ size L) => match optI 0 l, optI L.length h, Nat.beq size ti.esize with
    | some n, some m, true => some ([v = v0, 0 ≤ n, n ≤ m, m ≤ L.length ∨ m ≤ scap v], .s (.c (.x (subV v size n m))))
    | _, _, _ => none
   | _, _, _, _ => none
  | _, _ => none
 | .makeFunc (.func f) first caps => match opds st cur first.toList, opds st cur caps.toList with
  | some l, some l' => some ([], .s (.c (.x (.func (.func f) l.toArray l'.toArray))))
  | _, _ => none
 | .call c => match c.callee, c.args.toList, c.argTypes.toList with
  | .builtin .len, [x], [t] => match look tab t, opv st cur x with
   | some ti, some (.s (.c (.x v))) => match Nat.beq ti.kind 1, Nat.beq ti.kind 4 with
    | true, _ => some ([isSl v], .s (.c (.i (slen v))))
    | _, true => some ([isStr v], .s (.c (.i (strOf v).size)))
    | _, _ => none
   | some ti, some (.s (.c (.o id v))) => match Nat.beq ti.kind 1, look hp id with
    | true, some (.row v0 _ _ L) => some ([v = v0], .s (.c (.i L.length)))
    | _, _ => none
   | _, _ => none
  | .builtin .cap, [x], [t] => match look tab t, opv st cur x with
   | some ti, some (.s (.c (.o id v))) => match Nat.beq ti.kind 1, look hp id with
    | true, some (.row v0 _ _ L) => some ([v = v0], .s (.c (.i (scap v))))
    | _, _ => none
   | _, _ => none
  | .builtin .max, [x, y], _ => match opv st cur x, opv st cur y with
   | some (.s (.c (.i a))), some (.s (.c (.i b))) => some ([], .s (.c (.i (max a b))))
   | _, _ => none
  | .builtin .min, [x, y], _ => match opv st cur x, opv st cur y with
   | some (.s (.c (.i a))), some (.s (.c (.i b))) => some ([], .s (.c (.i (min a b))))
   | _, _ => none
  | _, _, _ => none
 | _ => none
theorem takeCells_spec : ∀ {o n : Nat} {cells l : List CV}, takeCells o n cells = some l → l.length = n ∧ ∀ j, j < n → cells[o + j]? = l[j]?
 | 0, 0, cells, l, h => by cases cells <;> (simp [takeCells] at h; subst h; simp)
 | 0, n + 1, [], l, h => by simp [takeCells] at h
 | 0, n + 1, c :: r, l, h => by
  simp only [takeCells] at h
  split at h
  ·rename_i q hq
   cases h
   obtain ⟨h1, h2⟩ := takeCells_spec hq
   refine ⟨by simp [h1], fun j hj => ?_⟩
   cases j with
   | zero => simp
   | succ j => have := h2 j (by omega); simp only [Nat.zero_add] at this ⊢; simpa using this
  ·cases h
 | o + 1, n, [], l, h => by cases n <;> simp [takeCells] at h
 | o + 1, n, c :: r, l, h => by
  have h' : takeCells o n r = some l := by cases n <;> simpa [takeCells] using h
  obtain ⟨h1, h2⟩ := takeCells_spec h'
  refine ⟨h1, fun j hj => ?_⟩
  have := h2 j hj
  rw [show o + 1 + j = (o + j) + 1 by omega]
  simpa using this
end Go.Vd
namespace Go.Vd
open Go.RowKit
theorem ok_isAgg {P : Program} {t : TypeId} {d : TypeDesc} (h : P.underlying t = some d) (w : World) : (isAgg t).run P w = .ok (isAggD d) w := by
 cases d <;> simp [isAgg, run_underlying h, isAggD]
theorem ok_sizeOf {P : Program} {t : TypeId} {i : TypeInfo} (h : P.info? t = some i) (w : World) : (sizeOf t).run P w = .ok i.size w := by
 simp [sizeOf, typeInfo, h]
theorem ok_zeroValue {P : Program} {t : TypeId} {i : TypeInfo} {z : Value} (h : P.info? t = some i) (hz : i.zero = some z) (w : World) : (zeroValue t).run P w = .ok z w := by
 simp [zeroValue, typeInfo, h, hz]
theorem ok_loadVar {P : Program} {t : TypeId} {ti : TI} (hc : chkTI P t ti = true) {a : Addr} {l : List CV} {v : SV} (hl : l.length = ti.size) (hv : mkSV ti.agg l = some v) {w : World}
  (h : ∀ j u, (dens l)[j]? = some u → w.cell? (a.add j) = some u) : (loadVar t a).run P w = .ok v.den w := by
 obtain ⟨i, d, hi, hd, hs, hg, _⟩ := chk_info hc
 have e := run_loadCells_list (P := P) (w := w) a (dens l) h
 have hlen : (dens l).length = ti.size := by simp [dens, hl]
 unfold loadVar
 simp only [Sem.run_bind, ok_isAgg hd, Result.andThen_ok, hg]
 cases hag : ti.agg
 ·rw [hag] at hv
  simp only [mkSV] at hv
  split at hv
  ·rename_i c
   cases hv
   have := h 0 c.den (by simp [dens])
   simp [SV.den, Addr.add] at this ⊢
   simp [this]
  ·cases hv
 ·rw [hag] at hv
  simp only [mkSV] at hv
  cases hv
  simp only [if_true, Sem.run_bind, ok_sizeOf hi, Result.andThen_ok, hs, ← hlen, e, Sem.run_pure, SV.den]
theorem addOff_den {v u : CV} {n : Nat} (h : addOff v n = some u) : ∀ a, v.den = .pointer (some a) → u.den = .pointer (some (a.add n)) := by
 intro a ha
 cases v with
 | p id blk o =>
  simp only [addOff] at h; cases h
  simp only [CV.den, Value.pointer.injEq, Option.some.injEq] at ha ⊢
  subst ha
  unfold Addr.add
  by_cases h0 : n = 0
  ·simp [h0]
  ·simp [h0]
 | e v size idx o =>
  simp only [addOff] at h; cases h
  simp only [CV.den, elemPtr] at ha ⊢
  split at ha
  ·rename_i b _ _
   simp only [Value.pointer.injEq, Option.some.injEq] at ha ⊢
   subst ha
   unfold elemAddr Addr.add
   by_cases h0 : n = 0
   ·simp [h0]
   ·by_cases h1 : o = 0
    ·simp [h0, h1]
    ·simp [h0, h1, Nat.add_assoc]
  ·simp at ha
 | r id v size idx o =>
  simp only [addOff] at h; cases h
  simp only [CV.den, elemPtr] at ha ⊢
  split at ha
  ·rename_i b _ _
   simp only [Value.pointer.injEq, Option.some.injEq] at ha ⊢
   subst ha
   unfold elemAddr Addr.add
   by_cases h0 : n = 0
   ·simp [h0]
   ·by_cases h1 : o = 0
    ·simp [h0, h1]
    ·simp [h0, h1, Nat.add_assoc]
  ·simp at ha
 | i _ => simp [addOff] at h
 | b _ => simp [addOff] at h
 | x _ => simp [addOff] at h
 | o _ _ => simp [addOff] at h
 | q _ _ _ => simp [addOff] at h
theorem intBin_ok {P : Program} {op : BinOp} {t : TypeId} {a b : Int} {obs : List Prop} {v : RV} (h : intBin op a b = some (obs, v)) (ho : ∀ p ∈ obs, p) (w : World) :
  (binOp op t (.int .i64 a) (.int .i64 b)).run P w = .ok v.den w := by
 cases op <;> simp only [intBin] at h <;> (try (cases h)) <;> simp only [List.mem_cons, List.not_mem_nil, or_false, forall_eq_or_imp, forall_eq, false_implies, implies_true] at ho
 case add => simp [binOp, Op.intArith, wrap_inR ho, RV.den, SV.den, CV.den]
 case sub => simp [binOp, Op.intArith, wrap_inR ho, RV.den, SV.den, CV.den]
 case mul => simp [binOp, Op.intArith, wrap_inR ho, RV.den, SV.den, CV.den]
 case quo =>
  obtain ⟨h0, h1, h2⟩ := ho
  have hb : b ≠ 0 := by omega
  have e1 : a.tdiv b = a / b := Int.tdiv_eq_ediv_of_nonneg h0
  have h3 := Int.ediv_nonneg h0 (b := b) (by omega)
  have h4 := Int.ediv_le_self b h0
  have e2 : IntKind.i64.wrap (a / b) = a / b := wrap_inR ⟨by have := h2.1; omega, by have := h2.2; omega⟩
  simp [binOp, Op.intDiv, hb, e1, e2, RV.den, SV.den, CV.den]
 case rem =>
  obtain ⟨h0, h1⟩ := ho
  have hb : b ≠ 0 := by omega
  have e1 : a.tmod b = a % b := Int.tmod_eq_emod_of_nonneg h0
  simp [binOp, Op.intDiv, hb, e1, RV.den, SV.den, CV.den]
 all_goals (simp [binOp, Op.intCmp, RV.den, SV.den, CV.den]; try rfl)
theorem eqGuard_int {P : Program} {op : BinOp} {t : TypeId} {x y : Operand} {k k' : IntKind} {a b : Int} (w : World) : (eqGuard op t x y (.int k a) (.int k' b)).run P w = .ok () w := by
 cases op <;> simp [eqGuard]
theorem eqGuard_bool {P : Program} {op : BinOp} {t : TypeId} {x y : Operand} {a b : Bool} (w : World) : (eqGuard op t x y (.bool a) (.bool b)).run P w = .ok () w := by
 cases op <;> simp [eqGuard]
theorem equalIn_bool {P : Program} {t : TypeId} {m n : Bool} (d : Nat) (hu : P.underlying t = some .bool) (w : World) : (Op.equalIn (d + 1) t (.bool m) (.bool n)).run P w = .ok (m == n) w := by
 rw [Op.equalIn]
 simp only [Sem.run_bind, run_underlying hu, Result.andThen_ok, Sem.run_pure]
theorem eql_bool {P : Program} {t : TypeId} {m n : Bool} (hu : P.underlying t = some .bool) (w : World) : (binOp .eql t (.bool m) (.bool n)).run P w = .ok (.bool (m == n)) w := by
 have := equalIn_bool (P := P) (m := m) (n := n) 9999 hu w
 simp only [binOp, Op.equal, Op.maxDepth, Sem.run_bind, this, Result.andThen_ok, Sem.run_pure]
theorem equalIn_nil {P : Program} {t e : TypeId} {a : Option Addr} {n c : Nat} (d : Nat) (hu : P.underlying t = some (.slice e)) (w : World) : (Op.equalIn (d + 1) t (.slice a n c) (.slice none 0 0)).run P w = .ok (isNilS (.slice a n c)) w := by
 rw [Op.equalIn]
 cases a <;> simp only [Sem.run_bind, run_underlying hu, Result.andThen_ok, Sem.run_pure, isNilS, Option.isNone]
theorem eql_nil {P : Program} {t e : TypeId} {a : Option Addr} {n c : Nat} (hu : P.underlying t = some (.slice e)) (w : World) : (binOp .eql t (.slice a n c) (.slice none 0 0)).run P w = .ok (.bool (isNilS (.slice a n c))) w := by
 have := equalIn_nil (P := P) (a := a) (n := n) (c := c) 9999 hu w
 simp only [binOp, Op.equal, Op.maxDepth, Sem.run_bind, this, Result.andThen_ok, Sem.run_pure]
theorem neq_nil {P : Program} {t e : TypeId} {a : Option Addr} {n c : Nat} (hu : P.underlying t = some (.slice e)) (w : World) : (binOp .neq t (.slice a n c) (.slice none 0 0)).run P w = .ok (.bool (!isNilS (.slice a n c))) w := by
 have := equalIn_nil (P := P) (a := a) (n := n) (c := c) 9999 hu w
 simp only [binOp, Op.equal, Op.maxDepth, Sem.run_bind, this, Result.andThen_ok, Sem.run_pure]
theorem eqGuard_slice {P : Program} {op : BinOp} {t : TypeId} {x y : Operand} {a b : Option Addr} {n c n' c' : Nat} (w : World) : (eqGuard op t x y (.slice a n c) (.slice b n' c')).run P w = .ok () w := by
 cases op <;> simp [eqGuard]
theorem neq_bool {P : Program} {t : TypeId} {m n : Bool} (hu : P.underlying t = some .bool) (w : World) : (binOp .neq t (.bool m) (.bool n)).run P w = .ok (.bool (m != n)) w := by
 have := equalIn_bool (P := P) (m := m) (n := n) 9999 hu w
 simp only [binOp, Op.equal, Op.maxDepth, Sem.run_bind, this, Result.andThen_ok, Sem.run_pure]
 rfl
def ints (xs : List Int) : Array Value := (xs.map (Value.int .i64)).toArray
theorem eqC_spec : ∀ {l l' : List CV} {g : Bool}, eqC l l' = some g → ∃ xs ys : List Int, dens l = xs.map (Value.int .i64) ∧ dens l' = ys.map (Value.int .i64) ∧ xs.length = ys.length ∧ g = decide (xs = ys)
 | [], [], g, h => by simp only [eqC] at h; cases h; exact ⟨[], [], rfl, rfl, rfl, by simp⟩
 | .i a :: r, .i b :: q, g, h => by
  simp only [eqC] at h
  split at h
  ·rename_i g' hg
   cases h
   obtain ⟨xs, ys, h1, h2, h3, h4⟩ := eqC_spec hg
   refine ⟨a :: xs, b :: ys, ?_, ?_, by simp [h3], by simp [h4]⟩
   ·simp only [dens, List.map_cons, CV.den]; rw [← h1]; rfl
   ·simp only [dens, List.map_cons, CV.den]; rw [← h2]; rfl
  ·cases h
 | [], _ :: _, g, h => by simp [eqC] at h
 | _ :: _, [], g, h => by simp [eqC] at h
 | .b _ :: _, c :: _, g, h => by cases c <;> simp [eqC] at h
 | .x _ :: _, c :: _, g, h => by cases c <;> simp [eqC] at h
 | .p _ _ _ :: _, c :: _, g, h => by cases c <;> simp [eqC] at h
 | .e _ _ _ _ :: _, c :: _, g, h => by cases c <;> simp [eqC] at h
 | .o _ _ :: _, c :: _, g, h => by cases c <;> simp [eqC] at h
 | .r _ _ _ _ _ :: _, c :: _, g, h => by cases c <;> simp [eqC] at h
 | .q _ _ _ :: _, c :: _, g, h => by cases c <;> simp [eqC] at h
 | .i _ :: _, .b _ :: _, g, h => by simp [eqC] at h
 | .i _ :: _, .x _ :: _, g, h => by simp [eqC] at h
 | .i _ :: _, .p _ _ _ :: _, g, h => by simp [eqC] at h
 | .i _ :: _, .e _ _ _ _ :: _, g, h => by simp [eqC] at h
 | .i _ :: _, .o _ _ :: _, g, h => by simp [eqC] at h
 | .i _ :: _, .r _ _ _ _ _ :: _, g, h => by simp [eqC] at h
 | .i _ :: _, .q _ _ _ :: _, g, h => by simp [eqC] at h
theorem part_int {P : Program} {t : TypeId} {k : IntKind} (ht : P.underlying t = some (.int k)) {xs : List Int} {o : Nat} {x : Int} (hx : xs[o]? = some x) (w : World) : (part t (ints xs) o).run P w = .ok (.int .i64 x) w := by
 unfold part
 simp only [Sem.run_bind, ok_isAgg ht, Result.andThen_ok, isAggD]
 simp [ints, hx]
theorem part_struct {P : Program} {t : TypeId} {fs : Array Field} {i : TypeInfo} (ht : P.underlying t = some (.struct fs)) (hi : P.info? t = some i) (xs : List Int) (o : Nat) (w : World) : (part t (ints xs) o).run P w = .ok (.agg (ints ((xs.drop o).take i.size))) w := by
 unfold part
 simp only [Sem.run_bind, ok_isAgg ht, Result.andThen_ok, isAggD, if_true, ok_sizeOf hi, Sem.run_pure, ints]
 congr 2
 apply Array.ext'
 simp [List.map_take, List.map_drop]
theorem decide_split {xs ys : List Int} {o n : Nat} (h : xs.length = ys.length) : decide (xs.drop o = ys.drop o) = (decide ((xs.drop o).take n = (ys.drop o).take n) && decide (xs.drop (o + n) = ys.drop (o + n))) := by
 rw [Bool.eq_iff_iff]
 simp only [Bool.and_eq_true, decide_eq_true_eq]
 constructor
 ·intro e; rw [e, ← List.drop_drop, e, List.drop_drop]; exact ⟨rfl, rfl⟩
 ·rintro ⟨h1, h2⟩
  rw [← List.take_append_drop n (xs.drop o), ← List.take_append_drop n (ys.drop o), h1, List.drop_drop, List.drop_drop, h2]
theorem cmpF_eq {P : Program} {d : Nat} {rec : TypeId → Option Nat} (hrec : ∀ t n, rec t = some n → ∀ (xs ys : List Int), xs.length = n → ys.length = n → ∀ w, (Op.equalIn d t (.agg (ints xs)) (.agg (ints ys))).run P w = .ok (decide (xs = ys)) w) (hd : 0 < d) :
  ∀ {fs : List Field} {o n : Nat}, cmpF P rec fs o = some n → ∀ (xs ys : List Int), xs.length = n → ys.length = n → ∀ w, o ≤ n ∧ (Op.eqFields d (ints xs) (ints ys) fs).run P w = .ok (decide (xs.drop o = ys.drop o)) w
 | [], o, n, h, xs, ys, hx, hy, w => by
  simp only [cmpF] at h; cases h
  refine ⟨Nat.le_refl _, ?_⟩
  rw [List.drop_eq_nil_of_le (by omega), List.drop_eq_nil_of_le (by omega)]
  simp [Op.eqFields]
 | f :: r, o, n, h, xs, ys, hx, hy, w => by
  simp only [cmpF] at h
  split at h
  ·rename_i hc
   obtain ⟨hname, hoff⟩ := hc
   split at h
   ·rename_i hu
    have ih := cmpF_eq hrec hd h xs ys hx hy w
    refine ⟨by omega, ?_⟩
    obtain ⟨x, ex⟩ : ∃ x, xs[o]? = some x := ⟨_, List.getElem?_eq_getElem (by omega)⟩
    obtain ⟨y, ey⟩ : ∃ y, ys[o]? = some y := ⟨_, List.getElem?_eq_getElem (by omega)⟩
    obtain ⟨d', rfl⟩ : ∃ d', d = d' + 1 := ⟨d - 1, by omega⟩
    simp only [Op.eqFields, hname, ne_eq, not_false_eq_true, if_true, hoff, Sem.run_bind, part_int hu ex, part_int hu ey, Result.andThen_ok, run_equalIn_int w d' f.type .i64 .i64 x y hu]
    rw [decide_split (n := 1) (by omega)]
    have tx : (xs.drop o).take 1 = [x] := by rw [List.take_one, List.head?_drop, ex]; rfl
    have ty : (ys.drop o).take 1 = [y] := by rw [List.take_one, List.head?_drop, ey]; rfl
    rw [tx, ty]
    by_cases hxy : x = y
    ·subst hxy; simp [ih.2]
    ·simp [hxy]
   ·rename_i fs' hu
    split at h
    ·rename_i m i hm hi
     split at h
     ·rename_i hsz
      have ih := cmpF_eq hrec hd h xs ys hx hy w
      refine ⟨by omega, ?_⟩
      have e := hrec _ _ hm ((xs.drop o).take m) ((ys.drop o).take m) (by simp; omega) (by simp; omega) w
      simp only [Op.eqFields, hname, ne_eq, not_false_eq_true, if_true, hoff, Sem.run_bind, part_struct hu hi, Result.andThen_ok, hsz, e]
      rw [decide_split (n := m) (by omega)]
      by_cases hxy : (xs.drop o).take m = (ys.drop o).take m
      ·simp [hxy, ih.2]
      ·simp [hxy]
     ·cases h
    ·cases h
   ·cases h
  ·cases h
theorem cmpB_eq {P : Program} : ∀ {d : Nat} {t : TypeId} {n : Nat}, cmpB P d t = some n → ∀ k, 0 < k → ∀ (xs ys : List Int), xs.length = n → ys.length = n → ∀ w, (Op.equalIn (d + k) t (.agg (ints xs)) (.agg (ints ys))).run P w = .ok (decide (xs = ys)) w
 | 0, t, n, h, k, hk, xs, ys, hx, hy, w => by simp [cmpB] at h
 | d + 1, t, n, h, k, hk, xs, ys, hx, hy, w => by
  simp only [cmpB] at h
  split at h
  ·rename_i fs hu
   split at h
   ·cases h
   ·rename_i hst
    have hfo : P.fieldsOf t = fs := by unfold Program.fieldsOf; rw [hu]
    rw [show d + 1 + k = (d + k) + 1 by omega, run_equalIn_struct w (d + k) t _ _ (by rw [hfo]; exact hu) hst, hfo]
    have := (cmpF_eq (P := P) (d := d + k) (rec := cmpB P d) (fun t n h xs ys hx hy w => cmpB_eq h k hk xs ys hx hy w) (by omega) h xs ys hx hy w).2
    simpa using this
  ·cases h
theorem eql_struct {P : Program} {t : TypeId} {n : Nat} (hc : cmpOk P t n = true) {xs ys : List Int} (hx : xs.length = n) (hy : ys.length = n) (w : World) : (binOp .eql t (.agg (ints xs)) (.agg (ints ys))).run P w = .ok (.bool (decide (xs = ys))) w := by
 simp only [cmpOk, Bool.and_eq_true, beq_iff_eq] at hc
 rw [run_eql_struct, cmpB_eq hc.1 9992 (by decide) xs ys hx hy w]; rfl
theorem neq_struct {P : Program} {t : TypeId} {n : Nat} (hc : cmpOk P t n = true) {xs ys : List Int} (hx : xs.length = n) (hy : ys.length = n) (w : World) : (binOp .neq t (.agg (ints xs)) (.agg (ints ys))).run P w = .ok (.bool (!decide (xs = ys))) w := by
 simp only [cmpOk, Bool.and_eq_true, beq_iff_eq] at hc
 rw [run_neq_struct, cmpB_eq hc.1 9992 (by decide) xs ys hx hy w]; rfl
theorem guard_struct {P : Program} {t : TypeId} {n : Nat} (hc : cmpOk P t n = true) {op : BinOp} {x y : Operand} {xs ys : Array Value} (w : World) : (eqGuard op t x y (.agg xs) (.agg ys)).run P w = .ok () w := by
 simp only [cmpOk, Bool.and_eq_true, Bool.not_eq_true'] at hc
 exact run_eqGuard_agg w op t x y xs ys hc.2
theorem run_sliceBound {P : Program} {n : Int} {y : Nat} {code : BoundsCode} (h0 : 0 ≤ n) (h1 : n ≤ y) (w : World) : (Instr.sliceBound (.int .i64 n) y code).run P w = .ok n.toNat w := by
 simp [Instr.sliceBound, asIntOf, h0, h1]
def optV (o : Option Int) : Option Value := o.map (Value.int .i64)
theorem run_sub {P : Program} {t e : TypeId} {i : TypeInfo} (ht : P.underlying t = some (.slice e)) (hi : P.info? e = some i) {a : Option Addr} {n c : Nat} {lo hi' : Option Int} (h0 : 0 ≤ lo.getD 0) (h1 : lo.getD 0 ≤ hi'.getD n) (h2 : hi'.getD n ≤ c) (w : World) :
  (Instr.sliceAt t (.slice a n c) (optV lo) (optV hi') none).run P w = .ok (subV (.slice a n c) i.size (lo.getD 0) (hi'.getD n)) w := by
 have hh : 0 ≤ hi'.getD (n : Int) := by omega
 cases lo with
 | none =>
  cases hi' with
  | none =>
   simp [Instr.sliceAt, run_underlying ht, Instr.slice, Instr.sliceBounds, optV, ok_sizeOf hi, subV]
  | some m =>
   simp at h1 h2
   simp [Instr.sliceAt, run_underlying ht, Instr.slice, Instr.sliceBounds, optV, ok_sizeOf hi, subV, run_sliceBound h1 h2]
 | some l =>
  cases hi' with
  | none =>
   simp at h0 h1 h2
   simp [Instr.sliceAt, run_underlying ht, Instr.slice, Instr.sliceBounds, optV, ok_sizeOf hi, subV, run_sliceBound h0 h1]
  | some m =>
   simp at h0 h1 h2
   have : l ≤ (m.toNat : Int) := by omega
   simp [Instr.sliceAt, run_underlying ht, Instr.slice, Instr.sliceBounds, optV, ok_sizeOf hi, subV, run_sliceBound (by omega : 0 ≤ m) h2, run_sliceBound h0 this]
theorem pickRV_den {g : Bool} {u v r : RV} (h : pickRV g u v = some r) : r.den = if g then u.den else v.den := by
 unfold pickRV at h
 split at h
 ·cases h; cases g <;> rfl
 ·cases h; cases g <;> rfl
 ·cases h
section
variable {P : Program} {tab : Tab} {st : St} {a : Act} {cur : Keys} {o : Oper} {obs : List Prop} {v : RV} {w : World}
theorem places_ok : ∀ {fs : List Field} {l : List (Nat × Nat × Bool)}, fldsOk P fs l = true → fs.mapM (fun f => (P.info? f.type).map fun i => (f.offset, i.size)) = some (l.map fun x => (x.1, x.2.1))
 | [], [], _ => by simp
 | [], _ :: _, h => by simp [fldsOk] at h
 | _ :: _, [], h => by simp [fldsOk] at h
 | f :: r, (o, n, g) :: q, h => by
  simp only [fldsOk, Bool.and_eq_true, beq_iff_eq] at h
  obtain ⟨⟨⟨h1, h2⟩, h3⟩, h4⟩ := h
  split at h2
  ·rename_i j hj
   simp at h2
   rw [List.mapM_cons, hj, places_ok h4]
   simp [h1, h2.1]
  ·cases h2
theorem bldS_spec (hwf : WF st) (hr : Rel st a) (hk : keysHold a cur) {flds : List (Nat × Nat × Bool)} {places : Nat → Option (Nat × Nat)} (hpl : ∀ i o n g, flds[i]? = some (o, n, g) → places i = some (o, n)) :
  ∀ {parts : List (Nat × Operand)} {obs obs' : List Prop} {acc l : List CV}, bldS st cur flds parts obs acc = some (obs', l) → (∀ p ∈ obs', p) →
   Instr.fill places (dens acc).toArray (parts.map fun x => (x.1, a.eval x.2)) = some (dens l).toArray ∧ (∀ p ∈ obs, p)
 | [], obs, obs', acc, l, h, ho => by simp only [bldS] at h; cases h; exact ⟨rfl, ho⟩
 | (i, x) :: r, obs, obs', acc, l, h, ho => by
  simp only [bldS] at h
  split at h
  ·rename_i v hv
   split at h
   ·rename_i l0 o n g hl0 hf
    split at h
    ·rename_i acc' hlen hset
     obtain ⟨h1, h2⟩ := bldS_spec hwf hr hk hpl h ho
     have hone := oneObs_spec (hp := st.hp) (l := l0) (fun p hp => h2 p (List.mem_append.2 (.inl hp))) (cells_ok hl0 (opv_ok hwf hr hk hv))
     have hc := cells_eq hl0 hone
     obtain ⟨e1, e2⟩ := setCells_spec hset
     have hlen := Nat.eq_of_beq_eq_true hlen
     refine ⟨?_, fun p hp => h2 p (List.mem_append.2 (.inr hp))⟩
     simp only [List.map_cons, eval_opv hr hk hv]
     rw [fill_one (hpl i o n g hf) _ _ _ (by rw [hc]; simp [dens, hlen]) (by simp [dens]; omega), ← h1, e1]
     congr 1
     simp [dens, hc, ← hlen, List.map_take, List.map_drop]
    ·cases h
   ·cases h
  ·cases h
theorem opds_spec (hr : Rel st a) (hk : keysHold a cur) : ∀ {l : List Operand} {vs : List Value}, opds st cur l = some vs → l.map a.eval = vs
 | [], vs, h => by simp only [opds] at h; cases h; rfl
 | x :: r, vs, h => by
  simp only [opds] at h
  split at h
  ·rename_i v l hv hl
   cases h
   simp [eval_opv hr hk hv, opds_spec hr hk hl]
  ·cases h
theorem opvO_spec (hr : Rel st a) (hk : keysHold a cur) {x : Option Operand} {l : Option RV} {d n : Int} (h : opvO st cur x = some l) (hn : optI d l = some n) : ∃ o : Option Int, x.map a.eval = optV o ∧ o.getD d = n := by
 cases x with
 | none =>
  simp only [opvO] at h; cases h
  simp only [optI] at hn; cases hn
  exact ⟨none, rfl, rfl⟩
 | some y =>
  simp only [opvO] at h
  split at h
  ·rename_i v hv
   cases h
   have e := eval_opv hr hk hv
   unfold optI at hn
   split at hn
   ·rename_i hq; cases hq
   ·rename_i m hq
    cases hq; cases hn
    exact ⟨some n, by simp [e, optV, RV.den, SV.den, CV.den], rfl⟩
   ·cases hn
  ·cases h
theorem keysHold_pick {c : Operand} {g : Bool} (hk : keysHold a cur) (hc : a.eval c = .bool g) (hn : a.tmps.size = st.N) (hcell : ∀ t, c = .tmp t → t < a.tmps.size) : keysHold a (pickKeys c g cur) := by
 cases c with
 | tmp t =>
  intro k hk'
  simp only [pickKeys, List.mem_cons] at hk'
  rcases hk' with rfl | hk'
  ·have := hcell t rfl
   simp only [Act.eval, Array.getD_eq_getD_getElem?, Array.getElem?_eq_getElem this, Option.getD_some] at hc
   simp [Array.getElem?_eq_getElem this, hc]
  ·exact hk k hk'
 | _ => exact hk
theorem opv_lt (hr : Rel st a) {t : Nat} {v : RV} (h : opv st cur (.tmp t) = some v) : t < a.tmps.size := by
 simp only [opv] at h
 have key : ∀ u, a.tmps[t]? = some u → t < a.tmps.size := fun u hu => by
  rcases Nat.lt_or_ge t a.tmps.size with h' | h'
  ·exact h'
  ·rw [Array.getElem?_eq_none h'] at hu; cases hu
 split at h
 ·rename_i ks u hg
  rcases hr.gl t ks u hg with ⟨_, h1, _⟩ | ⟨_, h1⟩
  ·exact key _ h1
  ·exact key _ h1
 ·rename_i hg
  split at h
  ·rename_i u hl
   exact key _ (hr.sl t u hl)
  ·cases h
set_option maxHeartbeats 1000000 in
theorem pev_sound (hT : TabOk P tab) (hwf : WF st) (hr : Rel st a) (hk : keysHold a cur) {hp : List (Nat × LO)} (hsub : ∀ id q, look hp id = some q → look st.hp id = some q) (h : pev tab st hp cur o.op = some (obs, v)) (ho : ∀ p ∈ obs, p) (hw : ∀ x ∈ hp, x.2.holds w) :
  (execOp a.eval o).run P w = .ok (.value v.den) w := by
 obtain ⟨dst, op, type, pos, after, guard⟩ := o
 dsimp only at h
 unfold execOp
 cases op <;> simp only [pev] at h <;> try (cases h)
 case move x =>
  split at h
  ·rename_i u hu
   cases h
   simp [eval_opv hr hk hu]
  ·cases h
 case assign x =>
  split at h
  ·rename_i u hu
   cases h
   simp [eval_opv hr hk hu]
  ·cases h
 case pick c x y =>
  split at h
  ·rename_i g hc
   split at h
   ·rename_i u1 u2 hx hy
    split at h
    ·rename_i r hp
     cases h
     have ec := eval_opv hr hk hc
     have lt : ∀ t, c = .tmp t → t < a.tmps.size := fun t e => by subst e; exact opv_lt hr hc
     have e := pickRV_den hp
     simp only [RV.den, SV.den, CV.den] at ec
     cases g
     ·have ey := eval_opv hr (keysHold_pick hk ec hr.size lt) hy
      simp at e
      simp [ec, asBool, ey, e]
     ·have ex := eval_opv hr (keysHold_pick hk ec hr.size lt) hx
      simp at e
      simp [ec, asBool, ex, e]
    ·cases h
   ·cases h
  ·cases h
 case binOp op t x y t' =>
  split at h
  ·rename_i m n hx hy
   have ex := eval_opv hr hk hx
   have ey := eval_opv hr hk hy
   simp only [RV.den, SV.den, CV.den] at ex ey
   have e := intBin_ok (P := P) (t := t) h ho w
   simp [ex, ey, e, eqGuard_int]
  ·rename_i m n hx hy
   have ex := eval_opv hr hk hx
   have ey := eval_opv hr hk hy
   simp only [RV.den, SV.den, CV.den] at ex ey
   split at h
   ·rename_i ti hti
    split at h
    ·rename_i hk5
     cases h
     have hu := chk_bool (hT _ _ hti) hk5
     simp [ex, ey, eqGuard_bool, eql_bool hu, RV.den, SV.den, CV.den]
    ·rename_i hk5
     cases h
     have hu := chk_bool (hT _ _ hti) hk5
     simp [ex, ey, eqGuard_bool, neq_bool hu, RV.den, SV.den, CV.den]
    ·cases h
   ·cases h
  ·rename_i l l' hx hy
   have ex := eval_opv hr hk hx
   have ey := eval_opv hr hk hy
   simp only [RV.den, SV.den] at ex ey
   split at h
   ·rename_i ti hti
    split at h
    ·rename_i g hk2 hcm hlen heq
     cases h
     obtain ⟨fs, _, _, hc⟩ := chk_struct' (hT _ _ hti) hk2
     have hc := hc hcm
     obtain ⟨xs, ys, e1, e2, e3, rfl⟩ := eqC_spec heq
     have hlen := Nat.eq_of_beq_eq_true hlen
     have hxl : xs.length = ti.size := by rw [← hlen]; have := congrArg List.length e1; simpa [dens] using this.symm
     rw [e1] at ex; rw [e2] at ey
     have q := eql_struct hc hxl (by omega : ys.length = ti.size) w
     simp only [ints] at q
     simp [ex, ey, guard_struct hc, q, RV.den, SV.den, CV.den]
    ·rename_i g hk2 hcm hlen heq
     cases h
     obtain ⟨fs, _, _, hc⟩ := chk_struct' (hT _ _ hti) hk2
     have hc := hc hcm
     obtain ⟨xs, ys, e1, e2, e3, rfl⟩ := eqC_spec heq
     have hlen := Nat.eq_of_beq_eq_true hlen
     have hxl : xs.length = ti.size := by rw [← hlen]; have := congrArg List.length e1; simpa [dens] using this.symm
     rw [e1] at ex; rw [e2] at ey
     have q := neq_struct hc hxl (by omega : ys.length = ti.size) w
     simp only [ints] at q
     simp [ex, ey, guard_struct hc, q, RV.den, SV.den, CV.den]
    ·cases h
   ·cases h
  ·rename_i vv uu hx hy
   have ex := eval_opv hr hk hx
   have ey := eval_opv hr hk hy
   simp only [RV.den, SV.den, CV.den] at ex ey
   unfold xBin at h
   split at h
   ·rename_i n
    split at h
    ·rename_i m
     split at h
     ·cases h
      simp only [List.mem_cons, List.not_mem_nil, or_false, forall_eq_or_imp, forall_eq] at ho
      obtain ⟨rfl, h0⟩ := ho
      have e : m.fdiv 2 = m / 2 := Int.fdiv_eq_ediv_of_nonneg _ (by omega)
      simp [ex, ey, eqGuard_int, binOp, Op.shift, IntKind.bits, e, RV.den, SV.den, CV.den]
     ·cases h
      simp [ex, ey, eqGuard_int, binOp, Op.intCmp, RV.den, SV.den, CV.den]
     ·cases h
    ·cases h
   ·rename_i n
    split at h
    ·rename_i m
     split at h
     ·cases h
      simp only [List.mem_cons, List.not_mem_nil, or_false, forall_eq_or_imp, forall_eq] at ho
      obtain ⟨h0, h1⟩ := ho
      have e : m.tmod n = m % n := Int.tmod_eq_emod_of_nonneg h0
      have hn : ¬ n = 0 := by omega
      simp [ex, ey, eqGuard_int, binOp, Op.intDiv, hn, e, RV.den, SV.den, CV.den]
     ·cases h
    ·cases h
   ·split at h
    ·rename_i ti hti
     split at h
     ·rename_i hk1
      cases h
      obtain ⟨hu, _⟩ := chk_slice (hT _ _ hti) hk1
      simp only [List.mem_cons, List.not_mem_nil, or_false, forall_eq] at ho
      obtain ⟨ad, n, c, rfl, _⟩ := ho
      simp [ex, ey, eqGuard_slice, eql_nil hu, neq_nil hu, RV.den, SV.den, CV.den]
     ·rename_i hk1
      cases h
      obtain ⟨hu, _⟩ := chk_slice (hT _ _ hti) hk1
      simp only [List.mem_cons, List.not_mem_nil, or_false, forall_eq] at ho
      obtain ⟨ad, n, c, rfl, _⟩ := ho
      simp [ex, ey, eqGuard_slice, eql_nil hu, neq_nil hu, RV.den, SV.den, CV.den]
     ·cases h
    ·cases h
   ·cases h
  ·rename_i id u hx hy
   have ex := eval_opv hr hk hx
   have ey := eval_opv hr hk hy
   simp only [RV.den, SV.den, CV.den] at ex ey
   obtain ⟨ad, n, c, rfl⟩ := opv_ok hwf hr hk hx
   split at h
   ·rename_i ti hti
    split at h
    ·rename_i hk1
     cases h
     obtain ⟨hu, _⟩ := chk_slice (hT _ _ hti) hk1
     simp [ex, ey, eqGuard_slice, eql_nil hu, neq_nil hu, RV.den, SV.den, CV.den]
    ·rename_i hk1
     cases h
     obtain ⟨hu, _⟩ := chk_slice (hT _ _ hti) hk1
     simp [ex, ey, eqGuard_slice, eql_nil hu, neq_nil hu, RV.den, SV.den, CV.den]
    ·cases h
   ·cases h
  ·cases h
 case unOp op t x =>
  split at h
  ·rename_i m hx
   cases h
   have ex := eval_opv hr hk hx
   simp only [RV.den, SV.den, CV.den] at ex
   simp [ex, Op.unary, RV.den, SV.den, CV.den]
  ·rename_i m hx
   cases h
   have ex := eval_opv hr hk hx
   simp only [RV.den, SV.den, CV.den] at ex
   simp only [List.mem_cons, List.not_mem_nil, or_false, forall_eq] at ho
   simp only [Int.zero_sub] at ho ⊢
   simp [ex, Op.unary, Op.intArith, wrap_inR ho, RV.den, SV.den, CV.den]
  ·cases h
 case extract t ix =>
  split at h
  ·rename_i l hx
   split at h
   ·rename_i u hu
    cases h
    have ex := eval_opv hr hk hx
    simp only [RV.den] at ex
    simp [ex, Instr.extract, hu, RV.den]
   ·cases h
  ·cases h
 case nilCheck x =>
  split at h
  ·rename_i id blk off hx
   cases h
   have ex := eval_opv hr hk hx
   simp only [RV.den, SV.den, CV.den] at ex
   simp [ex, RV.den, SV.den, CV.den]
  ·rename_i id u size idx off hx
   cases h
   have ex := eval_opv hr hk hx
   obtain ⟨a0, n0, c0, rfl⟩ := opv_ok hwf hr hk hx
   simp only [RV.den, SV.den, CV.den, elemPtr] at ex
   simp [ex, RV.den, SV.den, CV.den, elemPtr]
  ·rename_i u size idx off hx
   cases h
   have ex := eval_opv hr hk hx
   obtain ⟨a0, n0, c0, rfl⟩ := opv_ok hwf hr hk hx
   simp only [RV.den, SV.den, CV.den, elemPtr] at ex
   simp [ex, RV.den, SV.den, CV.den, elemPtr]
  ·cases h
 case fieldAddr s x f =>
  split at h
  ·rename_i ti u hti hx
   split at h
   ·rename_i off n g hk2 hf
    split at h
    ·rename_i u' hu'
     cases h
     have ex := eval_opv hr hk hx
     simp only [RV.den, SV.den] at ex
     obtain ⟨fs, hfs, hok⟩ := chk_struct (hT _ _ hti) hk2
     obtain ⟨fd, j, d, h1, h2, h3, h4, h5, h6, h7⟩ := fldsOk_spec hok f off n g hf
     have h1' : fs[f]? = some fd := by simpa using h1
     obtain ⟨ad, had⟩ : ∃ ad, u.den = .pointer (some ad) := by
      have hok' := opv_ok hwf hr hk hx
      simp only [RVok, SVok] at hok'
      cases u with
      | p id blk o => exact ⟨_, rfl⟩
      | e v size idx o =>
       obtain ⟨a0, n0, c0, rfl⟩ := hok'
       exact ⟨_, rfl⟩
      | r id v size idx o =>
       obtain ⟨a0, n0, c0, rfl⟩ := hok'
       exact ⟨_, rfl⟩
      | o _ _ => simp [addOff] at hu'
      | q _ _ _ => simp [addOff] at hu'
      | i _ => simp [addOff] at hu'
      | b _ => simp [addOff] at hu'
      | x _ => simp [addOff] at hu'
     have e := addOff_den hu' ad had
     have hne : j.size ≠ 0 := by rw [h4]; exact h5
     simp [ex, Instr.fieldAt, run_underlying hfs, h1', had, Instr.sureAddr, fieldPlace, ok_sizeOf h3, hne, h2, RV.den, SV.den, e]
    ·cases h
   ·cases h
  ·cases h
 case indexAddr t x ix =>
  split at h
  ·rename_i ti u n hti hx hix
   split at h
   ·rename_i hk1
    cases h
    have ex := eval_opv hr hk hx
    have ei := eval_opv hr hk hix
    simp only [RV.den, SV.den, CV.den] at ex ei
    simp only [List.mem_cons, List.not_mem_nil, or_false, forall_eq_or_imp, forall_eq] at ho
    obtain ⟨hu, j, hj, hj1, hj2⟩ := chk_slice (hT _ _ hti) hk1
    have hsl : ∃ ad len cap, u = .slice (some ad) len cap ∧ n < len := by
     have h2 := ho.2
     unfold slen at h2
     split at h2
     ·exact ⟨_, _, _, rfl, h2⟩
     ·omega
    obtain ⟨ad, len, cap, rfl, hlt⟩ := hsl
    have h0 := ho.1
    simp [ex, ei, Instr.indexAt, asIntOf, run_underlying hu, h0, hlt, ok_sizeOf hj, hj1, RV.den, SV.den, CV.den, elemPtr, elemAddr]
    simp [Addr.add]
   ·cases h
  ·rename_i ti id u n hti hx hix
   split at h
   ·rename_i v0 E size L hk1 hob
    split at h
    ·rename_i hsz
     cases h
     have ex := eval_opv hr hk hx
     have ei := eval_opv hr hk hix
     simp only [RV.den, SV.den, CV.den] at ex ei
     simp only [List.mem_cons, List.not_mem_nil, or_false, forall_eq_or_imp, forall_eq] at ho
     obtain ⟨rfl, h0, hlt⟩ := ho
     obtain ⟨hu, j, hj, hj1, hj2⟩ := chk_slice (hT _ _ hti) hk1
     have hsz := Nat.eq_of_beq_eq_true hsz
     have hobj := hw _ (look_mem hob)
     simp only [LO.holds, ownsAt] at hobj
     obtain ⟨⟨_, hv | ⟨g, o, cap, cur, rfl, hg, _⟩⟩, _⟩ := hobj
     ·omega
     simp [ex, ei, Instr.indexAt, asIntOf, run_underlying hu, h0, hlt, ok_sizeOf hj, hj1, ← hsz, RV.den, SV.den, CV.den, elemPtr, elemAddr]
     simp [Addr.add]
    ·cases h
   ·cases h
  ·cases h
 case load t x =>
  split at h
  ·rename_i ti id blk off hti hx
   split at h
   ·rename_i blk' T cells hob
    split at h
    ·rename_i l hl
     split at h
     ·rename_i u hu
      cases h
      have ex := eval_opv hr hk hx
      simp only [RV.den, SV.den, CV.den] at ex
      obtain ⟨T', cells', hob'⟩ := opv_ok hwf hr hk hx
      rw [hsub _ _ hob] at hob'
      cases hob'
      obtain ⟨hlen, hget⟩ := takeCells_spec hl
      have hobj := hw _ (look_mem hob)
      simp only [LO.holds] at hobj
      have e := ok_loadVar (hT _ _ hti) (a := ⟨blk, off, none⟩) hlen hu (w := w) (fun j q hq => by
       have hj : j < ti.size := by
        rcases Nat.lt_or_ge j ti.size with h' | h'
        ·exact h'
        ·rw [List.getElem?_eq_none (by simp [dens, hlen, h'])] at hq; cases hq
       have h1 := hget j hj
       have ha : (⟨blk, off, none⟩ : Addr).add j = ⟨blk, off + j, none⟩ := by
        unfold Addr.add; split
        ·simp [*]
        ·rfl
       rw [ha, cell_of_row w blk (off + j) _ _ _ hobj]
       simp only [dens, List.getElem?_map] at hq
       simp only [dens, List.getElem?_toArray, List.getElem?_map, h1, hq])
      simp [ex, Instr.loadAt, Instr.sureAddr, e, RV.den]
     ·cases h
    ·cases h
   ·cases h
  ·cases h
 case build t parts =>
  split at h
  ·rename_i ti hti
   split at h
   ·rename_i obs' l hk2 hb
    cases h
    obtain ⟨fs, hfs, hok⟩ := chk_struct (hT _ _ hti) hk2
    obtain ⟨i, d, hi, hd, hs, hag, z, hz, hzc, _⟩ := chk_info (hT _ _ hti)
    have hpl := places_ok hok
    have hb' := (bldS_spec hwf hr hk (places := fun i => (ti.flds.map fun x => (x.1, x.2.1)).toArray[i]?) (fun i o n g hf => by simp [hf]) hb ho).1
    have hzc' : z.cells = (dens ti.zero).toArray := by apply Array.ext'; simpa using hzc
    have hbuilt : P.built t (parts.map fun (i, x) => (i, a.eval x)).toList = some (dens l).toArray := by
     unfold Program.built
     simp only [hi, hfs, hz, hpl, hzc']
     rw [Array.toList_map]
     exact hb'
    have e := run_build (P := P) w t _ _ hbuilt
    simp [e, RV.den, SV.den]
   ·cases h
  ·cases h
 case field t x f =>
  split at h
  ·rename_i ti l hti hx
   split at h
   ·rename_i off n g hk2 hf
    split at h
    ·rename_i l' hl'
     split at h
     ·rename_i u hu
      cases h
      have ex := eval_opv hr hk hx
      simp only [RV.den, SV.den] at ex
      obtain ⟨fs, hfs, hok⟩ := chk_struct (hT _ _ hti) hk2
      obtain ⟨fd, j, d, h1, h2, h3, h4, h5, h6, h7⟩ := fldsOk_spec hok f off n g hf
      have h1' : fs[f]? = some fd := by simpa using h1
      obtain ⟨hlen, hget⟩ := takeCells_spec hl'
      have hp : (part fd.type (dens l).toArray off).run P w = .ok u.den w := by
       unfold part
       simp only [Sem.run_bind, ok_isAgg h6, Result.andThen_ok, h7]
       cases g
       ·simp only [mkSV] at hu
        split at hu
        ·rename_i c
         cases hu
         have h8 : n = 1 := by simpa using hlen.symm
         have := hget 0 (by omega)
         simp at this
         simp [dens, this, SV.den]
        ·cases hu
       ·simp only [mkSV] at hu
        cases hu
        simp only [if_true, Sem.run_bind, ok_sizeOf h3, Result.andThen_ok, Sem.run_pure, SV.den, h4]
        congr 3
        apply Array.ext'
        simp only [Array.toList_extract, List.extract]
        apply List.ext_getElem?
        intro k
        by_cases hkn : k < n
        ·rw [List.getElem?_take_of_lt (by omega), List.getElem?_drop]
         have := hget k hkn
         simp [dens, this]
        ·rw [List.getElem?_eq_none (by simp; omega), List.getElem?_eq_none (by simp [dens, hlen]; omega)]
      simp [ex, Instr.field, run_underlying hfs, h1', asAgg, h2, hp, RV.den]
     ·cases h
    ·cases h
   ·cases h
  ·cases h
 case convert src dst' x =>
  split at h
  ·rename_i ti tj n hti htj hx
   split at h
   ·rename_i hk6 hk6'
    cases h
    have ex := eval_opv hr hk hx
    simp only [RV.den, SV.den, CV.den] at ex
    simp only [List.mem_cons, List.not_mem_nil, or_false, forall_eq] at ho
    simp [convert, run_underlying (chk_i64 (hT _ _ hti) hk6), run_underlying (chk_i64 (hT _ _ htj) hk6'), ex, Conv.intToInt, wrap_inR ho, RV.den, SV.den, CV.den]
   ·rename_i hk6 hk6' hk7
    cases h
    have ex := eval_opv hr hk hx
    simp only [RV.den, SV.den, CV.den] at ex
    simp only [List.mem_cons, List.not_mem_nil, or_false, forall_eq_or_imp, forall_eq] at ho
    obtain ⟨h0, h1⟩ := ho
    have hw : IntKind.u64.wrap n = n := by
     have := h1.2
     simp only [IntKind.wrap, IntKind.signed, IntKind.bits]
     simp
     omega
    simp [convert, run_underlying (chk_i64 (hT _ _ hti) hk6), run_underlying (chk_u64 (hT _ _ htj) hk7), ex, Conv.intToInt, hw, RV.den, SV.den, CV.den]
   ·cases h
  ·rename_i ti tj k n hti htj hx
   split at h
   ·rename_i hk6
    cases h
    have ex := eval_opv hr hk hx
    simp only [RV.den, SV.den, CV.den] at ex
    simp only [List.mem_cons, List.not_mem_nil, or_false, forall_eq] at ho
    obtain ⟨i, d, hi, hd, _⟩ := chk_info (hT _ _ hti)
    simp [convert, run_underlying hd, run_underlying (chk_i64 (hT _ _ htj) hk6), ex, Conv.intToInt, wrap_inR ho, RV.den, SV.den, CV.den]
   ·cases h
  ·cases h
 case slice t x lo hi mx =>
  cases mx with
  | some _ => cases h
  | none =>
   simp only at h
   split at h
   ·rename_i ti u hti hx
    have ex := eval_opv hr hk hx
    simp only [RV.den, SV.den, CV.den] at ex
    split at h
    ·rename_i l h' hk1 hlo hhi
     split at h
     ·rename_i n m hn hm
      cases h
      simp only [List.mem_cons, List.not_mem_nil, or_false, forall_eq_or_imp, forall_eq] at ho
      obtain ⟨⟨ad, len, cap, rfl, hnil, hcap⟩, h0, h1, h2⟩ := ho
      obtain ⟨hu, j, hj, hj1, hj2⟩ := chk_slice (hT _ _ hti) hk1
      have e : slen (.slice ad len cap) = len := by
       cases ad with
       | none => simp [slen, (hnil rfl).1]
       | some a => rfl
      rw [e] at hm h2
      obtain ⟨lo', el, en⟩ := opvO_spec hr hk hlo hn
      obtain ⟨hi', eh, em⟩ := opvO_spec hr hk hhi hm
      have q := run_sub (P := P) hu hj (a := ad) (n := len) (c := cap) (lo := lo') (hi' := hi') (by rw [en]; exact h0) (by rw [en, em]; exact h1) (by rw [em]; omega) w
      rw [en, em, hj1] at q
      simp [ex, el, eh, q, RV.den, SV.den, CV.den]
     ·cases h
    ·cases h
   ·rename_i ti id u hti hx
    have ex := eval_opv hr hk hx
    simp only [RV.den, SV.den, CV.den] at ex
    split at h
    ·rename_i l h' v0 E size L hk1 hlo hhi hob
     split at h
     ·rename_i n m hn hm hsz
      cases h
      simp only [List.mem_cons, List.not_mem_nil, or_false, forall_eq_or_imp, forall_eq] at ho
      obtain ⟨rfl, h0, h1, h2⟩ := ho
      obtain ⟨hu, j, hj, hj1, hj2⟩ := chk_slice (hT _ _ hti) hk1
      have hsz := Nat.eq_of_beq_eq_true hsz
      obtain ⟨lo', el, en⟩ := opvO_spec hr hk hlo hn
      obtain ⟨hi', eh, em⟩ := opvO_spec hr hk hhi hm
      have hobj := hw _ (look_mem hob)
      simp only [LO.holds, ownsAt] at hobj
      have key : ∃ ad cap, u = .slice ad L.length cap ∧ L.length ≤ cap := by
       obtain ⟨⟨_, ⟨rfl, hl0⟩ | ⟨g, o, cap, cur, rfl, hg, hlc, _⟩⟩, _⟩ := hobj
       ·exact ⟨none, 0, by rw [hl0], by omega⟩
       ·exact ⟨_, cap, rfl, hlc⟩
      obtain ⟨ad, cap, rfl, hlc⟩ := key
      have h2' : m ≤ cap := by
       rcases h2 with h2 | h2
       ·omega
       ·exact h2
      have q := run_sub (P := P) hu hj (a := ad) (n := L.length) (c := cap) (lo := lo') (hi' := hi') (by rw [en]; exact h0) (by rw [en, em]; exact h1) (by rw [em]; exact h2') w
      rw [en, em, hj1, ← hsz] at q
      simp [ex, el, eh, q, RV.den, SV.den, CV.den]
     ·cases h
    ·cases h
   ·cases h
 case makeFunc fn first caps =>
  cases fn <;> simp only at h <;> try (cases h)
  split at h
  ·rename_i l l' hl hl'
   cases h
   have e1 : first.map a.eval = l.toArray := by apply Array.ext'; simpa using opds_spec hr hk hl
   have e2 : caps.map a.eval = l'.toArray := by apply Array.ext'; simpa using opds_spec hr hk hl'
   simp [Instr.makeFunc, e1, e2, RV.den, SV.den, CV.den]
  ·cases h
 case call c =>
  obtain ⟨callee, args, argTypes⟩ := c
  dsimp only at h
  split at h
  ·rename_i x t hargs htys
   have ea : args = #[x] := by rw [← Array.toList_inj]; simpa using hargs
   have et : argTypes = #[t] := by rw [← Array.toList_inj]; simpa using htys
   subst ea et
   split at h
   ·rename_i ti u hti hx
    have ex := eval_opv hr hk hx
    simp only [RV.den, SV.den, CV.den] at ex
    split at h
    ·rename_i hk1
     cases h
     obtain ⟨hu, _⟩ := chk_slice (hT _ _ hti) hk1
     simp only [List.mem_cons, List.not_mem_nil, or_false, forall_eq] at ho
     obtain ⟨ad, n, c, rfl, hnil, _⟩ := ho
     have e : slen (.slice ad n c) = n := by
      cases ad with
      | none => simp [slen, (hnil rfl).1]
      | some a => rfl
     simp [resolve, invoke, builtin, Builtin.len_, ex, run_underlying hu, goInt, RV.den, SV.den, CV.den, e]
    ·rename_i hk4 _
     cases h
     have hu := chk_string (hT _ _ hti) hk4
     simp only [List.mem_cons, List.not_mem_nil, or_false, forall_eq] at ho
     obtain ⟨s, rfl⟩ := ho
     simp [resolve, invoke, builtin, Builtin.len_, ex, run_underlying hu, goInt, RV.den, SV.den, CV.den, strOf]
    ·cases h
   ·rename_i ti id u hti hx
    have ex := eval_opv hr hk hx
    simp only [RV.den, SV.den, CV.den] at ex
    split at h
    ·rename_i v0 E size L hk1 hob
     cases h
     obtain ⟨hu, _⟩ := chk_slice (hT _ _ hti) hk1
     simp only [List.mem_cons, List.not_mem_nil, or_false, forall_eq] at ho
     subst ho
     have hobj := hw _ (look_mem hob)
     simp only [LO.holds, ownsAt] at hobj
     obtain ⟨⟨_, ⟨rfl, hn⟩ | ⟨g, o, cap, cur, rfl, hg, _⟩⟩, _⟩ := hobj
     ·simp [resolve, invoke, builtin, Builtin.len_, ex, run_underlying hu, goInt, RV.den, SV.den, CV.den, hn]
     ·simp [resolve, invoke, builtin, Builtin.len_, ex, run_underlying hu, goInt, RV.den, SV.den, CV.den]
    ·cases h
   ·cases h
  ·rename_i x t hargs htys
   have ea : args = #[x] := by rw [← Array.toList_inj]; simpa using hargs
   have et : argTypes = #[t] := by rw [← Array.toList_inj]; simpa using htys
   subst ea et
   split at h
   ·rename_i ti id u hti hx
    have ex := eval_opv hr hk hx
    simp only [RV.den, SV.den, CV.den] at ex
    split at h
    ·rename_i v0 E size L hk1 hob
     cases h
     obtain ⟨hu, _⟩ := chk_slice (hT _ _ hti) hk1
     simp only [List.mem_cons, List.not_mem_nil, or_false, forall_eq] at ho
     subst ho
     have hobj := hw _ (look_mem hob)
     simp only [LO.holds, ownsAt] at hobj
     obtain ⟨⟨_, ⟨rfl, hn⟩ | ⟨g, o, cap, cur, rfl, hg, _⟩⟩, _⟩ := hobj
     ·simp [resolve, invoke, builtin, Builtin.cap_, ex, run_underlying hu, goInt, RV.den, SV.den, CV.den, scap]
     ·simp [resolve, invoke, builtin, Builtin.cap_, ex, run_underlying hu, goInt, RV.den, SV.den, CV.den, scap]
    ·cases h
   ·cases h
  ·rename_i x y hargs
   have ea : args = #[x, y] := by rw [← Array.toList_inj]; simpa using hargs
   subst ea
   split at h
   ·rename_i m n hx hy
    cases h
    have ex := eval_opv hr hk hx
    have ey := eval_opv hr hk hy
    simp only [RV.den, SV.den, CV.den] at ex ey
    have e : (if n > m then n else m) = max m n := by omega
    simp [resolve, invoke, builtin, Builtin.max_, Builtin.max2, ex, ey, RV.den, SV.den, CV.den]
    omega
   ·cases h
  ·rename_i x y hargs
   have ea : args = #[x, y] := by rw [← Array.toList_inj]; simpa using hargs
   subst ea
   split at h
   ·rename_i m n hx hy
    cases h
    have ex := eval_opv hr hk hx
    have ey := eval_opv hr hk hy
    simp only [RV.den, SV.den, CV.den] at ex ey
    simp [resolve, invoke, builtin, Builtin.min_, Builtin.min2, ex, ey, RV.den, SV.den, CV.den]
    omega
   ·cases h
  ·cases h
end
def freeG (d : Nat) : List (Nat × Keys × RV) → Bool
 | [] => true
 | (s, ks, _) :: r => match Nat.beq s d, ks.any (fun k => Nat.beq k.1 d) with
  | false, false => freeG d r
  | _, _ => false
def freeK (d : Nat) : List (Nat × Keys × RV) → Bool
 | [] => true
 | (_, ks, _) :: r => match ks.any (fun k => Nat.beq k.1 d) with
  | false => freeK d r
  | true => false
def put : St → Option Nat → Keys → RV → Option St
 | ⟨N, sl, gl, hp, S, ws, df⟩, d, ks, v => match d with
  | none => some ⟨N, sl, gl, hp, S, ws, df⟩
  | some d => match Nat.blt d N with
   | false => none
   | true => match ks with
    | [] => match freeG d gl with
     | true => some ⟨N, (d, some v) :: sl, gl, hp, S, ws, df⟩
     | false => none
    | k :: r => match (k :: r).any (fun k => Nat.beq k.1 d), freeK d gl with
     | false, true => some ⟨N, (d, none) :: sl, (d, k :: r, v) :: gl, hp, S, ws, df⟩
     | _, _ => none
theorem freeG_spec {d : Nat} {l : List (Nat × Keys × RV)} (h : freeG d l = true) : (∀ s ks v, (s, ks, v) ∈ l → s ≠ d ∧ ∀ k ∈ ks, k.1 ≠ d) := by
 induction l with
 | nil => intro s ks v hm; cases hm
 | cons x r ih =>
  obtain ⟨t, q, u⟩ := x
  simp only [freeG] at h
  split at h
  ·rename_i h1 h2
   intro s ks v hm
   rcases List.mem_cons.1 hm with e | hm
   ·cases e
    refine ⟨fun e => by subst e; simp [Nat.beq_refl] at h1, fun k hk e => ?_⟩
    rw [List.any_eq_false] at h2
    have := h2 k hk
    rw [e] at this
    simp [Nat.beq_refl] at this
   ·exact ih h s ks v hm
  ·cases h
theorem freeK_spec {d : Nat} {l : List (Nat × Keys × RV)} (h : freeK d l = true) : (∀ s ks v, (s, ks, v) ∈ l → ∀ k ∈ ks, k.1 ≠ d) := by
 induction l with
 | nil => intro s ks v hm; cases hm
 | cons x r ih =>
  obtain ⟨t, q, u⟩ := x
  simp only [freeK] at h
  split at h
  ·rename_i h2
   intro s ks v hm
   rcases List.mem_cons.1 hm with e | hm
   ·cases e
    intro k hk e
    rw [List.any_eq_false] at h2
    have := h2 k hk
    rw [e] at this
    simp [Nat.beq_refl] at this
   ·exact ih h s ks v hm
  ·cases h
theorem get_put_ne {a : Act} {d s : Nat} {v : Value} (h : s ≠ d) : (a.put (some d) v).tmps[s]? = a.tmps[s]? := by
 simp only [Act.put]
 rw [Array.getElem?_setIfInBounds_ne (fun e => h e.symm)]
theorem get_put_eq {a : Act} {d : Nat} {v : Value} (h : d < a.tmps.size) : (a.put (some d) v).tmps[d]? = some v := by
 simp only [Act.put]
 rw [Array.getElem?_setIfInBounds_self_of_lt h]
theorem keysHold_put {a : Act} {d : Nat} {v : Value} {ks : Keys} (h : ∀ k ∈ ks, k.1 ≠ d) : keysHold (a.put (some d) v) ks ↔ keysHold a ks := by
 unfold keysHold
 constructor
 ·intro hk k hm; rw [← hk k hm, get_put_ne (h k hm)]
 ·intro hk k hm; rw [get_put_ne (h k hm)]; exact hk k hm
theorem put_rel {st st' : St} {a : Act} {d : Option Nat} {ks : Keys} {v : RV} (hp : put st d ks v = some st') (hr : Rel st a) {u : Value}
  (hu : (keysHold a ks ∧ u = v.den ∧ RVok st.hp v) ∨ (¬ keysHold a ks ∧ u = undef)) : Rel st' (a.put d u) := by
 obtain ⟨N, sl, gl, hp0, S, ws, df⟩ := st
 cases d with
 | none => simp only [put] at hp; cases hp; exact hr
 | some d =>
  simp only [put] at hp
  split at hp
  ·cases hp
  ·rename_i hlt
   have hlt : d < a.tmps.size := by rw [hr.size]; show d < N; exact Nat.lt_of_not_le fun h => by simp [Nat.blt, Nat.ble_eq] at hlt; omega
   have hsz : (a.put (some d) u).tmps.size = a.tmps.size := by simp [Act.put]
   cases ks with
   | nil =>
    simp only at hp
    split at hp
    ·rename_i hf
     cases hp
     have hf := freeG_spec hf
     have hu' : u = v.den := by
      rcases hu with ⟨_, h, _⟩ | ⟨h, _⟩
      ·exact h
      ·exact (h fun k hk => by cases hk).elim
     refine ⟨by rw [hsz]; exact hr.size, hr.defers, fun s w' hl => ?_, fun s q w' hl => ?_⟩
     ·replace hl : look ((d, some v) :: sl) s = some (some w') := hl
      simp only [look] at hl
      split at hl
      ·rename_i hb
       cases hl
       have := Nat.eq_of_beq_eq_true hb
       subst this
       rw [get_put_eq hlt, hu']
      ·rename_i hb
       rw [get_put_ne (fun e => by subst e; simp [Nat.beq_refl] at hb)]
       exact hr.sl s w' hl
     ·have hm := hf s q w' (look_mem hl)
      rw [keysHold_put hm.2, get_put_ne hm.1]
      exact hr.gl s q w' hl
    ·cases hp
   | cons k r =>
    simp only at hp
    split at hp
    ·rename_i h1 h2
     cases hp
     have h2 := freeK_spec h2
     have h1' : ∀ k' ∈ k :: r, k'.1 ≠ d := by
      intro k' hk' e
      rw [List.any_eq_false] at h1
      have := h1 k' hk'
      rw [e] at this
      simp [Nat.beq_refl] at this
     refine ⟨by rw [hsz]; exact hr.size, hr.defers, fun s w' hl => ?_, fun s q w' hl => ?_⟩
     ·replace hl : look ((d, none) :: sl) s = some (some w') := hl
      simp only [look] at hl
      split at hl
      ·cases hl
      ·rename_i hb
       rw [get_put_ne (fun e => by subst e; simp [Nat.beq_refl] at hb)]
       exact hr.sl s w' hl
     ·replace hl : look ((d, k :: r, v) :: gl) s = some (q, w') := hl
      simp only [look] at hl
      split at hl
      ·rename_i hb
       cases hl
       have := Nat.eq_of_beq_eq_true hb
       subst this
       rw [keysHold_put h1', get_put_eq hlt]
       rcases hu with ⟨h, e, ok⟩ | ⟨h, e⟩
       ·exact .inl ⟨h, by rw [e], ok⟩
       ·exact .inr ⟨h, by rw [e]⟩
      ·rename_i hb
       have hne : s ≠ d := fun e => by subst e; simp [Nat.beq_refl] at hb
       rw [keysHold_put (h2 s q w' (look_mem hl)), get_put_ne hne]
       exact hr.gl s q w' hl
    ·cases hp
theorem put_wf {st st' : St} {d : Option Nat} {ks : Keys} {v : RV} (hp : put st d ks v = some st') (hwf : WF st) (hv : ks = [] → RVok st.hp v) : WF st' := by
 obtain ⟨N, sl, gl, hp0, S, ws, df⟩ := st
 cases d with
 | none => simp only [put] at hp; cases hp; exact hwf
 | some d =>
  simp only [put] at hp
  split at hp
  ·cases hp
  ·cases ks with
   | nil =>
    simp only at hp
    split at hp
    ·cases hp
     refine ⟨fun s u hm => ?_, hwf.hp, hwf.row⟩
     rcases List.mem_cons.1 hm with e | hm
     ·cases e; exact hv rfl
     ·exact hwf.sl s u hm
    ·cases hp
   | cons k r =>
    simp only at hp
    split at hp
    ·cases hp
     refine ⟨fun s u hm => ?_, hwf.hp, hwf.row⟩
     rcases List.mem_cons.1 hm with e | hm
     ·cases e
     ·exact hwf.sl s u hm
    ·cases hp
theorem put_world {st st' : St} {d : Option Nat} {ks : Keys} {v : RV} (hp : put st d ks v = some st') : st'.hp = st.hp ∧ st'.S = st.S ∧ st'.ws = st.ws ∧ st'.N = st.N := by
 obtain ⟨N, sl, gl, hp0, S, ws, df⟩ := st
 cases d with
 | none => simp only [put] at hp; cases hp; exact ⟨rfl, rfl, rfl, rfl⟩
 | some d =>
  simp only [put] at hp
  split at hp
  ·cases hp
  ·cases ks with
   | nil =>
    simp only at hp
    split at hp
    ·cases hp; exact ⟨rfl, rfl, rfl, rfl⟩
    ·cases hp
   | cons k r =>
    simp only at hp
    split at hp
    ·cases hp; exact ⟨rfl, rfl, rfl, rfl⟩
    ·cases hp
theorem holds_congr {st st' : St} {w : World} (h : st'.hp = st.hp ∧ st'.S = st.S ∧ st'.ws = st.ws ∧ st'.N = st.N) (hw : Holds st w) : Holds st' w := by
 obtain ⟨h1, h2, h3, _⟩ := h
 refine ⟨by rw [h1]; exact hw.objs, ?_, by rw [h2, h3]; exact hw.fr, ?_⟩
 ·unfold St.blks; rw [h1]; exact hw.nodup
 ·unfold St.blks; rw [h1, h2, h3]; exact hw.own
end Go.Vd
namespace Go.Vd
open Go.RowKit
theorem takeCells_mem : ∀ {o n : Nat} {cells l : List CV}, takeCells o n cells = some l → ∀ c ∈ l, c ∈ cells := by
 intro o n cells l h c hc
 obtain ⟨h1, h2⟩ := takeCells_spec h
 obtain ⟨j, hj, e⟩ := List.getElem_of_mem hc
 have := h2 j (by omega)
 rw [List.getElem?_eq_getElem hj, e] at this
 exact List.mem_of_getElem? this
theorem mkSV_ok {hp : List (Nat × LO)} {g : Bool} {l : List CV} {v : SV} (h : mkSV g l = some v) (hl : ∀ c ∈ l, CVok hp c) : SVok hp v := by
 unfold mkSV at h
 split at h
 ·cases h; exact hl
 ·split at h
  ·rename_i c
   cases h; exact hl c (by simp)
  ·cases h
theorem intBin_rvok {hp : List (Nat × LO)} {op : BinOp} {a b : Int} {obs : List Prop} {v : RV} (h : intBin op a b = some (obs, v)) : RVok hp v := by
 cases op <;> simp only [intBin] at h <;> (try (cases h)) <;> trivial
theorem pickRV_rvok {hp : List (Nat × LO)} {g : Bool} {u v r : RV} (h : pickRV g u v = some r) : RVok hp r := by
 unfold pickRV at h
 split at h
 ·cases h; trivial
 ·cases h; trivial
 ·cases h
theorem zero_ok {P : Program} {tab : Tab} {t : TypeId} {ti : TI} (hT : TabOk P tab) (h : look tab t = some ti) {hp : List (Nat × LO)} : ∀ c ∈ ti.zero, CVok hp c := by
 have hc := hT _ _ h
 unfold chkTI at hc
 split at hc
 ·simp only [Bool.and_eq_true] at hc
  obtain ⟨⟨⟨_, h2⟩, _⟩, _⟩ := hc
  split at h2
  ·rename_i z hz
   simp only [Bool.and_eq_true] at h2
   have key : ∀ (vs : List Value) (cs : List CV), zerosEq vs cs = true → ∀ c ∈ cs, CVok hp c := by
    intro vs cs
    induction cs generalizing vs with
    | nil => intro _ c hc; cases hc
    | cons x r ih =>
     intro hz c hc
     cases vs with
     | nil => simp [zerosEq] at hz
     | cons v vs =>
      simp only [zerosEq, Bool.and_eq_true] at hz
      rcases List.mem_cons.1 hc with rfl | hc
      ·cases c with
       | p _ _ _ => simp [zeroEq] at hz
       | e _ _ _ _ => simp [zeroEq] at hz
       | r _ _ _ _ _ => simp [zeroEq] at hz
       | o _ _ => simp [zeroEq] at hz
       | _ => trivial
      ·exact ih vs hz.2 c hc
   exact key _ _ h2.1
  ·cases h2
 ·cases hc
theorem pev_ok {P : Program} {tab : Tab} {st : St} {a : Act} {cur : Keys} {op : Op} {obs : List Prop} {v : RV} (hT : TabOk P tab) (hwf : WF st) (hr : Rel st a) (hk : keysHold a cur) {hp : List (Nat × LO)} (hsub : ∀ id q, look hp id = some q → look st.hp id = some q) (h : pev tab st hp cur op = some (obs, v)) (ho : ∀ p ∈ obs, p) : RVok st.hp v := by
 cases op <;> simp only [pev] at h <;> try (cases h)
 case move x =>
  split at h
  ·rename_i u hu; cases h; exact opv_ok hwf hr hk hu
  ·cases h
 case assign x =>
  split at h
  ·rename_i u hu; cases h; exact opv_ok hwf hr hk hu
  ·cases h
 case pick c x y =>
  split at h
  ·split at h
   ·split at h
    ·rename_i hp; cases h; exact pickRV_rvok hp
    ·cases h
   ·cases h
  ·cases h
 case binOp op t x y t' =>
  split at h
  ·exact intBin_rvok h
  ·split at h
   ·split at h
    ·cases h; trivial
    ·cases h; trivial
    ·cases h
   ·cases h
  ·split at h
   ·split at h
    ·cases h; trivial
    ·cases h; trivial
    ·cases h
   ·cases h
  ·unfold xBin at h
   split at h
   ·split at h
    ·split at h
     ·cases h; trivial
     ·cases h; trivial
     ·cases h
    ·cases h
   ·split at h
    ·split at h
     ·cases h; trivial
     ·cases h
    ·cases h
   ·split at h
    ·split at h
     ·cases h; trivial
     ·cases h; trivial
     ·cases h
    ·cases h
   ·cases h
  ·split at h
   ·split at h
    ·cases h; trivial
    ·cases h; trivial
    ·cases h
   ·cases h
  ·cases h
 case unOp op t x =>
  split at h
  ·cases h; trivial
  ·cases h; trivial
  ·cases h
 case extract t ix =>
  split at h
  ·rename_i l hx
   split at h
   ·rename_i u hu
    cases h
    exact opv_ok hwf hr hk hx u (List.mem_of_getElem? hu)
   ·cases h
  ·cases h
 case nilCheck x =>
  split at h
  ·rename_i hx; cases h; exact opv_ok hwf hr hk hx
  ·rename_i hx; cases h; exact opv_ok hwf hr hk hx
  ·rename_i hx; cases h; exact opv_ok hwf hr hk hx
  ·cases h
 case fieldAddr s x f =>
  split at h
  ·rename_i ti u hti hx
   split at h
   ·split at h
    ·rename_i u' hu'
     cases h
     have hok := opv_ok hwf hr hk hx
     cases u <;> simp only [addOff] at hu' <;> cases hu' <;> exact hok
    ·cases h
   ·cases h
  ·cases h
 case indexAddr t x ix =>
  split at h
  ·rename_i ti u n hti hx hix
   split at h
   ·cases h
    simp only [List.mem_cons, List.not_mem_nil, or_false, forall_eq_or_imp, forall_eq] at ho
    have h2 := ho.2
    unfold slen at h2
    split at h2
    ·exact ⟨_, _, _, rfl⟩
    ·omega
   ·cases h
  ·rename_i ti id u n hti hx hix
   split at h
   ·rename_i v0 E size L hk1 hob
    split at h
    ·cases h
     simp only [List.mem_cons, List.not_mem_nil, or_false, forall_eq_or_imp, forall_eq] at ho
     obtain ⟨rfl, h0, hlt⟩ := ho
     exact (hwf.row _ _ _ _ _ (look_mem (hsub _ _ hob))).1 (by omega)
    ·cases h
   ·cases h
  ·cases h
 case load t x =>
  split at h
  ·split at h
   ·rename_i b T cells hob
    split at h
    ·rename_i l hl
     split at h
     ·rename_i u hu
      cases h
      exact mkSV_ok hu fun c hc => hwf.hp _ _ _ _ (look_mem (hsub _ _ hob)) c (takeCells_mem hl c hc)
     ·cases h
    ·cases h
   ·cases h
  ·cases h
 case build t parts =>
  split at h
  ·rename_i ti hti
   split at h
   ·rename_i obs' l hk2 hb
    cases h
    have key : ∀ (parts : List (Nat × Operand)) (obs obs' : List Prop) (acc l : List CV), bldS st cur ti.flds parts obs acc = some (obs', l) → (∀ c ∈ acc, CVok st.hp c) → ∀ c ∈ l, CVok st.hp c := by
     intro parts
     induction parts with
     | nil => intro obs obs' acc l h hacc; simp only [bldS] at h; cases h; exact hacc
     | cons x r ih =>
      obtain ⟨i, x⟩ := x
      intro obs obs' acc l h hacc
      simp only [bldS] at h
      split at h
      ·rename_i v hv
       split at h
       ·rename_i l0 o n g hl0 hf
        split at h
        ·rename_i acc' hlen hset
         refine ih _ _ _ _ h fun c hc => ?_
         rw [(setCells_spec hset).1] at hc
         simp only [List.mem_append] at hc
         rcases hc with (hc | hc) | hc
         ·exact hacc c (List.mem_of_mem_take hc)
         ·exact cells_ok hl0 (opv_ok hwf hr hk hv) c hc
         ·exact hacc c (List.mem_of_mem_drop hc)
        ·cases h
       ·cases h
      ·cases h
    exact key _ _ _ _ _ hb (zero_ok hT hti)
   ·cases h
  ·cases h
 case field t x f =>
  split at h
  ·rename_i ti l hti hx
   split at h
   ·split at h
    ·rename_i l' hl'
     split at h
     ·rename_i u hu
      cases h
      exact mkSV_ok hu fun c hc => opv_ok hwf hr hk hx c (takeCells_mem hl' c hc)
     ·cases h
    ·cases h
   ·cases h
  ·cases h
 case convert src dst' x =>
  split at h
  ·split at h
   ·cases h; trivial
   ·cases h; trivial
   ·cases h
  ·split at h
   ·cases h; trivial
   ·cases h
  ·cases h
 case slice t x lo hi mx =>
  cases mx with
  | some _ => cases h
  | none =>
   simp only at h
   split at h
   ·split at h
    ·split at h
     ·cases h; trivial
     ·cases h
    ·cases h
   ·split at h
    ·split at h
     ·cases h; trivial
     ·cases h
    ·cases h
   ·cases h
 case makeFunc fn first caps =>
  cases fn <;> simp only at h <;> try (cases h)
  split at h
  ·cases h; trivial
  ·cases h
 case call c =>
  split at h
  ·split at h
   ·split at h
    ·cases h; trivial
    ·cases h; trivial
    ·cases h
   ·split at h
    ·cases h; trivial
    ·cases h
   ·cases h
  ·split at h
   ·split at h
    ·cases h; trivial
    ·cases h
   ·cases h
  ·split at h
   ·cases h; trivial
   ·cases h
  ·split at h
   ·cases h; trivial
   ·cases h
  ·cases h
abbrev Conds := List (Bool × Bool)
def gimp : Conds → Prop → Prop
 | [], p => p
 | (g, b) :: r, p => g = b → gimp r p
theorem gimp_out {cs : Conds} {p : Prop} (h : gimp cs p) (hc : ∀ c ∈ cs, c.1 = c.2) : p := by
 induction cs with
 | nil => exact h
 | cons c r ih => exact ih (h (hc c (by simp))) fun d hd => hc d (by simp [hd])
def obl (cs : Conds) (obs : List Prop) (k : Prop) : Prop :=
 List.rec (motive := fun _ => Prop) k (fun p _ ih => match cs with | [] => p ∧ ih | c :: q => gimp (c :: q) p ∧ ih) obs
theorem obl_out {cs : Conds} {k : Prop} : ∀ {obs : List Prop}, obl cs obs k → (∀ p ∈ obs, gimp cs p) ∧ k
 | [], h => ⟨fun p hp => (by cases hp), h⟩
 | p :: r, h => by
  replace h : gimp cs p ∧ obl cs r k := by cases cs <;> exact h
  obtain ⟨h1, h2⟩ := obl_out h.2
  refine ⟨fun q hq => ?_, h2⟩
  rcases List.mem_cons.1 hq with rfl | hq
  ·exact h.1
  ·exact h1 q hq
def boolAt (st : St) (s : Nat) : Option Bool :=
 match look st.gl s with
 | some (_, .s (.c (.b g))) => some g
 | some _ => none
 | none => match look st.sl s with
  | some (some (.s (.c (.b g)))) => some g
  | _ => none
def condsOf (st : St) : Keys → Option Conds
 | [] => some []
 | (s, b) :: r => match boolAt st s, condsOf st r with
  | some g, some l => some ((g, b) :: l)
  | _, _ => none
def dstOf (ops : Array Oper) (j : Nat) : Option Nat := (ops[j]?).bind (·.dst)
def guardOf (st : St) (ops : Array Oper) : Option (Nat × Bool) → Option (Keys × Conds)
 | none => some ([], [])
 | some (j, want) => match dstOf ops j with
  | none => none
  | some s => match look st.gl s with
   | some (ks, _) => match condsOf st ((s, want) :: ks) with
    | some cs => some ((s, want) :: ks, cs)
    | none => none
   | none => match condsOf st [(s, want)] with
    | some cs => some ([(s, want)], cs)
    | none => none
theorem boolAt_spec {st : St} {a : Act} {s : Nat} {g b : Bool} (hr : Rel st a) (h : boolAt st s = some g) (hb : a.tmps[s]? = some (.bool b)) : g = b := by
 unfold boolAt at h
 split at h
 ·rename_i ks g' hl
  cases h
  rcases hr.gl _ _ _ hl with ⟨_, e, _⟩ | ⟨_, e⟩
  ·rw [hb] at e; cases e; rfl
  ·rw [hb] at e; cases e
 ·cases h
 ·split at h
  ·rename_i g' hl
   cases h
   have e := hr.sl _ _ hl
   rw [hb] at e; cases e; rfl
  ·cases h
theorem condsOf_spec {st : St} {a : Act} (hr : Rel st a) : ∀ {ks : Keys} {cs : Conds}, condsOf st ks = some cs → keysHold a ks → ∀ c ∈ cs, c.1 = c.2
 | [], cs, h, _ => by simp only [condsOf] at h; cases h; intro c hc; cases hc
 | (s, b) :: r, cs, h, hk => by
  simp only [condsOf] at h
  split at h
  ·rename_i g l hg hl
   cases h
   intro c hc
   rcases List.mem_cons.1 hc with rfl | hc
   ·exact boolAt_spec hr hg (hk (s, b) (by simp))
   ·exact condsOf_spec hr hl (fun k hk' => hk k (by simp [hk'])) c hc
  ·cases h
theorem guardOf_spec {st : St} {a : Act} {ops : Array Oper} {o : Oper} {keys : Keys} {cs : Conds} (hr : Rel st a) (h : guardOf st ops o.guard = some (keys, cs)) :
  (Region.wanted o (yielded ops a.tmps) = true ∧ keysHold a keys ∧ ∀ c ∈ cs, c.1 = c.2) ∨ (Region.wanted o (yielded ops a.tmps) = false ∧ ¬ keysHold a keys) := by
 obtain ⟨dst, op, type, pos, after, guard⟩ := o
 dsimp only at h
 cases guard with
 | none =>
  simp only [guardOf] at h; cases h
  exact .inl ⟨rfl, fun k hk => (by cases hk), fun c hc => by cases hc⟩
 | some jw =>
  obtain ⟨j, want⟩ := jw
  simp only [guardOf] at h
  split at h
  ·cases h
  ·rename_i s hs
   have hy : yielded ops a.tmps j = match a.tmps[s]? with | some (.bool b) => some b | _ => none := by
    unfold yielded; unfold dstOf at hs; rw [hs]; rfl
   have key : ∀ ks : Keys, condsOf st ((s, want) :: ks) = some cs → keys = (s, want) :: ks → (a.tmps[s]? = some (.bool want) → keysHold a ks) →
     (Region.wanted ⟨dst, op, type, pos, after, some (j, want)⟩ (yielded ops a.tmps) = true ∧ keysHold a keys ∧ ∀ c ∈ cs, c.1 = c.2) ∨ (Region.wanted ⟨dst, op, type, pos, after, some (j, want)⟩ (yielded ops a.tmps) = false ∧ ¬ keysHold a keys) := by
    intro ks hcs hkeys himp
    subst hkeys
    by_cases hb : a.tmps[s]? = some (.bool want)
    ·left
     have hk : keysHold a ((s, want) :: ks) := by
      intro k hk
      rcases List.mem_cons.1 hk with rfl | hk
      ·exact hb
      ·exact himp hb k hk
     exact ⟨by simp [Region.wanted, hy, hb], hk, condsOf_spec hr hcs hk⟩
    ·right
     refine ⟨?_, fun hk => hb (hk (s, want) (by simp))⟩
     simp only [Region.wanted, hy]
     split
     ·rename_i b hb'
      rw [hb'] at hb
      have : b ≠ want := fun e => hb (by rw [e])
      simpa using this
     ·rfl
   split at h
   ·rename_i ks u hl
    split at h
    ·rename_i cs' hcs
     cases h
     refine key ks hcs rfl fun hb => ?_
     rcases hr.gl _ _ _ hl with ⟨h1, _⟩ | ⟨_, e⟩
     ·exact h1
     ·rw [hb] at e; cases e
    ·cases h
   ·split at h
    ·rename_i cs' hcs
     cases h
     exact key [] hcs rfl fun _ k hk => by cases hk
    ·cases h
def ECells (w : World) (v : Value) (size : Nat) (idx : Int) (off : Nat) (l : List CV) : Prop :=
 ∀ a n c, v = .slice (some a) n c → ∀ (j : Nat) (u : Value), (dens l)[j]? = some u → w.cell? ((elemAddr a size idx off).add j) = some u
theorem flatten_get {β : Type} {size : Nat} : ∀ {L : List (List β)} (_ : ∀ l ∈ L, l.length = size) {k : Nat} {row : List β} (_ : L[k]? = some row) (j : Nat), j < size → L.flatten[k * size + j]? = row[j]?
 | [], _, k, row, h, j, _ => by simp at h
 | l :: L, hl, 0, row, h, j, hj => by
  simp at h; subst h
  have := hl l (by simp)
  simp only [List.flatten_cons, Nat.zero_mul, Nat.zero_add]
  rw [List.getElem?_append_left (by omega)]
 | l :: L, hl, k + 1, row, h, j, hj => by
  have h' : L[k]? = some row := by simpa using h
  have e := hl l (by simp)
  have := flatten_get (fun x hx => hl x (by simp [hx])) h' j hj
  simp only [List.flatten_cons]
  rw [List.getElem?_append_right (by rw [e, Nat.add_mul]; omega), e, show (k + 1) * size + j - size = k * size + j by rw [Nat.add_mul]; omega]
  exact this
theorem addr_add (g o n : Nat) : (⟨g, o, none⟩ : Addr).add n = ⟨g, o + n, none⟩ := by unfold Addr.add; split <;> simp_all
theorem row_cells {w : World} {v : Value} {E size : Nat} {L : List (List CV)} (h : (LO.row v E size L).holds w) {k : Nat} {row : List CV} (hk : L[k]? = some row) : ECells w v size k 0 row := by
 obtain ⟨⟨hlen, hv⟩, hl⟩ := h
 intro a n c e j u hu
 have hrow : row.length = size := hl row (List.mem_of_getElem? hk)
 have hj : j < size := by
  rcases Nat.lt_or_ge j size with h' | h'
  ·exact h'
  ·rw [List.getElem?_eq_none (by simp [dens, hrow, h'])] at hu; cases hu
 have hkl : k < L.length := by
  rcases Nat.lt_or_ge k L.length with h' | h'
  ·exact h'
  ·rw [List.getElem?_eq_none h'] at hk; cases hk
 rcases hv with ⟨rfl, _⟩ | ⟨g, o, cap, cur, rfl, hg, hn, hc, hs, htake⟩
 ·cases e
 ·cases e
  have e2 : (dens L.flatten)[k * size + j]? = some u := by
   simp only [dens, List.getElem?_map] at hu ⊢
   rw [flatten_get hl hk j hj]; exact hu
  rw [← htake] at e2
  have hb : k * size + j < L.length * size := by
   have : (k + 1) * size ≤ L.length * size := Nat.mul_le_mul_right _ (by omega)
   rw [Nat.add_mul] at this; omega
  rw [List.getElem?_take_of_lt hb, List.getElem?_drop] at e2
  have ea : (elemAddr (⟨g, o, none⟩ : Addr) size (k : Int) 0).add j = ⟨g, o + (k * size + j), none⟩ := by
   unfold elemAddr
   rw [Int.toNat_natCast, addr_add, addr_add, addr_add]
   simp
  rw [ea, cell_of_row w g _ _ _ _ hg]
  simpa using e2
theorem ECells.part {w : World} {v : Value} {size : Nat} {i : Int} {off n : Nat} {l l' : List CV} (h : ECells w v size i 0 l) (ht : takeCells off n l = some l') : ECells w v size i off l' := by
 intro a m c e j u hu
 obtain ⟨h1, h2⟩ := takeCells_spec ht
 have hj : j < n := by
  rcases Nat.lt_or_ge j n with h' | h'
  ·exact h'
  ·rw [List.getElem?_eq_none (by simp [dens, h1, h'])] at hu; cases hu
 have := h a m c e (off + j) u (by
  have e2 := h2 j hj
  simp only [dens, List.getElem?_map] at hu ⊢
  rw [e2]; exact hu)
 have ea : (elemAddr a size i off).add j = (elemAddr a size i 0).add (off + j) := by
  unfold elemAddr Addr.add
  by_cases h0 : off = 0
  ·subst h0; simp
  ·by_cases h1 : j = 0
   ·subst h1; simp
   ·simp [h0, h1, Nat.add_assoc]
 rw [ea]; exact this
def noPsv : SV → Bool
 | .c v => noP v
 | .agg l => noPs l
def noPsvs : List SV → Bool
 | [] => true
 | v :: r => match noPsv v with
  | true => noPsvs r
  | false => false
def noPr : RV → Bool
 | .s v => noPsv v
 | .tup l => noPsvs l
theorem noPsv_ok {hp : List (Nat × LO)} {v : SV} (h : noPsv v = true) : SVok hp v := by
 cases v with
 | c v => exact noP_ok h
 | agg l => exact noPs_ok h
theorem noPsvs_ok {hp : List (Nat × LO)} : ∀ {l : List SV}, noPsvs l = true → ∀ v ∈ l, SVok hp v
 | [], _, v, hv => by cases hv
 | x :: r, h, v, hv => by
  simp only [noPsvs] at h
  split at h
  ·rename_i hx
   rcases List.mem_cons.1 hv with rfl | hv
   ·exact noPsv_ok hx
   ·exact noPsvs_ok h v hv
  ·cases h
theorem noPr_ok {hp : List (Nat × LO)} {v : RV} (h : noPr v = true) : RVok hp v := by
 cases v with
 | s v => exact noPsv_ok h
 | tup l => exact noPsvs_ok h
def opvs (st : St) (cur : Keys) : List Operand → Option (List RV)
 | [] => some []
 | x :: r => match opv st cur x, opvs st cur r with
  | some v, some l => some (v :: l)
  | _, _ => none
def rdens (l : List RV) : Array Value := (l.map RV.den).toArray
def callOf (st : St) (cur : Keys) : Op → Option (FuncId × List Value)
 | .call c => match c.callee with
  | .value f => match opv st cur f, opvs st cur c.args.toList with
   | some (.s (.c (.x (.func (.func g) first caps)))), some l => some (g, first.toList ++ (l.map RV.den ++ caps.toList))
   | _, _ => none
  | _ => none
 | _ => none
def Body (P : Program) (f : FuncId) : Prop := ∃ fn, P.funcs[f]? = some fn ∧ (fn.name == "runtime.NumGoroutine") = false ∧ fn.body.isNone = false
def QCall (P : Program) (st : St) (f : FuncId) (args : List Value) (r : RV) : Prop :=
 (Body P f ∧ ∀ w, Holds st w → Calls P f args.toArray w (fun e w' => e = .returned r.den ∧ Holds st w')) ∨ (∀ w, Holds st w → (callFunc f args.toArray).run P w = .ok (.value r.den) w)
def stepQ (P : Program) (tab : Tab) (ops : Array Oper) (o : Oper) (st : St) (K : St → Prop) : Prop :=
 match guardOf st ops o.guard with
 | none => False
 | some (keys, cs) =>
  match pev tab st st.hp keys o.op with
  | some (obs, v) => match put st o.dst keys v with
   | some st' => obl cs obs (K st')
   | none => False
  | none => match callOf st keys o.op with
   | some (f, args) => ∃ r : RV, gimp cs (QCall P st f args r) ∧
    match noPr r with
    | false => False
    | true => match put st o.dst keys r with
     | some st' => K st'
     | none => False
   | none => match o.op with
    | .load t x => match look tab t, opv st keys x with
     | some ti, some (.s (.c (.e v size idx off))) => ∃ l : List CV, gimp cs (∀ w, Holds st w → ECells w v size idx off l) ∧
      match Nat.beq l.length ti.size, noPs l, mkSV ti.agg l with
      | true, true, some u => match put st o.dst keys (.s u) with
       | some st' => K st'
       | none => False
      | _, _, _ => False
     | some ti, some (.s (.c (.r id v size idx off))) => match look st.hp id with
      | some (.row v0 _ size0 L) => ∃ row : List CV, gimp cs (v = v0 ∧ size = size0 ∧ 0 ≤ idx ∧ L[idx.toNat]? = some row) ∧
       match takeCells off ti.size row with
       | some l => match mkSV ti.agg l with
        | some u => match put st o.dst keys (.s u) with
         | some st' => K st'
         | none => False
        | none => False
       | none => False
      | _ => False
     | _, _ => False
    | _ => False
theorem opvs_spec {st : St} {a : Act} {cur : Keys} (hr : Rel st a) (hk : keysHold a cur) : ∀ {l : List Operand} {vs : List RV}, opvs st cur l = some vs → l.map a.eval = vs.map RV.den
 | [], vs, h => by simp only [opvs] at h; cases h; rfl
 | x :: r, vs, h => by
  simp only [opvs] at h
  split at h
  ·rename_i v l hv hl
   cases h
   simp [eval_opv hr hk hv, opvs_spec hr hk hl]
  ·cases h
theorem callOf_run {P : Program} {st : St} {a : Act} {cur : Keys} {o : Oper} {f : FuncId} {args : List Value} (hr : Rel st a) (hk : keysHold a cur)
  (h : callOf st cur o.op = some (f, args)) (w : World) : (execOp a.eval o).run P w = (callFunc f args.toArray).run P w := by
 obtain ⟨dst, op, type, pos, after, guard⟩ := o
 dsimp only at h
 unfold callOf at h
 split at h
 ·rename_i c
  obtain ⟨callee, cargs, argTypes⟩ := c
  dsimp only at h
  split at h
  ·rename_i g
   split at h
   ·rename_i fid first caps l hf hl
    cases h
    have ef := eval_opv hr hk hf
    simp only [RV.den, SV.den, CV.den] at ef
    have ea := opvs_spec hr hk hl
    have ea' : first ++ Array.map a.eval cargs ++ caps = (first.toList ++ (l.map RV.den ++ caps.toList)).toArray := by
     apply Array.ext'
     simp [ea]
    simp only [execOp, resolve, ef, Deferred.ofValue, Sem.run_bind, Sem.run_pure, Result.andThen_ok, invoke, ea']
   ·cases h
  ·cases h
 ·cases h
theorem callOf_spec {P : Program} {st : St} {a : Act} {cur : Keys} {o : Oper} {f : FuncId} {args : List Value} (hr : Rel st a) (hk : keysHold a cur)
  (h : callOf st cur o.op = some (f, args)) (hb : Body P f) (w : World) : (execOp a.eval o).run P w = .ok (.enter f args.toArray) w := by
 obtain ⟨fn, hfn, hname, hbody⟩ := hb
 rw [callOf_run hr hk h w]
 simp only [callFunc, Sem.run_bind, run_program, Result.andThen_ok, hfn, hname, hbody, Bool.false_eq_true, if_false, Sem.run_pure]
def SameW (st st' : St) : Prop := st'.hp = st.hp ∧ st'.S = st.S ∧ st'.ws = st.ws ∧ st'.N = st.N
theorem SameW.refl (st : St) : SameW st st := ⟨rfl, rfl, rfl, rfl⟩
theorem SameW.trans {a b c : St} (h : SameW a b) (k : SameW b c) : SameW a c :=
 ⟨k.1.trans h.1, k.2.1.trans h.2.1, k.2.2.1.trans h.2.2.1, k.2.2.2.trans h.2.2.2⟩
theorem SameW.symm {a b : St} (h : SameW a b) : SameW b a := ⟨h.1.symm, h.2.1.symm, h.2.2.1.symm, h.2.2.2.symm⟩
theorem SameW.holds {st st' : St} (h : SameW st st') {w : World} (hw : Holds st w) : Holds st' w := holds_congr h hw
theorem stepQ_sound {P : Program} {tab : Tab} {ops : Array Oper} {o : Oper} {st st0 : St} {K : St → Prop} {a : Act} (hT : TabOk P tab) (h : stepQ P tab ops o st K) (hwf : WF st) (hr : Rel st a)
  (h0 : SameW st0 st) {next : Act → Prop} (hn : ∀ st' a', K st' → WF st' → Rel st' a' → SameW st0 st' → next a') :
  if Region.wanted o (yielded ops a.tmps) then o.quiet P a (Holds st0) next else next (a.put o.dst undef) := by
 unfold stepQ at h
 split at h
 ·exact h.elim
 ·rename_i keys cs hg
  have hto : ∀ w, Holds st0 w → Holds st w := fun w hw => h0.holds hw
  rcases guardOf_spec hr hg with ⟨hwant, hkeys, hcs⟩ | ⟨hwant, hkeys⟩
  ·rw [if_pos hwant]
   split at h
   ·rename_i obs v hpev
    split at h
    ·rename_i st' hput
     obtain ⟨h1, h2⟩ := obl_out h
     have hob : ∀ p ∈ obs, p := fun p hp => gimp_out (h1 p hp) hcs
     refine ⟨v.den, fun w hw => ?_, hn st' _ h2 (put_wf hput hwf fun _ => pev_ok hT hwf hr hkeys (fun _ _ h => h) hpev hob) (put_rel hput hr (.inl ⟨hkeys, rfl, pev_ok hT hwf hr hkeys (fun _ _ h => h) hpev hob⟩)) (h0.trans (put_world hput))⟩
     unfold Oper.quietAt
     rw [pev_sound hT hwf hr hkeys (fun _ _ h => h) hpev hob (hto w hw).objs]
     exact ⟨rfl, rfl⟩
    ·exact h.elim
   ·split at h
    ·rename_i f args hcall
     obtain ⟨r, h1, h2⟩ := h
     have hq := gimp_out h1 hcs
     split at h2
     ·exact h2.elim
     ·rename_i hnp
      split at h2
      ·rename_i st' hput
       refine ⟨r.den, fun w hw => ?_, hn st' _ h2 (put_wf hput hwf fun _ => noPr_ok hnp) (put_rel hput hr (.inl ⟨hkeys, rfl, noPr_ok hnp⟩)) (h0.trans (put_world hput))⟩
       unfold Oper.quietAt
       rcases hq with ⟨hbody, hcalls⟩ | hrun
       ·rw [callOf_spec hr hkeys hcall hbody w]
        refine ⟨rfl, (hcalls w (hto w hw)).mono fun e w' ⟨he, hw'⟩ => ⟨he, h0.symm.holds hw'⟩⟩
       ·rw [callOf_run hr hkeys hcall w, hrun w (hto w hw)]
        exact ⟨rfl, rfl⟩
      ·exact h2.elim
    ·split at h
     ·rename_i t x hop
      split at h
      ·rename_i ti v size idx off hti hx
       obtain ⟨l, h1, h2⟩ := h
       have hcells := gimp_out h1 hcs
       split at h2
       ·rename_i u hlen hnp hmk
        split at h2
        ·rename_i st' hput
         have hok := opv_ok hwf hr hkeys hx
         obtain ⟨ad, n, c, rfl⟩ := hok
         refine ⟨u.den, fun w hw => ?_, hn st' _ h2 (put_wf hput hwf fun _ => mkSV_ok hmk (noPs_ok hnp)) (put_rel hput hr (.inl ⟨hkeys, rfl, mkSV_ok hmk (noPs_ok hnp)⟩)) (h0.trans (put_world hput))⟩
         have ex := eval_opv hr hkeys hx
         simp only [RV.den, SV.den, CV.den, elemPtr] at ex
         have e := ok_loadVar (hT _ _ hti) (a := elemAddr ad size idx off) (Nat.eq_of_beq_eq_true hlen) hmk (w := w) (fun j q hq => hcells w (hto w hw) ad n c rfl j q hq)
         unfold Oper.quietAt
         obtain ⟨dst, op, type, pos, after, guard⟩ := o
         dsimp only at hop
         subst hop
         have : (execOp a.eval ⟨dst, .load t x, type, pos, after, guard⟩).run P w = .ok (.value u.den) w := by
          simp [execOp, ex, Instr.loadAt, Instr.sureAddr, e]
         rw [this]
         exact ⟨rfl, rfl⟩
        ·exact h2.elim
       ·exact h2.elim
      ·rename_i ti id v size idx off hti hx
       split at h
       ·rename_i v0 E size0 L hob
        obtain ⟨row, h1, h2⟩ := h
        obtain ⟨rfl, rfl, h0i, hrow⟩ := gimp_out h1 hcs
        split at h2
        ·rename_i l hl
         split at h2
         ·rename_i u hmk
          split at h2
          ·rename_i st' hput
           have hok := opv_ok hwf hr hkeys hx
           obtain ⟨ad, n, c, rfl⟩ := hok
           have hcok : ∀ c ∈ l, CVok st.hp c := fun c hc => (hwf.row _ _ _ _ _ (look_mem hob)).2 row (List.mem_of_getElem? hrow) c (takeCells_mem hl c hc)
           refine ⟨u.den, fun w hw => ?_, hn st' _ h2 (put_wf hput hwf fun _ => mkSV_ok hmk hcok) (put_rel hput hr (.inl ⟨hkeys, rfl, mkSV_ok hmk hcok⟩)) (h0.trans (put_world hput))⟩
           have ex := eval_opv hr hkeys hx
           simp only [RV.den, SV.den, CV.den, elemPtr] at ex
           have hobj := (hto w hw).objs _ (look_mem hob)
           have hcells := (row_cells hobj hrow).part hl
           rw [Int.toNat_of_nonneg h0i] at hcells
           have e := ok_loadVar (hT _ _ hti) (a := elemAddr ad size idx off) (takeCells_spec hl).1 hmk (w := w) (fun j q hq => hcells ad n c rfl j q hq)
           unfold Oper.quietAt
           obtain ⟨dst, op, type, pos, after, guard⟩ := o
           dsimp only at hop
           subst hop
           have : (execOp a.eval ⟨dst, .load t x, type, pos, after, guard⟩).run P w = .ok (.value u.den) w := by
            simp [execOp, ex, Instr.loadAt, Instr.sureAddr, e]
           rw [this]
           exact ⟨rfl, rfl⟩
          ·exact h2.elim
         ·exact h2.elim
        ·exact h2.elim
       ·exact h.elim
      ·exact h.elim
     ·exact h.elim
  ·rw [if_neg (by rw [hwant]; simp)]
   have fin : ∀ {v : RV} {st' : St}, put st o.dst keys v = some st' → K st' → next (a.put o.dst undef) := fun {v st'} hput hk =>
    hn st' _ hk (put_wf hput hwf fun e => (hkeys (by rw [e]; intro k hk; cases hk)).elim) (put_rel hput hr (.inr ⟨hkeys, rfl⟩)) (h0.trans (put_world hput))
   split at h
   ·rename_i obs v hpev
    split at h
    ·rename_i st' hput
     obtain ⟨h1, h2⟩ := obl_out h
     exact fin hput h2
    ·exact h.elim
   ·split at h
    ·rename_i f args hcall
     obtain ⟨r, h1, h2⟩ := h
     split at h2
     ·exact h2.elim
     ·rename_i hnp
      split at h2
      ·rename_i st' hput
       exact fin hput h2
      ·exact h2.elim
    ·split at h
     ·split at h
      ·obtain ⟨l, h1, h2⟩ := h
       split at h2
       ·rename_i u hlen hnp hmk
        split at h2
        ·rename_i st' hput
         exact fin hput h2
        ·exact h2.elim
       ·exact h2.elim
      ·split at h
       ·obtain ⟨row, h1, h2⟩ := h
        split at h2
        ·split at h2
         ·split at h2
          ·rename_i st' hput
           exact fin hput h2
          ·exact h2.elim
         ·exact h2.elim
        ·exact h2.elim
       ·exact h.elim
      ·exact h.elim
     ·exact h.elim
end Go.Vd
