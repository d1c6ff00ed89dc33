/- Texts that the law leans on. -/
import Derived.WalkKit
import Derived.Deep.Quiet
set_option linter.unusedVariables false
set_option linter.unusedSimpArgs false
namespace Go.Vc
open Go.RowKit
structure Fr (S : List Nat) (w w' : World) : Prop where
 os : w'.os = w.os
 tape : w'.tape = w.tape
 output : w'.output = w.output
 size : w.heap.size ≤ w'.heap.size
 block : ∀ k, k < w.heap.size → k ∉ S → w'.heap[k]? = w.heap[k]?
theorem Fr.refl (S : List Nat) (w : World) : Fr S w w := ⟨rfl, rfl, rfl, Nat.le_refl _, fun _ _ _ => rfl⟩
theorem Fr.trans {S : List Nat} {a b c : World} (h : Fr S a b) (k : Fr S b c) : Fr S a c :=
 ⟨k.os.trans h.os, k.tape.trans h.tape, k.output.trans h.output, Nat.le_trans h.size k.size,
  fun i hi hs => (k.block i (Nat.lt_of_lt_of_le hi h.size) hs).trans (h.block i hi hs)⟩
theorem Fr.mono {S T : List Nat} {a b : World} (h : Fr S a b) (hs : ∀ k, k ∈ S → k ∈ T ∨ a.heap.size ≤ k) : Fr T a b :=
 ⟨h.os, h.tape, h.output, h.size, fun k hk hn => h.block k hk fun hm => (hs k hm).elim hn (fun h => by omega)⟩
theorem Fr.drew {S : List Nat} {a b : World} (h : Fr S a b) : Fr S a b.drew := ⟨h.os, h.tape, h.output, h.size, h.block⟩
theorem Fr.alloc {S : List Nat} {a b : World} (h : Fr S a b) (o : Obj) : Fr S a (b.alloc o) :=
 ⟨h.os, h.tape, h.output, by have := h.size; show a.heap.size ≤ (b.heap.push o).size; rw [Array.size_push]; omega, fun k hk hs => by
  have := h.size
  show (b.heap.push o)[k]? = _
  rw [Array.getElem?_push, if_neg (by omega)]; exact h.block k hk hs⟩
theorem Fr.setRow {S : List Nat} {a b : World} (h : Fr S a b) {g : Nat} (hg : g ∈ S ∨ a.heap.size ≤ g) (cs : Array Value) : Fr S a (b.setRow g cs) :=
 ⟨h.os, h.tape, h.output, by have := h.size; simp [World.setRow]; omega, fun k hk hs => by
  have hne : k ≠ g := fun e => hg.elim (fun h' => hs (e ▸ h')) (fun h' => by omega)
  rw [setRow_other b g k cs hne]; exact h.block k hk hs⟩
abbrev Ext (w w' : World) : Prop := Fr [] w w'
theorem Ext.fr {w w' : World} (h : Ext w w') (S : List Nat) : Fr S w w' := h.mono fun k hk => by simp at hk
theorem Ext.of_below {w w' : World} (h : Below w.heap.size w w') : Ext w w' := ⟨h.os, h.tape, h.output, h.size, fun k hk _ => h.block k hk⟩
theorem Ext.below {w w' : World} (h : Ext w w') : Below w.heap.size w w' := ⟨h.os, h.tape, h.output, h.size, fun k hk => h.block k hk (by simp)⟩
def elemAddr (a : Addr) (size : Nat) (idx : Int) (off : Nat) : Addr := (a.add (idx.toNat * size)).add off
def elemPtr (v : Value) (size : Nat) (idx : Int) (off : Nat) : Value :=
 match v with
 | .slice (some a) _ _ => .pointer (some (elemAddr a size idx off))
 | _ => .pointer none
def bs (l : List UInt8) : ByteArray := ⟨⟨l⟩⟩
inductive CV where
 | i (n : Int)
 | b (x : Bool)
 | x (v : Value)
 | p (id blk off : Nat)
 | e (v : Value) (size : Nat) (idx : Int) (off : Nat)
 | o (id : Nat) (v : Value)
 | r (id : Nat) (v : Value) (size : Nat) (idx : Int) (off : Nat)
 | q (id blk n : Nat)
 | s (l : List UInt8)
def CV.den : CV → Value
 | .i n => .int .i64 n
 | .b t => .bool t
 | .x v => v
 | .p _ blk off => .pointer (some ⟨blk, off, none⟩)
 | .e v size idx off => elemPtr v size idx off
 | .o _ v => v
 | .r _ v size idx off => elemPtr v size idx off
 | .q _ blk n => .slice (some ⟨blk, 0, none⟩) n n
 | .s l => .string (bs l)
inductive SV where
 | c (v : CV)
 | agg (l : List CV)
def dens (l : List CV) : List Value := l.map CV.den
def SV.den : SV → Value
 | .c v => v.den
 | .agg l => .agg (dens l).toArray
inductive RV where
 | s (v : SV)
 | tup (l : List SV)
def RV.den : RV → Value
 | .s v => v.den
 | .tup l => .tuple (l.map SV.den).toArray
@[reducible] def RV.i (n : Int) : RV := .s (.c (.i n))
@[reducible] def RV.b (x : Bool) : RV := .s (.c (.b x))
@[reducible] def RV.x (v : Value) : RV := .s (.c (.x v))
inductive LO where
 | box (blk : Nat) (T : TypeId) (cells : List CV)
 | row (v : Value) (E size : Nat) (L : List (List CV))
 | ab (B : List Nat) (Q : World → Prop)
def nub (B : List Nat) : List Nat := B.foldr (fun x l => bif l.any (Nat.beq x) then l else x :: l) []
theorem mem_nub {B : List Nat} {b : Nat} : b ∈ nub B ↔ b ∈ B := by
 induction B with
 | nil => exact Iff.rfl
 | cons x l ih =>
  simp only [nub, List.foldr_cons]
  cases h : (List.foldr (fun x l => bif l.any (Nat.beq x) then l else x :: l) [] l).any (Nat.beq x)
  ·simp only [cond_false, List.mem_cons]
   exact or_congr Iff.rfl ih
  ·simp only [cond_true, List.mem_cons]
   rw [List.any_eq_true] at h
   obtain ⟨y, hy, e⟩ := h
   have := Nat.eq_of_beq_eq_true e
   subst this
   constructor
   ·exact fun hb => .inr (ih.1 hb)
   ·rintro (rfl | hb)
    ·exact hy
    ·exact ih.2 hb
theorem nub_nodup (B : List Nat) : (nub B).Nodup := by
 induction B with
 | nil => exact List.nodup_nil
 | cons x l ih =>
  simp only [nub, List.foldr_cons]
  cases h : (List.foldr (fun x l => bif l.any (Nat.beq x) then l else x :: l) [] l).any (Nat.beq x)
  ·simp only [cond_false, List.nodup_cons]
   refine ⟨fun hm => ?_, ih⟩
   have : (List.foldr (fun x l => bif l.any (Nat.beq x) then l else x :: l) [] l).any (Nat.beq x) = true := List.any_eq_true.2 ⟨x, hm, Nat.beq_refl x⟩
   rw [this] at h; cases h
  ·exact ih
def ownsAt (w : World) (E size : Nat) (v : Value) (n : Nat) (xs : List Value) : Prop :=
 xs.length = n * size ∧ ((v = .slice none 0 0 ∧ n = 0) ∨
  ∃ g o cap cur, v = .slice (some ⟨g, o, none⟩) n cap ∧ w.heap[g]? = some (.cells cur E (0, 0)) ∧ n ≤ cap ∧ cap ≤ maxLen ∧ o + cap * size ≤ cur.size ∧ (cur.toList.drop o).take (n * size) = xs)
def blkOf : Value → List Nat
 | .slice (some a) _ _ => [a.block]
 | _ => []
def LO.holds (w : World) : LO → Prop
 | .box blk T cells => w.heap[blk]? = some (.cells (dens cells).toArray T (0, 0))
 | .row v E size L => ownsAt w E size v L.length (dens L.flatten) ∧ ∀ l ∈ L, l.length = size
 | .ab B Q => (∀ b ∈ B, b < w.heap.size) ∧ ∀ w' : World, (∀ b ∈ B, w'.heap[b]? = w.heap[b]?) → Q w'
def LO.blks : LO → List Nat
 | .box blk _ _ => [blk]
 | .row v _ _ _ => blkOf v
 | .ab B _ => nub B
abbrev Keys := List (Nat × Bool)
structure St where
 N : Nat
 sl : List (Nat × Option RV)
 gl : List (Nat × Keys × RV)
 hp : List (Nat × LO)
 S : List Nat
 ws : World
 df : List Deferred := []
def St.setHp : St → List (Nat × LO) → St
 | ⟨N, sl, gl, _, S, ws, df⟩, hp => ⟨N, sl, gl, hp, S, ws, df⟩
def St.endR : St → St
 | ⟨N, sl, _, hp, S, ws, df⟩ => ⟨N, sl, [], hp, S, ws, df⟩
def St.blks (st : St) : List Nat := st.hp.flatMap fun o => o.2.blks
structure Holds (st : St) (w : World) : Prop where
 objs : ∀ o ∈ st.hp, o.2.holds w
 nodup : st.blks.Nodup
 fr : Fr st.S st.ws w
 own : ∀ b ∈ st.blks, b ∈ st.S ∨ st.ws.heap.size ≤ b
def look {α : Type} : List (Nat × α) → Nat → Option α
 | [], _ => none
 | (t, v) :: r, s => match Nat.beq t s with
  | true => some v
  | false => look r s
def keysHold (a : Act) (ks : Keys) : Prop := ∀ k ∈ ks, a.tmps[k.1]? = some (.bool k.2)
def CVok (hp : List (Nat × LO)) : CV → Prop
 | .p id blk _ => ∃ T cells, look hp id = some (.box blk T cells)
 | .e v _ _ _ => ∃ a n c, v = .slice (some a) n c
 | .r _ v _ _ _ => ∃ a n c, v = .slice (some a) n c
 | .o _ v => ∃ a n c, v = .slice a n c
 | _ => True
def SVok (hp : List (Nat × LO)) : SV → Prop
 | .c v => CVok hp v
 | .agg l => ∀ c ∈ l, CVok hp c
def RVok (hp : List (Nat × LO)) : RV → Prop
 | .s v => SVok hp v
 | .tup l => ∀ v ∈ l, SVok hp v
structure Rel (st : St) (a : Act) : Prop where
 size : a.tmps.size = st.N
 defers : a.defers = st.df
 sl : ∀ s v, look st.sl s = some (some v) → a.tmps[s]? = some v.den
 gl : ∀ s ks v, look st.gl s = some (ks, v) → (keysHold a ks ∧ a.tmps[s]? = some v.den ∧ RVok st.hp v) ∨ (¬ keysHold a ks ∧ a.tmps[s]? = some undef)
structure WF (st : St) : Prop where
 sl : ∀ s v, (s, some v) ∈ st.sl → RVok st.hp v
 hp : ∀ id b T cells, (id, LO.box b T cells) ∈ st.hp → ∀ c ∈ cells, CVok st.hp c
 row : ∀ id v E size L, (id, LO.row v E size L) ∈ st.hp → (0 < L.length → ∃ a n c, v = .slice (some a) n c) ∧ ∀ l ∈ L, ∀ c ∈ l, CVok st.hp c
def noP : CV → Bool
 | .p _ _ _ => false
 | .e _ _ _ _ => false
 | .r _ _ _ _ _ => false
 | .o _ _ => false
 | _ => true
def noPs : List CV → Bool
 | [] => true
 | c :: r => match noP c with
  | true => noPs r
  | false => false
theorem noP_ok {hp : List (Nat × LO)} {c : CV} (h : noP c = true) : CVok hp c := by
 cases c <;> simp [noP, CVok] at *
theorem noPs_ok {hp : List (Nat × LO)} {l : List CV} (h : noPs l = true) : ∀ c ∈ l, CVok hp c := by
 induction l with
 | nil => intro c hc; cases hc
 | cons x r ih =>
  simp only [noPs] at h
  split at h
  ·rename_i hx
   intro c hc
   rcases List.mem_cons.1 hc with rfl | hc
   ·exact noP_ok hx
   ·exact ih h c hc
  ·cases h
def subKeys : Keys → Keys → Bool
 | [], _ => true
 | k :: r, l => l.any (fun m => Nat.beq m.1 k.1 && (m.2 == k.2)) && subKeys r l
def ofConst : Value → RV
 | .int .i64 n => .s (.c (.i n))
 | .bool x => .s (.c (.b x))
 | .string x => .s (.c (.s x.data.toList))
 | v => .s (.c (.x v))
theorem ofConst_den (v : Value) : (ofConst v).den = v := by
 unfold ofConst; split <;> rfl
def opv (st : St) (cur : Keys) : Operand → Option RV
 | .tmp t => match look st.gl t with
  | some (ks, v) => match subKeys ks cur with
   | true => some v
   | false => none
  | none => match look st.sl t with
   | some (some v) => some v
   | _ => none
 | .const v => some (ofConst v)
 | .global g => some (.s (.c (.e (.slice (some ⟨g, 0, none⟩) 1 1) 0 0 0)))
 | .func f => some (.s (.c (.x (.func (.func f) #[] #[]))))
theorem look_mem {α : Type} {l : List (Nat × α)} {s : Nat} {v : α} (h : look l s = some v) : (s, v) ∈ l := by
 induction l with
 | nil => cases h
 | cons x r ih =>
  obtain ⟨t, u⟩ := x
  simp only [look] at h
  split at h
  ·rename_i hb
   cases h
   rw [← Nat.eq_of_beq_eq_true hb]; exact .head _
  ·exact .tail _ (ih h)
theorem subKeys_spec {ks l : Keys} (h : subKeys ks l = true) : ∀ k ∈ ks, k ∈ l := by
 induction ks with
 | nil => intro k hk; cases hk
 | cons x r ih =>
  simp only [subKeys, Bool.and_eq_true, List.any_eq_true] at h
  obtain ⟨⟨m, hm, h1, h2⟩, h3⟩ := h
  intro k hk
  rcases List.mem_cons.1 hk with rfl | hk
  ·have e1 := Nat.eq_of_beq_eq_true h1
   have e2 : m.2 = k.2 := by simpa using h2
   have : m = k := Prod.ext e1 e2
   exact this ▸ hm
  ·exact ih h3 k hk
theorem opv_ok {st : St} {a : Act} {cur : Keys} (hwf : WF st) (hr : Rel st a) (hk : keysHold a cur) {x : Operand} {v : RV} (h : opv st cur x = some v) : RVok st.hp v := by
 cases x with
 | tmp t =>
  simp only [opv] at h
  split at h
  ·rename_i ks u hg
   split at h
   ·rename_i hs
    cases h
    rcases hr.gl _ _ _ hg with ⟨_, _, h1⟩ | ⟨h1, _⟩
    ·exact h1
    ·exact (h1 fun k hk' => hk k (subKeys_spec hs k hk')).elim
   ·cases h
  ·rename_i hg
   split at h
   ·rename_i u hl
    cases h; exact hwf.sl _ _ (look_mem hl)
   ·cases h
 | const u =>
  simp only [opv] at h; cases h
  unfold ofConst; split <;> trivial
 | global g => simp only [opv] at h; cases h; exact ⟨_, _, _, rfl⟩
 | func f => simp only [opv] at h; cases h; trivial
theorem eval_opv {st : St} {a : Act} {cur : Keys} (hr : Rel st a) (hk : keysHold a cur) {x : Operand} {v : RV} (h : opv st cur x = some v) : a.eval x = v.den := by
 cases x with
 | tmp t =>
  simp only [opv] at h
  simp only [Act.eval, Array.getD_eq_getD_getElem?]
  split at h
  ·rename_i ks u hg
   split at h
   ·rename_i hs
    cases h
    rcases hr.gl t ks v hg with ⟨_, h1, _⟩ | ⟨h1, _⟩
    ·rw [h1]; rfl
    ·exact (h1 fun k hk' => hk k (subKeys_spec hs k hk')).elim
   ·cases h
  ·rename_i hg
   split at h
   ·rename_i u hl
    cases h
    rw [hr.sl t v hl]; rfl
   ·cases h
 | const u => simp only [opv] at h; cases h; simp [Act.eval, ofConst_den]
 | global g => simp only [opv] at h; cases h; simp [Act.eval, RV.den, SV.den, CV.den, elemPtr, elemAddr, Addr.add]
 | func f => simp only [opv] at h; cases h; rfl
structure TI where
 kind : Nat
 size : Nat
 zero : List CV
 flds : List (Nat × Nat × Bool) := []
 elem : Nat := 0
 esize : Nat := 0
 ebytes : Nat := 0
 cmp : Bool := false
abbrev Tab := List (Nat × TI)
def TI.agg (ti : TI) : Bool :=
 match Nat.beq ti.kind 2 with
 | true => true
 | false => Nat.beq ti.kind 3
def zeroEq : Value → CV → Bool
 | .int .i64 n, .i m => n == m
 | .bool x, .b y => x == y
 | .slice none 0 0, .x (.slice none 0 0) => true
 | .string s, .s l => s.size == 0 && l.isEmpty
 | .pointer none, .x (.pointer none) => true
 | .nilIface, .x .nilIface => true
 | .nilFunc, .x .nilFunc => true
 | .map none, .x (.map none) => true
 | .int .u8 n, .x (.int .u8 m) => n == m
 | .int .u64 n, .x (.int .u64 m) => n == m
 | .int .i32 n, .x (.int .i32 m) => n == m
 | .int .u32 n, .x (.int .u32 m) => n == m
 | _, _ => false
theorem zeroEq_spec {v : Value} {c : CV} (h : zeroEq v c = true) : v = c.den := by
 unfold zeroEq at h
 split at h
 case h_4 s l =>
  simp only [Bool.and_eq_true, beq_iff_eq, List.isEmpty_iff] at h
  obtain ⟨h1, rfl⟩ := h
  cases s with | mk d => cases d with | mk r => cases r with
   | nil => rfl
   | cons x q => cases h1
 all_goals simp_all [CV.den]
def zerosEq : List Value → List CV → Bool
 | [], [] => true
 | v :: r, c :: q => zeroEq v c && zerosEq r q
 | _, _ => false
theorem zerosEq_spec : ∀ {l : List Value} {c : List CV}, zerosEq l c = true → l = dens c
 | [], [], _ => rfl
 | v :: r, c :: q, h => by
  simp only [zerosEq, Bool.and_eq_true] at h
  simp only [dens, List.map_cons, List.cons.injEq]
  exact ⟨zeroEq_spec h.1, zerosEq_spec h.2⟩
def mkSV (agg : Bool) (l : List CV) : Option SV :=
 match agg with
 | true => some (.agg l)
 | false => match l with
  | [c] => some (.c c)
  | _ => none
def isAggD : TypeDesc → Bool
 | .struct _ | .array _ _ => true
 | _ => false
def fldsOk (P : Program) : List Field → List (Nat × Nat × Bool) → Bool
 | [], [] => true
 | f :: r, (o, n, g) :: q => (f.offset == o) && (match P.info? f.type with | some j => (j.size == n) && (n != 0) | none => false) && (match P.underlying f.type with | some d => isAggD d == g | none => false) && fldsOk P r q
 | _, _ => false
def ik : IntKind → Nat
 | .i64 => 6
 | .u64 => 7
 | .u8 => 10
 | .i32 => 11
 | .u32 => 14
 | _ => 0
def cmpF (P : Program) (rec : TypeId → Option Nat) : List Field → Nat → Option Nat
 | [], o => some o
 | f :: r, o => if f.name ≠ "_" ∧ f.offset = o then
   match P.underlying f.type with
   | some (.int .i64) => cmpF P rec r (o + 1)
   | some (.struct _) => match rec f.type, P.info? f.type with
    | some n, some i => if i.size = n then cmpF P rec r (o + n) else none
    | _, _ => none
   | _ => none
  else none
def cmpB (P : Program) : Nat → TypeId → Option Nat
 | 0, _ => none
 | d + 1, t => match P.underlying t with
  | some (.struct fs) => match P.stoodInHeld t with
   | true => none
   | false => cmpF P (cmpB P d) fs.toList 0
  | _ => none
def cmpOk (P : Program) (t : TypeId) (n : Nat) : Bool := (cmpB P 8 t == some n) && !P.eqGuardType P.depth t
def chkTI (P : Program) (t : TypeId) (ti : TI) : Bool :=
 match P.info? t, P.underlying t with
 | some i, some d =>
  ((i.size == ti.size) && (ti.zero.length == ti.size)) && (match i.zero with | some z => zerosEq z.cells.toList ti.zero && (match z with | .agg _ => ti.agg | _ => !ti.agg) | none => false) && (isAggD d == ti.agg) &&
  (match d with
   | .struct fs => (ti.kind == 2) && (fldsOk P fs.toList ti.flds && (!ti.cmp || cmpOk P t ti.size))
   | .slice e => (ti.kind == 1) && (e == ti.elem) && (match P.info? e with | some j => (j.size == ti.esize) && (j.bytes == ti.ebytes) | none => false)
   | .string => ti.kind == 4
   | .bool => ti.kind == 5
   | .int k => ti.kind == ik k
   | .array n e => (ti.kind == 3) && (e == ti.elem) && (n == ti.ebytes) && (match P.info? e with | some j => j.size == ti.esize | none => false)
   | .pointer _ => ti.kind == 8
   | .interface _ => ti.kind == 9
   | .map k e => (ti.kind == 12) && (k == ti.elem) && (e == ti.esize)
   | .func _ _ _ => ti.kind == 13
   | _ => ti.kind == 0)
 | _, _ => false
def TabOk (P : Program) (tab : Tab) : Prop := ∀ t ti, look tab t = some ti → chkTI P t ti = true
theorem TabOk.of_all {P : Program} {tab : Tab} (h : tab.all (fun x => chkTI P x.1 x.2) = true) : TabOk P tab := by
 intro t ti hl
 induction tab with
 | nil => cases hl
 | cons x r ih =>
  obtain ⟨u, y⟩ := x
  simp only [List.all_cons, Bool.and_eq_true] at h
  simp only [look] at hl
  split at hl
  ·rename_i hb
   cases hl
   rw [← Nat.eq_of_beq_eq_true hb]; exact h.1
  ·exact ih h.2 hl
section
variable {P : Program} {t : TypeId} {ti : TI}
theorem chk_info (h : chkTI P t ti = true) : ∃ i d, P.info? t = some i ∧ P.underlying t = some d ∧ i.size = ti.size ∧ isAggD d = ti.agg ∧
  (∃ z, i.zero = some z ∧ z.cells.toList = dens ti.zero ∧ ti.zero.length = ti.size) := by
 unfold chkTI at h
 split at h
 ·rename_i i d hi hd
  simp only [Bool.and_eq_true, beq_iff_eq] at h
  obtain ⟨⟨⟨h1, h2⟩, h3⟩, h4⟩ := h
  refine ⟨i, d, hi, hd, h1.1, h3, ?_⟩
  split at h2
  ·rename_i z hz
   simp only [Bool.and_eq_true] at h2
   exact ⟨z, hz, zerosEq_spec h2.1, h1.2⟩
  ·cases h2
 ·cases h
theorem chk_slice (h : chkTI P t ti = true) (hk : Nat.beq ti.kind 1 = true) : P.underlying t = some (.slice ti.elem) ∧ ∃ j, P.info? ti.elem = some j ∧ j.size = ti.esize ∧ j.bytes = ti.ebytes := by
 have hk := Nat.eq_of_beq_eq_true hk
 unfold chkTI at h
 split at h
 ·rename_i i d hi hd
  simp only [Bool.and_eq_true, beq_iff_eq] at h
  obtain ⟨_, h4⟩ := h
  cases d with
  | int k => exfalso; cases k <;> simp [hk, ik] at h4
  | slice e =>
   simp [hk] at h4
   obtain ⟨h5, h6⟩ := h4
   split at h6
   ·rename_i j hj
    simp at h6
    subst h5
    exact ⟨hd, j, hj, h6.1, h6.2⟩
   ·cases h6
  | _ => simp [hk] at h4
 ·cases h
theorem fldsOk_spec : ∀ {fs : List Field} {l : List (Nat × Nat × Bool)}, fldsOk P fs l = true → ∀ (k : Nat) o n g, l[k]? = some (o, n, g) →
  ∃ f j d, fs[k]? = some f ∧ f.offset = o ∧ P.info? f.type = some j ∧ j.size = n ∧ n ≠ 0 ∧ P.underlying f.type = some d ∧ isAggD d = g
 | [], [], _, k, o, n, g, hl => by simp at hl
 | f :: r, (o, n, g) :: q, h, k, o', n', g', hl => by
  simp only [fldsOk, Bool.and_eq_true, beq_iff_eq] at h
  obtain ⟨⟨⟨h1, h2⟩, h3⟩, h4⟩ := h
  cases k with
  | zero =>
   simp at hl
   obtain ⟨rfl, rfl, rfl⟩ := hl
   split at h2
   ·rename_i j hj
    split at h3
    ·rename_i d hd
     simp at h2 h3
     exact ⟨f, j, d, by simp, h1, hj, h2.1, h2.2, hd, h3⟩
    ·cases h3
   ·cases h2
  | succ k => simpa using fldsOk_spec h4 k o' n' g' (by simpa using hl)
theorem chk_struct' (h : chkTI P t ti = true) (hk : Nat.beq ti.kind 2 = true) : ∃ fs, P.underlying t = some (.struct fs) ∧ fldsOk P fs.toList ti.flds = true ∧ (ti.cmp = true → cmpOk P t ti.size = true) := by
 have hk := Nat.eq_of_beq_eq_true hk
 unfold chkTI at h
 split at h
 ·rename_i i d hi hd
  simp only [Bool.and_eq_true, beq_iff_eq] at h
  obtain ⟨_, h4⟩ := h
  cases d with
  | int k => exfalso; cases k <;> simp [hk, ik] at h4
  | struct fs =>
   simp [hk] at h4
   exact ⟨_, hd, h4.1, fun hc => h4.2.resolve_left (by simp [hc])⟩
  | _ => simp [hk] at h4
 ·cases h
theorem chk_struct (h : chkTI P t ti = true) (hk : Nat.beq ti.kind 2 = true) : ∃ fs, P.underlying t = some (.struct fs) ∧ fldsOk P fs.toList ti.flds = true :=
 let ⟨fs, h1, h2, _⟩ := chk_struct' h hk; ⟨fs, h1, h2⟩
theorem chk_i64 (h : chkTI P t ti = true) (hk : Nat.beq ti.kind 6 = true) : P.underlying t = some (.int .i64) := by
 have hk := Nat.eq_of_beq_eq_true hk
 unfold chkTI at h
 split at h
 ·rename_i i d hi hd
  simp only [Bool.and_eq_true, beq_iff_eq] at h
  obtain ⟨_, h4⟩ := h
  cases d with
  | int k => cases k <;> first | exact hd | simp [hk, ik] at h4
  | _ => simp [hk] at h4
 ·cases h
theorem chk_u64 (h : chkTI P t ti = true) (hk : Nat.beq ti.kind 7 = true) : P.underlying t = some (.int .u64) := by
 have hk := Nat.eq_of_beq_eq_true hk
 unfold chkTI at h
 split at h
 ·rename_i i d hi hd
  simp only [Bool.and_eq_true, beq_iff_eq] at h
  obtain ⟨_, h4⟩ := h
  cases d with
  | int k => cases k <;> first | exact hd | simp [hk, ik] at h4
  | _ => simp [hk] at h4
 ·cases h
theorem chk_bool (h : chkTI P t ti = true) (hk : Nat.beq ti.kind 5 = true) : P.underlying t = some .bool := by
 have hk := Nat.eq_of_beq_eq_true hk
 unfold chkTI at h
 split at h
 ·rename_i i d hi hd
  simp only [Bool.and_eq_true, beq_iff_eq] at h
  obtain ⟨_, h4⟩ := h
  cases d with
  | int k => exfalso; cases k <;> simp [hk, ik] at h4
  | bool => exact hd
  | _ => simp [hk] at h4
 ·cases h
theorem chk_array (h : chkTI P t ti = true) (hk : Nat.beq ti.kind 3 = true) : P.underlying t = some (.array ti.ebytes ti.elem) ∧ ∃ j, P.info? ti.elem = some j ∧ j.size = ti.esize := by
 have hk := Nat.eq_of_beq_eq_true hk
 unfold chkTI at h
 split at h
 ·rename_i i d hi hd
  simp only [Bool.and_eq_true, beq_iff_eq] at h
  obtain ⟨_, h4⟩ := h
  cases d with
  | int k => exfalso; cases k <;> simp [hk, ik] at h4
  | array n e =>
   simp [hk] at h4
   obtain ⟨⟨h5, h6⟩, h7⟩ := h4
   split at h7
   ·rename_i j hj
    simp at h7
    subst h5; subst h6
    exact ⟨hd, j, hj, h7⟩
   ·cases h7
  | _ => simp [hk] at h4
 ·cases h
theorem chk_ptr (h : chkTI P t ti = true) (hk : Nat.beq ti.kind 8 = true) : ∃ e, P.underlying t = some (.pointer e) := by
 have hk := Nat.eq_of_beq_eq_true hk
 unfold chkTI at h
 split at h
 ·rename_i i d hi hd
  simp only [Bool.and_eq_true, beq_iff_eq] at h
  obtain ⟨_, h4⟩ := h
  cases d with
  | int k => exfalso; cases k <;> simp [hk, ik] at h4
  | pointer e => exact ⟨e, hd⟩
  | _ => simp [hk] at h4
 ·cases h
theorem chk_iface (h : chkTI P t ti = true) (hk : Nat.beq ti.kind 9 = true) : ∃ e, P.underlying t = some (.interface e) := by
 have hk := Nat.eq_of_beq_eq_true hk
 unfold chkTI at h
 split at h
 ·rename_i i d hi hd
  simp only [Bool.and_eq_true, beq_iff_eq] at h
  obtain ⟨_, h4⟩ := h
  cases d with
  | int k => exfalso; cases k <;> simp [hk, ik] at h4
  | interface e => exact ⟨e, hd⟩
  | _ => simp [hk] at h4
 ·cases h
theorem chk_int (h : chkTI P t ti = true) {k : IntKind} (hk : Nat.beq ti.kind (ik k) = true) (hz : ik k ≠ 0) : P.underlying t = some (.int k) := by
 have hk := Nat.eq_of_beq_eq_true hk
 unfold chkTI at h
 split at h
 ·rename_i i d hi hd
  simp only [Bool.and_eq_true, beq_iff_eq] at h
  obtain ⟨_, h4⟩ := h
  cases d with
  | int k' => simp only [beq_iff_eq] at h4; rw [hk] at h4; cases k <;> cases k' <;> first | exact absurd rfl hz | exact hd | (simp [ik] at h4; done)
  | _ => cases k <;> first | exact absurd rfl hz | (simp [hk, ik] at h4; done)
 ·cases h
theorem chk_string (h : chkTI P t ti = true) (hk : Nat.beq ti.kind 4 = true) : P.underlying t = some .string := by
 have hk := Nat.eq_of_beq_eq_true hk
 unfold chkTI at h
 split at h
 ·rename_i i d hi hd
  simp only [Bool.and_eq_true, beq_iff_eq] at h
  obtain ⟨_, h4⟩ := h
  cases d with
  | int k => exfalso; cases k <;> simp [hk, ik] at h4
  | string => exact hd
  | _ => simp [hk] at h4
 ·cases h
end
def inR (n : Int) : Prop := -9223372036854775808 ≤ n ∧ n ≤ 9223372036854775807
theorem wrap_inR {n : Int} (h : inR n) : IntKind.i64.wrap n = n := IntWalk.i64_in n ⟨h.1, h.2⟩
def isSl (v : Value) : Prop := ∃ a n c, v = .slice a n c ∧ (a = none → n = 0 ∧ c = 0) ∧ n ≤ c
def slen : Value → Int
 | .slice (some _) n _ => n
 | _ => 0
def scap : Value → Int
 | .slice _ _ c => c
 | _ => 0
def subV (v : Value) (size : Nat) (lo hi : Int) : Value :=
 match v with
 | .slice a _ c => .slice (if c = lo.toNat then a else a.map (·.add (lo.toNat * size))) (hi.toNat - lo.toNat) (c - lo.toNat)
 | v => v
def isNilS : Value → Bool
 | .slice none _ _ => true
 | _ => false
def isStr (v : Value) : Prop := ∃ s, v = .string s
def strOf : Value → ByteArray
 | .string s => s
 | _ => ByteArray.empty
def RV.cells : RV → Option (List CV)
 | .s (.c v) => some [v]
 | .s (.agg l) => some l
 | .tup _ => none
def addOff : CV → Nat → Option CV
 | .p id blk o, n => some (.p id blk (o + n))
 | .e v size idx o, n => some (.e v size idx (o + n))
 | .r id v size idx o, n => some (.r id v size idx (o + n))
 | _, _ => none
def intBin (op : BinOp) (a b : Int) : Option (List Prop × RV) :=
 match op with
 | .add => some ([inR (a + b)], .s (.c (.i (a + b))))
 | .sub => some ([inR (a - b)], .s (.c (.i (a - b))))
 | .mul => some ([inR (a * b)], .s (.c (.i (a * b))))
 | .quo => some ([0 ≤ a, 0 < b, inR a], .s (.c (.i (a / b))))
 | .rem => some ([0 ≤ a, 0 < b], .s (.c (.i (a % b))))
 | .eql => some ([], .s (.c (.b (decide (a = b)))))
 | .neq => some ([], .s (.c (.b (!decide (a = b)))))
 | .lss => some ([], .s (.c (.b (decide (a < b)))))
 | .leq => some ([], .s (.c (.b (decide (a ≤ b)))))
 | .gtr => some ([], .s (.c (.b (decide (b < a)))))
 | .geq => some ([], .s (.c (.b (decide (b ≤ a)))))
 | _ => none
def eqC : List CV → List CV → Option Bool
 | [], [] => some true
 | .i a :: r, .i b :: q => match eqC r q with
  | some g => some (decide (a = b) && g)
  | none => none
 | _, _ => none
def optI (d : Int) : Option RV → Option Int
 | none => some d
 | some (.s (.c (.i n))) => some n
 | _ => none
def takeCells : Nat → Nat → List CV → Option (List CV)
 | 0, 0, _ => some []
 | 0, n + 1, c :: r => match takeCells 0 n r with
  | some l => some (c :: l)
  | none => none
 | o + 1, n, _ :: r => takeCells o n r
 | _, _, _ => none
def setCells : Nat → List CV → List CV → Option (List CV)
 | 0, [], cs => some cs
 | 0, x :: l, _ :: cs => match setCells 0 l cs with
  | some r => some (x :: r)
  | none => none
 | o + 1, l, c :: cs => match setCells o l cs with
  | some r => some (c :: r)
  | none => none
 | _, _, _ => none
theorem setCells_spec : ∀ {o : Nat} {l cs r : List CV}, setCells o l cs = some r → r = cs.take o ++ l ++ cs.drop (o + l.length) ∧ o + l.length ≤ cs.length
 | 0, [], cs, r, h => by cases cs <;> (simp [setCells] at h; subst h; simp)
 | 0, x :: l, [], r, h => by simp [setCells] at h
 | 0, x :: l, c :: cs, r, h => by
  simp only [setCells] at h
  split at h
  ·rename_i q hq
   cases h
   obtain ⟨h1, h2⟩ := setCells_spec hq
   subst h1
   refine ⟨by simp, by simp at h2 ⊢; omega⟩
  ·cases h
 | o + 1, l, [], r, h => by cases l <;> simp [setCells] at h
 | o + 1, l, c :: cs, r, h => by
  have h' : (match setCells o l cs with | some r => some (c :: r) | none => none) = some r := by cases l <;> simpa [setCells] using h
  split at h'
  ·rename_i q hq
   cases h'
   obtain ⟨h1, h2⟩ := setCells_spec hq
   subst h1
   refine ⟨by simp [Nat.add_right_comm o 1], by simp at h2 ⊢; omega⟩
  ·cases h'
def oneObs : List CV → List Prop
 | [] => []
 | .x v :: r => (v.oneCell' = true) :: oneObs r
 | _ :: r => oneObs r
theorem oneObs_spec {hp : List (Nat × LO)} : ∀ {l : List CV}, (∀ p ∈ oneObs l, p) → (∀ c ∈ l, CVok hp c) → ∀ v ∈ dens l, v.oneCell' = true
 | [], _, _, v, hv => by cases hv
 | c :: r, h, hok, v, hv => by
  have hr : ∀ p ∈ oneObs r, p := fun p hp => h p (by cases c <;> simp [oneObs, hp])
  rcases List.mem_cons.1 hv with e | hv
  ·subst e
   cases c with
   | x u => exact h (u.oneCell' = true) (by simp [oneObs])
   | e u s i o =>
    simp only [CV.den, elemPtr]
    split <;> rfl
   | r id u s i o =>
    simp only [CV.den, elemPtr]
    split <;> rfl
   | o id u =>
    obtain ⟨a, n, q, rfl⟩ := hok _ (List.mem_cons_self ..)
    rfl
   | _ => rfl
  ·exact oneObs_spec hr (fun c hc => hok c (List.mem_cons_of_mem _ hc)) v hv
def cellsOfRV : RV → Option (List CV)
 | .s (.c v) => some [v]
 | .s (.agg l) => some l
 | .tup _ => none
theorem cells_eq {v : RV} {l : List CV} (hl : cellsOfRV v = some l) (hone : ∀ u ∈ dens l, u.oneCell' = true) : v.den.cells = (dens l).toArray := by
 unfold cellsOfRV at hl
 split at hl
 ·rename_i c
  cases hl
  have := hone c.den (by simp [dens])
  simp only [RV.den, SV.den, dens, List.map_cons, List.map_nil]
  generalize c.den = u at this
  cases u <;> first | rfl | simp [Value.oneCell'] at this
 ·cases hl; rfl
 ·cases hl
theorem cells_ok {hp : List (Nat × LO)} {v : RV} {l : List CV} (hl : cellsOfRV v = some l) (hv : RVok hp v) : ∀ c ∈ l, CVok hp c := by
 unfold cellsOfRV at hl
 split at hl
 ·cases hl; intro c hc; simp only [List.mem_singleton] at hc; subst hc; exact hv
 ·cases hl; exact hv
 ·cases hl
theorem foldl_set : ∀ (l : List Value) (s off : Nat) (cs : Array Value), off + s + l.length ≤ cs.size →
  ((l.zipIdx s).foldl (fun cs (x : Value × Nat) => cs.setIfInBounds (off + x.2) x.1) cs).toList = cs.toList.take (off + s) ++ l ++ cs.toList.drop (off + s + l.length)
 | [], s, off, cs, h => by simp
 | x :: l, s, off, cs, h => by
  simp only [List.length_cons] at h
  simp only [List.zipIdx_cons, List.foldl_cons]
  rw [foldl_set l (s + 1) off _ (by simp; omega)]
  simp only [Array.toList_setIfInBounds, List.length_cons]
  have hlt : off + s < cs.toList.length := by simp; omega
  rw [List.take_set, List.drop_set_of_lt (by omega)]
  rw [show off + (s + 1) = (off + s) + 1 by omega, List.take_add_one, List.set_append_right _ _ (by rw [List.length_take]; omega)]
  have e1 : (List.take (off + s) cs.toList).length = off + s := by rw [List.length_take]; omega
  rw [e1, Nat.sub_self, List.getElem?_eq_getElem hlt]
  simp [Nat.add_assoc, Nat.add_comm 1 l.length]
theorem fill_one {place : Nat → Option (Nat × Nat)} {i off size : Nat} (hp : place i = some (off, size)) (v : Value) (cells : Array Value) (rest : List (Nat × Value)) (hs : v.cells.size = size) (hf : off + size ≤ cells.size) :
  Instr.fill place cells ((i, v) :: rest) = Instr.fill place (cells.toList.take off ++ v.cells.toList ++ cells.toList.drop (off + size)).toArray rest := by
 simp only [Instr.fill, hp, hs]
 rw [if_neg (by simp; omega)]
 congr 1
 apply Array.ext'
 have := foldl_set v.cells.toList 0 off cells (by simp; omega)
 simp only [Nat.add_zero, Array.length_toList, hs] at this
 rw [← this, ← Array.foldl_toList, Array.toList_zipIdx]
def bldS (st : St) (cur : Keys) (flds : List (Nat × Nat × Bool)) : List (Nat × Operand) → List Prop → List CV → Option (List Prop × List CV)
 | [], obs, acc => some (obs, acc)
 | (i, x) :: r, obs, acc => match opv st cur x with
  | some v => match cellsOfRV v, flds[i]? with
   | some l, some (o, n, _) => match Nat.beq l.length n, setCells o l acc with
    | true, some acc' => bldS st cur flds r (oneObs l ++ obs) acc'
    | _, _ => none
   | _, _ => none
  | none => none
def opds (st : St) (cur : Keys) : List Operand → Option (List Value)
 | [] => some []
 | x :: r => match opv st cur x, opds st cur r with
  | some v, some l => some (v.den :: l)
  | _, _ => none
def opvO (st : St) (cur : Keys) : Option Operand → Option (Option RV)
 | none => some none
 | some x => match opv st cur x with
  | some v => some (some v)
  | none => none
def pickRV (g : Bool) : RV → RV → Option RV
 | .s (.c (.b x)), .s (.c (.b y)) => some (.s (.c (.b (bif g then x else y))))
 | .s (.c (.i x)), .s (.c (.i y)) => some (.s (.c (.i (bif g then x else y))))
 | _, _ => none
def pickKeys (c : Operand) (g : Bool) (cur : Keys) : Keys :=
 match c with
 | .tmp t => (t, g) :: cur
 | _ => cur
def xBin (tab : Tab) (op : BinOp) (t : TypeId) (v u : Value) : Option (List Prop × RV) :=
 match u with
 | .int .u64 b => match v with
  | .int .u64 a => match op with
   | .shr => some ([b = 1, 0 ≤ a], .s (.c (.x (.int .u64 (a / 2)))))
   | .gtr => some ([], .s (.c (.b (decide (b < a)))))
   | _ => none
  | _ => none
 | .int .u8 b => match v with
  | .int .u8 a => match op with
   | .rem => some ([0 ≤ a, 0 < b], .s (.c (.x (.int .u8 (a % b)))))
   | _ => none
  | _ => none
 | .slice none 0 0 => match look tab t with
  | some ti => match Nat.beq ti.kind 1, op with
   | true, .eql => some ([isSl v], .s (.c (.b (isNilS v))))
   | true, .neq => some ([isSl v], .s (.c (.b (!isNilS v))))
   | _, _ => none
  | none => none
 | _ => none
def pev1 (tab : Tab) (st : St) (hp : List (Nat × LO)) (cur : Keys) : Op → Option (List Prop × RV)
 | .move x => match opv st cur x with
  | some v => some ([], v)
  | none => none
 | .assign x => match opv st cur x with
  | some v => some ([], v)
  | none => none
 | .pick c x y => match opv st cur c with
  | some (.s (.c (.b g))) => match opv st (pickKeys c true cur) x, opv st (pickKeys c false cur) y with
   | some u, some v => match pickRV g u v with
    | some r => some ([], r)
    | none => none
   | _, _ => none
  | _ => none
 | .binOp op t x y _ => match opv st cur x, opv st cur y with
  | some (.s (.c (.i a))), some (.s (.c (.i b))) => intBin op a b
  | some (.s (.c (.b a))), some (.s (.c (.b b))) => match look tab t with
   | some ti => match Nat.beq ti.kind 5, op with
    | true, .eql => some ([], .s (.c (.b (a == b))))
    | true, .neq => some ([], .s (.c (.b (a != b))))
    | _, _ => none
   | none => none
  | some (.s (.agg l)), some (.s (.agg l')) => match look tab t with
   | some ti => match Nat.beq ti.kind 2, ti.cmp, Nat.beq l.length ti.size, eqC l l', op with
    | true, true, true, some g, .eql => some ([], .s (.c (.b g)))
    | true, true, true, some g, .neq => some ([], .s (.c (.b (!g))))
    | _, _, _, _, _ => none
   | none => none
  | some (.s (.c (.x v))), some (.s (.c (.x u))) => xBin tab op t v u
  | some (.s (.c (.o _ v))), some (.s (.c (.x (.slice none 0 0)))) => match look tab t with
   | some ti => match Nat.beq ti.kind 1, op with
    | true, .eql => some ([], .s (.c (.b (isNilS v))))
    | true, .neq => some ([], .s (.c (.b (!isNilS v))))
    | _, _ => none
   | none => none
  | _, _ => none
 | .unOp op _ x => match op, opv st cur x with
  | .not, some (.s (.c (.b a))) => some ([], .s (.c (.b (!a))))
  | .neg, some (.s (.c (.i a))) => some ([inR (0 - a)], .s (.c (.i (0 - a))))
  | _, _ => none
 | .extract t ix => match opv st cur t with
  | some (.tup l) => match l[ix]? with
   | some v => some ([], .s v)
   | none => none
  | _ => none
 | .nilCheck x => match opv st cur x with
  | some (.s (.c (.p id blk o))) => some ([], .s (.c (.p id blk o)))
  | some (.s (.c (.r id v size idx off))) => some ([], .s (.c (.r id v size idx off)))
  | some (.s (.c (.e v size idx off))) => some ([], .s (.c (.e v size idx off)))
  | _ => none
 | .fieldAddr s x f => match look tab s, opv st cur x with
  | some ti, some (.s (.c v)) => match Nat.beq ti.kind 2, ti.flds[f]? with
   | true, some (o, _, _) => match addOff v o with
    | some u => some ([], .s (.c u))
    | none => none
   | _, _ => none
  | _, _ => none
 | .indexAddr t x ix => match look tab t, opv st cur x, opv st cur ix with
  | some ti, some (.s (.c (.x v))), some (.s (.c (.i n))) => match Nat.beq ti.kind 1 with
   | true => some ([0 ≤ n, n < slen v], .s (.c (.e v ti.esize n 0)))
   | false => none
  | some ti, some (.s (.c (.o id v))), some (.s (.c (.i n))) => match Nat.beq ti.kind 1, look hp id with
   | true, some (.row v0 _ size L) => match Nat.beq size ti.esize with
    | true => some ([v = v0, 0 ≤ n, n < L.length], .s (.c (.r id v size n 0)))
    | false => none
   | _, _ => none
  | _, _, _ => none
 | .load t x => match look tab t, opv st cur x with
  | some ti, some (.s (.c (.p id _ o))) => match look hp id with
   | some (.box _ _ cells) => match takeCells o ti.size cells with
    | some l => match mkSV ti.agg l with
     | some v => some ([], .s v)
     | none => none
    | none => none
   | _ => none
  | _, _ => none
 | .build t parts => match look tab t with
  | some ti => match Nat.beq ti.kind 2, bldS st cur ti.flds parts.toList [] ti.zero with
   | true, some (obs, l) => some (obs, .s (.agg l))
   | _, _ => none
  | none => none
 | .field t x f => match look tab t, opv st cur x with
  | some ti, some (.s (.agg l)) => match Nat.beq ti.kind 2, ti.flds[f]? with
   | true, some (o, n, g) => match takeCells o n l with
    | some l' => match mkSV g l' with
     | some v => some ([], .s v)
     | none => none
    | none => none
   | _, _ => none
  | _, _ => none
 | .convert src dst x => match look tab src, look tab dst, opv st cur x with
  | some ti, some tj, some (.s (.c (.i n))) => match Nat.beq ti.kind 6, Nat.beq tj.kind 6, Nat.beq tj.kind 7 with
   | true, true, _ => some ([inR n], .s (.c (.i n)))
   | true, false, true => some ([0 ≤ n, inR n], .s (.c (.x (.int .u64 n))))
   | _, _, _ => none
  | some ti, some tj, some (.s (.c (.x (.int k n)))) => match Nat.beq tj.kind 6 with
   | true => some ([inR n], .s (.c (.i n)))
   | _ => none
  | _, _, _ => none
 | .slice t x lo hi none => match look tab t, opv st cur x with
  | some ti, some (.s (.c (.x v))) => match Nat.beq ti.kind 1, opvO st cur lo, opvO st cur hi with
   | true, some l, some h => match optI 0 l, optI (slen v) h with
    | some n, some m => some ([isSl v, 0 ≤ n, n ≤ m, m ≤ slen v], .s (.c (.x (subV v ti.esize n m))))
    | _, _ => none
   | _, _, _ => none
  | some ti, some (.s (.c (.o id v))) => match Nat.beq ti.kind 1, opvO st cur lo, opvO st cur hi, look hp id with
   | true, some l, some h, some (.row v0 _ size L) => match optI 0 l, optI L.length h, Nat.beq size ti.esize with
    | some n, some m, true => some ([v = v0, 0 ≤ n, n ≤ m, m ≤ L.length ∨ m ≤ scap v], .s (.c (.x (subV v size n m))))
    | _, _, _ => none
   | _, _, _, _ => none
  | _, _ => none
 | .makeFunc (.func f) first caps => match opds st cur first.toList, opds st cur caps.toList with
  | some l, some l' => some ([], .s (.c (.x (.func (.func f) l.toArray l'.toArray))))
  | _, _ => none
 | .call c => match c.callee, c.args.toList, c.argTypes.toList with
  | .builtin .len, [x], [t] => match look tab t, opv st cur x with
   | some ti, some (.s (.c (.x v))) => match Nat.beq ti.kind 1, Nat.beq ti.kind 4 with
    | true, _ => some ([isSl v], .s (.c (.i (slen v))))
    | _, true => some ([isStr v], .s (.c (.i (strOf v).size)))
    | _, _ => none
   | some ti, some (.s (.c (.o id v))) => match Nat.beq ti.kind 1, look hp id with
    | true, some (.row v0 _ _ L) => some ([v = v0], .s (.c (.i L.length)))
    | _, _ => none
   | _, _ => none
  | .builtin .cap, [x], [t] => match look tab t, opv st cur x with
   | some ti, some (.s (.c (.o id v))) => match Nat.beq ti.kind 1, look hp id with
    | true, some (.row v0 _ _ L) => some ([v = v0], .s (.c (.i (scap v))))
    | _, _ => none
   | _, _ => none
  | .builtin .max, [x, y], _ => match opv st cur x, opv st cur y with
   | some (.s (.c (.i a))), some (.s (.c (.i b))) => some ([], .s (.c (.i (max a b))))
   | _, _ => none
  | .builtin .min, [x, y], _ => match opv st cur x, opv st cur y with
   | some (.s (.c (.i a))), some (.s (.c (.i b))) => some ([], .s (.c (.i (min a b))))
   | _, _ => none
  | _, _, _ => none
 | _ => none
def sBin (op : BinOp) (a b : List UInt8) : Option (List Prop × RV) :=
 match op with
 | .add => some ([(a.length : Int) + b.length ≤ 9223372036854775807], .s (.c (.s (a ++ b))))
 | .eql => some ([], .s (.c (.b (decide (a = b)))))
 | .neq => some ([], .s (.c (.b (!decide (a = b)))))
 | .lss => some ([], .s (.c (.b (Op.bytesLess a b))))
 | _ => none
def cmpK (op : BinOp) (a b : Int) : Option (List Prop × RV) :=
 match op with
 | .eql => some ([], .s (.c (.b (decide (a = b)))))
 | .neq => some ([], .s (.c (.b (!decide (a = b)))))
 | .lss => some ([], .s (.c (.b (decide (a < b)))))
 | .leq => some ([], .s (.c (.b (decide (a ≤ b)))))
 | .gtr => some ([], .s (.c (.b (decide (b < a)))))
 | .geq => some ([], .s (.c (.b (decide (b ≤ a)))))
 | _ => none
def inU (n : Int) : Prop := 0 ≤ n ∧ n ≤ 18446744073709551615
def inU8 (n : Int) : Prop := 0 ≤ n ∧ n ≤ 255
def andU (a b : Int) : Int := ((a.toNat &&& b.toNat : Nat) : Int)
def orU (a b : Int) : Int := ((a.toNat ||| b.toNat : Nat) : Int)
def u64Bin (op : BinOp) (a b : Int) : Option (List Prop × RV) :=
 match op with
 | .add => some ([inU (a + b)], .s (.c (.x (.int .u64 (a + b)))))
 | .sub => some ([inU (a - b)], .s (.c (.x (.int .u64 (a - b)))))
 | .mul => some ([inU (a * b)], .s (.c (.x (.int .u64 (a * b)))))
 | .quo => some ([0 ≤ a, 0 < b, inU a], .s (.c (.x (.int .u64 (a / b)))))
 | .rem => some ([0 ≤ a, 0 < b], .s (.c (.x (.int .u64 (a % b)))))
 | .and => some ([inU a, inU b], .s (.c (.x (.int .u64 (andU a b)))))
 | .or => some ([inU a, inU b], .s (.c (.x (.int .u64 (orU a b)))))
 | .shr => some ([0 ≤ b, b < 64, 0 ≤ a], .s (.c (.x (.int .u64 (a / 2 ^ b.toNat)))))
 | .shl => some ([0 ≤ b, b < 64, inU (a * 2 ^ b.toNat)], .s (.c (.x (.int .u64 (a * 2 ^ b.toNat)))))
 | _ => cmpK op a b
def u8Bin (op : BinOp) (a b : Int) : Option (List Prop × RV) :=
 match op with
 | .add => some ([inU8 (a + b)], .s (.c (.x (.int .u8 (a + b)))))
 | .sub => some ([inU8 (a - b)], .s (.c (.x (.int .u8 (a - b)))))
 | _ => cmpK op a b
def shBin (op : BinOp) (a b : Int) : Option (List Prop × RV) :=
 match op with
 | .shr => some ([0 ≤ b, b < 64, 0 ≤ a], .s (.c (.x (.int .u64 (a / 2 ^ b.toNat)))))
 | .shl => some ([0 ≤ b, b < 64, inU (a * 2 ^ b.toNat)], .s (.c (.x (.int .u64 (a * 2 ^ b.toNat)))))
 | _ => none
def andI (a b : Int) : Int := IntKind.i64.wrap ((BitVec.ofInt 64 a &&& BitVec.ofInt 64 b).toNat : Int)
def orI64 (a b : Int) : Int := IntKind.i64.wrap ((BitVec.ofInt 64 a ||| BitVec.ofInt 64 b).toNat : Int)
def iBin (op : BinOp) (a b : Int) : Option (List Prop × RV) :=
 match op with
 | .and => some ([], .s (.c (.i (andI a b))))
 | .or => some ([], .s (.c (.i (orI64 a b))))
 | .shr => some ([0 ≤ b, b < 64], .s (.c (.i (a / 2 ^ b.toNat))))
 | .shl => some ([0 ≤ b, b < 64, inR (a * 2 ^ b.toNat)], .s (.c (.i (a * 2 ^ b.toNat))))
 | _ => none
def boolOp (op : BinOp) (g : Bool) : Option (List Prop × RV) :=
 match op with
 | .eql => some ([], .s (.c (.b g)))
 | .neq => some ([], .s (.c (.b (!g))))
 | _ => none
def nilP (v : CV) : Option Bool :=
 match v with
 | .p _ _ _ => some false
 | .e _ _ _ _ => some false
 | .r _ _ _ _ _ => some false
 | .x (.pointer none) => some true
 | .x (.pointer (some _)) => some false
 | _ => none
def nilI (v : Value) : Option Bool :=
 match v with
 | .nilIface => some true
 | .iface _ _ => some false
 | _ => none
def isNilC : Operand → Bool
 | .const .nilIface => true
 | _ => false
def byteI (l : List UInt8) (n : Int) : Int := ((l.getD n.toNat 0).toNat : Int)
def pev2 (tab : Tab) (st : St) (hp : List (Nat × LO)) (cur : Keys) : Op → Option (List Prop × RV)
 | .binOp op t x y _ => match opv st cur x, opv st cur y with
  | some (.s (.c (.s a))), some (.s (.c (.s b))) => sBin op a b
  | some (.s (.c (.i a))), some (.s (.c (.i b))) => iBin op a b
  | some (.s (.c (.x (.int k a)))), some (.s (.c (.x (.int k' b)))) => match k, k' with
   | .u64, .u64 => u64Bin op a b
   | .u8, .u8 => u8Bin op a b
   | .i32, .i32 => cmpK op a b
   | .u32, .u32 => cmpK op a b
   | _, _ => none
  | some (.s (.c (.x (.int .u64 a)))), some (.s (.c (.i b))) => shBin op a b
  | some (.s (.c v)), some (.s (.c (.x (.pointer none)))) => match look tab t, nilP v with
   | some ti, some g => match Nat.beq ti.kind 8 with
    | true => boolOp op g
    | false => none
   | _, _ => none
  | some (.s (.c (.x v))), some (.s (.c (.x .nilIface))) => match look tab t, nilI v, isNilC y with
   | some ti, some g, true => match Nat.beq ti.kind 9 with
    | true => boolOp op g
    | false => none
   | _, _, _ => none
  | _, _ => none
 | .unOp op _ x => match op, opv st cur x with
  | _, _ => none
 | .indexAddr t x ix => match look tab t, opv st cur x, opv st cur ix with
  | some ti, some (.s (.c v)), some (.s (.c (.i n))) => match Nat.beq ti.kind 3, addOff v (n.toNat * ti.esize) with
   | true, some u => some ([0 ≤ n, n < ti.ebytes], .s (.c u))
   | _, _ => none
  | _, _, _ => none
 | .index t x ix => match look tab t, opv st cur x, opv st cur ix with
  | some ti, some (.s (.c (.s l))), some (.s (.c (.i n))) => match Nat.beq ti.kind 4 with
   | true => some ([0 ≤ n, n < l.length], .s (.c (.x (.int .u8 (byteI l n)))))
   | false => none
  | _, _, _ => none
 | .slice t x lo hi none => match look tab t, opv st cur x with
  | some ti, some (.s (.c (.s s))) => match Nat.beq ti.kind 4, opvO st cur lo, opvO st cur hi with
   | true, some l, some h => match optI 0 l, optI s.length h with
    | some n, some m => some ([0 ≤ n, n ≤ m, m ≤ s.length], .s (.c (.s ((s.take m.toNat).drop n.toNat))))
    | _, _ => none
   | _, _, _ => none
  | _, _ => none
 | .convert src dst x => match look tab src, look tab dst, opv st cur x with
  | some ti, some tj, some (.s (.c (.s l))) => match Nat.beq ti.kind 4, Nat.beq tj.kind 4 with
   | true, true => some ([], .s (.c (.s l)))
   | _, _ => none
  | some ti, some tj, some (.s (.c (.i n))) => match Nat.beq tj.kind 10, Nat.beq tj.kind 11 with
   | true, _ => some ([inU8 n], .s (.c (.x (.int .u8 n))))
   | false, true => some ([-2147483648 ≤ n, n ≤ 2147483647], .s (.c (.x (.int .i32 n))))
   | _, _ => none
  | some ti, some tj, some (.s (.c (.x (.int _ n)))) => match Nat.beq tj.kind 7, Nat.beq tj.kind 10, Nat.beq tj.kind 11 with
   | true, _, _ => some ([inU n], .s (.c (.x (.int .u64 n))))
   | _, true, _ => some ([inU8 n], .s (.c (.x (.int .u8 n))))
   | _, _, true => some ([-2147483648 ≤ n, n ≤ 2147483647], .s (.c (.x (.int .i32 n))))
   | _, _, _ => none
  | _, _, _ => none
 | .makeInterface t x => match look tab t, opv st cur x with
  | some ti, some (.s (.c v)) => match Nat.beq ti.kind 9 with
   | true => none
   | false => some ([], .s (.c (.x (.iface t v.den))))
  | _, _ => none
 | .call c => match c.callee, c.args.toList, c.argTypes.toList with
  | .builtin .len, [x], [t] => match look tab t, opv st cur x with
   | some ti, some (.s (.c (.s l))) => match Nat.beq ti.kind 4 with
    | true => some ([], .s (.c (.i l.length)))
    | false => none
   | _, _ => none
  | _, _, _ => none
 | _ => none
def pev (tab : Tab) (st : St) (hp : List (Nat × LO)) (cur : Keys) (op : Op) : Option (List Prop × RV) :=
 match pev1 tab st hp cur op with
 | some r => some r
 | none => pev2 tab st hp cur op
theorem takeCells_spec : ∀ {o n : Nat} {cells l : List CV}, takeCells o n cells = some l → l.length = n ∧ ∀ j, j < n → cells[o + j]? = l[j]?
 | 0, 0, cells, l, h => by cases cells <;> (simp [takeCells] at h; subst h; simp)
 | 0, n + 1, [], l, h => by simp [takeCells] at h
 | 0, n + 1, c :: r, l, h => by
  simp only [takeCells] at h
  split at h
  ·rename_i q hq
   cases h
   obtain ⟨h1, h2⟩ := takeCells_spec hq
   refine ⟨by simp [h1], fun j hj => ?_⟩
   cases j with
   | zero => simp
   | succ j => have := h2 j (by omega); simp only [Nat.zero_add] at this ⊢; simpa using this
  ·cases h
 | o + 1, n, [], l, h => by cases n <;> simp [takeCells] at h
 | o + 1, n, c :: r, l, h => by
  have h' : takeCells o n r = some l := by cases n <;> simpa [takeCells] using h
  obtain ⟨h1, h2⟩ := takeCells_spec h'
  refine ⟨h1, fun j hj => ?_⟩
  have := h2 j hj
  rw [show o + 1 + j = (o + j) + 1 by omega]
  simpa using this
end Go.Vc
