/- Texts that the law leans on. -/
import Derived.Test.YtdigebokbhmfaaaGreatDoorOVcStep
set_option linter.unusedVariables false
set_option linter.unusedSimpArgs false
namespace Go.Vc
open Go.RowKit
theorem Fr.trans' {S T : List Nat} {a b c : World} (h : Fr S a b) (k : Fr T b c) (hs : ∀ x ∈ T, x ∈ S ∨ a.heap.size ≤ x) : Fr S a c :=
 ⟨k.os.trans h.os, k.tape.trans h.tape, k.output.trans h.output, Nat.le_trans h.size k.size,
  fun i hi hn => (k.block i (Nat.lt_of_lt_of_le hi h.size) fun hm => (hs i hm).elim hn (fun h' => by omega)).trans (h.block i hi hn)⟩
def nid : List (Nat × LO) → Nat
 | [] => 0
 | (id, _) :: r => Nat.max (id + 1) (nid r)
theorem lt_nid {hp : List (Nat × LO)} {id : Nat} {o : LO} (h : look hp id = some o) : id < nid hp := by
 induction hp with
 | nil => cases h
 | cons x r ih =>
  obtain ⟨t, u⟩ := x
  simp only [look] at h
  simp only [nid]
  split at h
  ·rename_i hb
   have := Nat.eq_of_beq_eq_true hb
   subst this
   exact Nat.le_max_left _ _
  ·exact Nat.lt_of_lt_of_le (ih h) (Nat.le_max_right _ _)
def St.push : St → LO → St
 | ⟨N, sl, gl, hp, S, ws, df⟩, o => ⟨N, sl, gl, (nid hp, o) :: hp, S, ws, df⟩
def nidK (hp : List (Nat × LO)) : (Nat → Prop) → Prop :=
 List.rec (motive := fun _ => (Nat → Prop) → Prop) (fun K => K 0) (fun x _ ih K => match x with | (id, _) => ih (fun m => match Nat.ble m id with | true => K (id + 1) | false => K m)) hp
theorem nidK_cons {id : Nat} {o : LO} {r : List (Nat × LO)} {K : Nat → Prop} : nidK ((id, o) :: r) K = nidK r (fun m => match Nat.ble m id with | true => K (id + 1) | false => K m) := rfl
theorem nidK_eq : ∀ {hp : List (Nat × LO)} {K : Nat → Prop}, nidK hp K = K (nid hp)
 | [], K => rfl
 | (id, _) :: r, K => by
  rw [nidK_cons, nidK_eq (hp := r)]
  simp only [nid]
  split
  ·rename_i h
   have := Nat.le_of_ble_eq_true h
   rw [show Nat.max (id + 1) (nid r) = id + 1 from Nat.max_eq_left (by omega)]
  ·rename_i h
   have : ¬ (nid r ≤ id) := fun h' => by rw [Nat.ble_eq_true_of_le h'] at h; cases h
   rw [show Nat.max (id + 1) (nid r) = nid r from Nat.max_eq_right (by omega)]
def St.pushK : St → LO → (Nat → St → Prop) → Prop
 | ⟨N, sl, gl, hp, S, ws, df⟩, o, K => nidK hp (fun n => K n ⟨N, sl, gl, (n, o) :: hp, S, ws, df⟩)
theorem pushK_eq {st : St} {o : LO} {K : Nat → St → Prop} : st.pushK o K = K (nid st.hp) (st.push o) := by
 obtain ⟨N, sl, gl, hp, S, ws, df⟩ := st
 simp only [St.pushK, nidK_eq]; rfl
theorem look_push {st : St} {o q : LO} {id : Nat} (h : look st.hp id = some q) : look (st.push o).hp id = some q := by
 have := lt_nid h
 simp only [St.push, look]
 split
 ·rename_i hb
  have := Nat.eq_of_beq_eq_true hb
  omega
 ·exact h
theorem CVok.push {st : St} {o : LO} {c : CV} (h : CVok st.hp c) : CVok (st.push o).hp c := by
 cases c with
 | p id blk off => obtain ⟨T, cells, h⟩ := h; exact ⟨T, cells, look_push h⟩
 | _ => exact h
theorem SVok.push {st : St} {o : LO} {v : SV} (h : SVok st.hp v) : SVok (st.push o).hp v := by
 cases v with
 | c v => exact CVok.push h
 | agg l => exact fun c hc => CVok.push (h c hc)
theorem RVok.push {st : St} {o : LO} {v : RV} (h : RVok st.hp v) : RVok (st.push o).hp v := by
 cases v with
 | s v => exact SVok.push h
 | tup l => exact fun v hv => SVok.push (h v hv)
def LOok (hp : List (Nat × LO)) : LO → Prop
 | .box _ _ cells => ∀ c ∈ cells, CVok hp c
 | .row v _ _ L => (0 < L.length → ∃ a n c, v = .slice (some a) n c) ∧ ∀ l ∈ L, ∀ c ∈ l, CVok hp c
 | .ab _ _ => True
theorem WF.obj {st : St} (h : WF st) {id : Nat} {o : LO} (hm : (id, o) ∈ st.hp) : LOok st.hp o := by
 cases o with
 | box b T cells => exact h.hp id b T cells hm
 | row v E size L => exact h.row id v E size L hm
 | ab _ _ => trivial
theorem WF.of {st : St} (h1 : ∀ s v, (s, some v) ∈ st.sl → RVok st.hp v) (h2 : ∀ id o, (id, o) ∈ st.hp → LOok st.hp o) : WF st :=
 ⟨h1, fun id b T cells hm => h2 id _ hm, fun id v E size L hm => h2 id _ hm⟩
theorem LOok.push {st : St} {o q : LO} (h : LOok st.hp q) : LOok (st.push o).hp q := by
 cases q with
 | box b T cells => exact fun c hc => (h c hc).push
 | row v E size L => exact ⟨h.1, fun l hl c hc => (h.2 l hl c hc).push⟩
 | ab _ _ => trivial
theorem WF.push {st : St} {o : LO} (h : WF st) (hc : LOok st.hp o) : WF (st.push o) := by
 refine WF.of (fun s v hm => (h.sl s v hm).push) fun id q hm => ?_
 rcases List.mem_cons.1 hm with e | hm
 ·cases e; exact hc.push
 ·exact (h.obj hm).push
theorem Rel.push {st : St} {a : Act} {o : LO} (h : Rel st a) : Rel (st.push o) a :=
 ⟨h.size, h.defers, h.sl, fun s ks v hl => (h.gl s ks v hl).imp (fun ⟨h1, h2, h3⟩ => ⟨h1, h2, h3.push⟩) id⟩
theorem lt_of_get {w : World} {b : Nat} {x : Obj} (h : w.heap[b]? = some x) : b < w.heap.size := by
 rcases Nat.lt_or_ge b w.heap.size with h' | h'
 ·exact h'
 ·rw [Array.getElem?_eq_none h'] at h; cases h
theorem LO.blk_lt {w : World} {o : LO} (h : o.holds w) : ∀ b ∈ o.blks, b < w.heap.size := by
 cases o with
 | box blk T cells =>
  intro b hb
  simp only [LO.blks, List.mem_singleton] at hb
  subst hb
  exact lt_of_get h
 | row v E size L =>
  intro b hb
  obtain ⟨⟨_, ⟨rfl, _⟩ | ⟨g, o, cap, cur, rfl, hg, _⟩⟩, _⟩ := h
  ·simp [LO.blks, blkOf] at hb
  ·simp only [LO.blks, blkOf, List.mem_singleton] at hb
   subst hb
   exact lt_of_get hg
 | ab B Q => exact fun b hb => h.1 b (mem_nub.1 hb)
theorem LO.nodup {o : LO} : o.blks.Nodup := by
 cases o with
 | box blk T cells => simp [LO.blks]
 | row v E size L => simp only [LO.blks, blkOf]; split <;> simp
 | ab B Q => exact nub_nodup B
theorem LO.frame {S : List Nat} {w w' : World} (hf : Fr S w w') {o : LO} (h : o.holds w) (hb : ∀ b ∈ o.blks, b ∉ S) : o.holds w' := by
 have lt := LO.blk_lt h
 cases o with
 | box blk T cells =>
  simp only [LO.holds] at h ⊢
  rw [hf.block blk (lt blk (by simp [LO.blks])) (hb blk (by simp [LO.blks]))]; exact h
 | row v E size L =>
  obtain ⟨⟨h1, h2⟩, h3⟩ := h
  refine ⟨⟨h1, ?_⟩, h3⟩
  rcases h2 with h2 | ⟨g, o, cap, cur, rfl, hg, h4⟩
  ·exact .inl h2
  ·refine .inr ⟨g, o, cap, cur, rfl, ?_, h4⟩
   rw [hf.block g (lt g (by simp [LO.blks, blkOf])) (hb g (by simp [LO.blks, blkOf]))]; exact hg
 | ab B Q =>
  obtain ⟨h1, h2⟩ := h
  have same : ∀ b ∈ B, w'.heap[b]? = w.heap[b]? := fun b hB => hf.block b (h1 b hB) (hb b (mem_nub.2 hB))
  refine ⟨fun b hB => Nat.lt_of_lt_of_le (h1 b hB) hf.size, fun w'' h'' => h2 w'' fun b hB => (h'' b hB).trans (same b hB)⟩
theorem mem_blks {st : St} {b : Nat} (h : b ∈ st.blks) : ∃ o ∈ st.hp, b ∈ o.2.blks := by
 unfold St.blks at h; rw [List.mem_flatMap] at h; exact h
theorem Holds.blk_lt {st : St} {w : World} (h : Holds st w) : ∀ b ∈ st.blks, b < w.heap.size := fun b hb => by
 obtain ⟨o, ho, hb⟩ := mem_blks hb
 exact LO.blk_lt (h.objs o ho) b hb
theorem Holds.pushG {st : St} {w w' : World} {o : LO} (h : Holds st w) (hx : Ext w w') (ho : o.holds w') (hb : ∀ b ∈ o.blks, w.heap.size ≤ b) : Holds (st.push o) w' := by
 have lt := h.blk_lt
 refine ⟨fun q hq => ?_, ?_, h.fr.trans (hx.fr _), fun b hb' => ?_⟩
 ·rcases List.mem_cons.1 hq with e | hq
  ·subst e; exact ho
  ·exact LO.frame hx (h.objs q hq) (by simp)
 ·show (List.flatMap (fun o => o.2.blks) ((nid st.hp, o) :: st.hp)).Nodup
  rw [List.flatMap_cons, List.nodup_append]
  exact ⟨LO.nodup, h.nodup, fun x hx' y hy e => by subst e; have := hb x hx'; have := lt x hy; omega⟩
 ·have hb'' : b ∈ o.blks ++ st.blks := hb'
  rcases List.mem_append.1 hb'' with hm | hm
  ·exact .inr (Nat.le_trans h.fr.size (hb b hm))
  ·exact h.own b hm
theorem Holds.push {st : St} {w : World} (h : Holds st w) (T : TypeId) (cells : List CV) : Holds (st.push (.box w.heap.size T cells)) (w.alloc (.cells (dens cells).toArray T)) := by
 refine h.pushG ((Fr.refl _ _).alloc _) ?_ (fun b hb => by simp only [LO.blks, List.mem_singleton] at hb; omega)
 show (w.heap.push _)[w.heap.size]? = _
 simp
def hpSet : List (Nat × LO) → Nat → LO → List (Nat × LO)
 | [], _, _ => []
 | (t, v) :: r, s, o => match Nat.beq t s with
  | true => (t, o) :: r
  | false => (t, v) :: hpSet r s o
theorem look_hpSet_same {hp : List (Nat × LO)} {id : Nat} {o q : LO} (h : look hp id = some q) : look (hpSet hp id o) id = some o := by
 induction hp with
 | nil => cases h
 | cons x r ih =>
  obtain ⟨t, u⟩ := x
  simp only [look, hpSet] at h ⊢
  split at h
  ·rename_i hb; simp [look, hb]
  ·rename_i hb; simp [look, hb, ih h]
theorem look_hpSet_other {hp : List (Nat × LO)} {id id' : Nat} {o : LO} (hne : id' ≠ id) : look (hpSet hp id o) id' = look hp id' := by
 induction hp with
 | nil => rfl
 | cons x r ih =>
  obtain ⟨t, u⟩ := x
  simp only [look, hpSet]
  split
  ·rename_i hb
   have := Nat.eq_of_beq_eq_true hb
   subst this
   have : Nat.beq t id' = false := by
    cases hq : Nat.beq t id' with
    | false => rfl
    | true => exact absurd (Nat.eq_of_beq_eq_true hq).symm hne
   simp [look, this]
  ·simp only [look]
   split
   ·rfl
   ·exact ih
def Stays (o o' : LO) : Prop := ∀ blk T cells, o = .box blk T cells → ∃ T' cells', o' = .box blk T' cells'
theorem look_stays {hp : List (Nat × LO)} {id : Nat} {o o' : LO} (hl : look hp id = some o) (hs : Stays o o') {id' blk : Nat} (h : ∃ T cells, look hp id' = some (.box blk T cells)) :
  ∃ T cells, look (hpSet hp id o') id' = some (.box blk T cells) := by
 obtain ⟨T, cs, h⟩ := h
 by_cases e : id' = id
 ·subst e
  rw [hl] at h; cases h
  obtain ⟨T', cells', rfl⟩ := hs _ _ _ rfl
  exact ⟨T', cells', look_hpSet_same hl⟩
 ·exact ⟨T, cs, by rw [look_hpSet_other e]; exact h⟩
theorem CVok.set {hp : List (Nat × LO)} {id : Nat} {o o' : LO} (hl : look hp id = some o) (hs : Stays o o') {c : CV} (h : CVok hp c) : CVok (hpSet hp id o') c := by
 cases c with
 | p id' blk' off => exact look_stays hl hs h
 | _ => exact h
theorem SVok.set {hp : List (Nat × LO)} {id : Nat} {o o' : LO} (hl : look hp id = some o) (hs : Stays o o') {v : SV} (h : SVok hp v) : SVok (hpSet hp id o') v := by
 cases v with
 | c v => exact CVok.set hl hs h
 | agg l => exact fun c hc => CVok.set hl hs (h c hc)
theorem RVok.set {hp : List (Nat × LO)} {id : Nat} {o o' : LO} (hl : look hp id = some o) (hs : Stays o o') {v : RV} (h : RVok hp v) : RVok (hpSet hp id o') v := by
 cases v with
 | s v => exact SVok.set hl hs h
 | tup l => exact fun v hv => SVok.set hl hs (h v hv)
theorem LOok.set {hp : List (Nat × LO)} {id : Nat} {o o' : LO} (hl : look hp id = some o) (hs : Stays o o') {q : LO} (h : LOok hp q) : LOok (hpSet hp id o') q := by
 cases q with
 | box b T cells => exact fun c hc => CVok.set hl hs (h c hc)
 | row v E size L => exact ⟨h.1, fun l hl' c hc => CVok.set hl hs (h.2 l hl' c hc)⟩
 | ab _ _ => trivial
theorem mem_hpSet {hp : List (Nat × LO)} {id : Nat} {o : LO} {x : Nat × LO} (h : x ∈ hpSet hp id o) : x = (id, o) ∨ x ∈ hp := by
 induction hp with
 | nil => cases h
 | cons y r ih =>
  obtain ⟨t, u⟩ := y
  simp only [hpSet] at h
  split at h
  ·rename_i hb
   have := Nat.eq_of_beq_eq_true hb
   subst this
   rcases List.mem_cons.1 h with e | h
   ·exact .inl e
   ·exact .inr (.tail _ h)
  ·rcases List.mem_cons.1 h with e | h
   ·exact .inr (e ▸ .head _)
   ·exact (ih h).imp (fun h => h) (.tail _)
theorem WF.setO {st : St} {id : Nat} {o o' : LO} (h : WF st) (hl : look st.hp id = some o) (hs : Stays o o') (hc : LOok st.hp o') : WF (st.setHp (hpSet st.hp id o')) := by
 refine WF.of (fun s v hm => RVok.set hl hs (h.sl s v hm)) fun id' q hm => ?_
 rcases mem_hpSet hm with e | hm
 ·cases e; exact LOok.set hl hs hc
 ·exact LOok.set hl hs (h.obj hm)
theorem other_blk {hp : List (Nat × LO)} {id : Nat} {o o' : LO} (hl : look hp id = some o) (hnd : (hp.flatMap (fun o => o.2.blks)).Nodup) {x : Nat × LO}
  (hx : x ∈ hpSet hp id o') : x = (id, o') ∨ (x ∈ hp ∧ ∀ b ∈ x.2.blks, b ∉ o.blks) := by
 induction hp with
 | nil => cases hl
 | cons y r ih =>
  obtain ⟨t, u⟩ := y
  simp only [look, hpSet] at hl hx
  rw [List.flatMap_cons, List.nodup_append] at hnd
  split at hl
  ·rename_i hb
   have := Nat.eq_of_beq_eq_true hb
   subst this
   cases hl
   rw [hb] at hx
   rcases List.mem_cons.1 hx with e | hx
   ·exact .inl e
   ·exact .inr ⟨.tail _ hx, fun b hb' hm => hnd.2.2 b hm b (List.mem_flatMap.2 ⟨x, hx, hb'⟩) rfl⟩
  ·rename_i hb
   rw [hb] at hx
   rcases List.mem_cons.1 hx with e | hx
   ·refine .inr ⟨by rw [e]; exact .head _, fun b hb' hm => ?_⟩
    subst e
    exact hnd.2.2 b hb' b (List.mem_flatMap.2 ⟨(id, o), look_mem hl, hm⟩) rfl
   ·exact (ih hl hnd.2.1 hx).imp (fun h => h) (fun ⟨h1, h2⟩ => ⟨.tail _ h1, h2⟩)
theorem blks_set_sub {hp : List (Nat × LO)} {id : Nat} {o' : LO} {b : Nat} (h : b ∈ (hpSet hp id o').flatMap (fun o => o.2.blks)) : b ∈ o'.blks ∨ b ∈ hp.flatMap (fun o => o.2.blks) := by
 obtain ⟨x, hx, hb⟩ := List.mem_flatMap.1 h
 rcases mem_hpSet hx with e | hx
 ·subst e; exact .inl hb
 ·exact .inr (List.mem_flatMap.2 ⟨x, hx, hb⟩)
theorem nodup_set {hp : List (Nat × LO)} {id : Nat} {o o' : LO} {n : Nat} (hl : look hp id = some o) (hnd : (hp.flatMap (fun o => o.2.blks)).Nodup)
  (hlt : ∀ b ∈ hp.flatMap (fun o => o.2.blks), b < n) (hb : ∀ b ∈ o'.blks, b ∈ o.blks ∨ n ≤ b) : ((hpSet hp id o').flatMap (fun o => o.2.blks)).Nodup := by
 induction hp with
 | nil => cases hl
 | cons y r ih =>
  obtain ⟨t, u⟩ := y
  simp only [look, hpSet] at hl ⊢
  rw [List.flatMap_cons, List.nodup_append] at hnd
  have hlt' : ∀ b ∈ r.flatMap (fun o => o.2.blks), b < n := fun b hb' => hlt b (by rw [List.flatMap_cons]; exact List.mem_append.2 (.inr hb'))
  split at hl
  ·rename_i hbq
   cases hl
   rw [hbq]
   simp only [List.flatMap_cons]
   rw [List.nodup_append]
   refine ⟨LO.nodup, hnd.2.1, fun x hx y hy e => ?_⟩
   subst e
   rcases hb x hx with h1 | h1
   ·exact hnd.2.2 x h1 x hy rfl
   ·have := hlt' x hy; omega
  ·rename_i hbq
   rw [hbq]
   simp only [List.flatMap_cons]
   rw [List.nodup_append]
   refine ⟨hnd.1, ih hl hnd.2.1 hlt', fun x hx y hy e => ?_⟩
   subst e
   rcases blks_set_sub hy with h1 | h1
   ·rcases hb x h1 with h2 | h2
    ·exact hnd.2.2 x hx x (List.mem_flatMap.2 ⟨(id, o), look_mem hl, h2⟩) rfl
    ·have := hlt x (by rw [List.flatMap_cons]; exact List.mem_append.2 (.inl hx)); omega
   ·exact hnd.2.2 x hx x h1 rfl
theorem Holds.setG {st : St} {w w' : World} {id : Nat} {o o' : LO} (h : Holds st w) (hl : look st.hp id = some o) (hf : Fr o.blks w w') (ho : o'.holds w') (hb : ∀ b ∈ o'.blks, b ∈ o.blks ∨ w.heap.size ≤ b) :
  Holds (st.setHp (hpSet st.hp id o')) w' := by
 have lt := h.blk_lt
 have hsub : ∀ b ∈ o.blks, b ∈ st.blks := fun b hb' => List.mem_flatMap.2 ⟨_, look_mem hl, hb'⟩
 refine ⟨fun q hq => ?_, nodup_set hl h.nodup lt hb, ?_, fun b hb' => ?_⟩
 ·rcases other_blk hl h.nodup hq with e | ⟨hm, hne⟩
  ·subst e; exact ho
  ·exact LO.frame hf (h.objs q hm) hne
 ·exact h.fr.trans' hf fun b hb' => h.own b (hsub b hb')
 ·rcases blks_set_sub (show b ∈ (hpSet st.hp id o').flatMap (fun o => o.2.blks) from hb') with h1 | h1
  ·rcases hb b h1 with h2 | h2
   ·exact h.own b (hsub b h2)
   ·exact .inr (Nat.le_trans h.fr.size h2)
  ·exact h.own b h1
theorem Holds.set {st : St} {w : World} {id blk : Nat} {T : TypeId} {cells cells' : List CV} (h : Holds st w) (hl : look st.hp id = some (.box blk T cells)) :
  Holds (st.setHp (hpSet st.hp id (.box blk T cells'))) (w.setRow blk (dens cells').toArray) := by
 have hob := h.objs _ (look_mem hl)
 simp only [LO.holds] at hob
 refine h.setG hl ((Fr.refl _ _).setRow (.inl (by simp [LO.blks])) _) ?_ (fun b hb => .inl hb)
 exact setRow_heap w blk _ _ _ _ hob
def hpSetK (hp : List (Nat × LO)) (s : Nat) (o : LO) : (List (Nat × LO) → Prop) → Prop :=
 List.rec (motive := fun _ => (List (Nat × LO) → Prop) → Prop) (fun K => K []) (fun x r ih K => match x with
  | (t, v) => match Nat.beq t s with
   | true => K ((t, o) :: r)
   | false => ih (fun r' => K ((t, v) :: r'))) hp
theorem hpSetK_cons {t s : Nat} {v o : LO} {r : List (Nat × LO)} {K : List (Nat × LO) → Prop} : hpSetK ((t, v) :: r) s o K = (match Nat.beq t s with | true => K ((t, o) :: r) | false => hpSetK r s o (fun r' => K ((t, v) :: r'))) := rfl
theorem hpSetK_eq {hp : List (Nat × LO)} {s : Nat} {o : LO} {K : List (Nat × LO) → Prop} : hpSetK hp s o K = K (hpSet hp s o) := by
 induction hp generalizing K with
 | nil => rfl
 | cons x r ih =>
  obtain ⟨t, v⟩ := x
  rw [hpSetK_cons]; simp only [hpSet]
  split
  ·rfl
  ·rw [ih]
def St.withHp : St → (List (Nat × LO)) → (St → Prop) → Prop
 | ⟨N, sl, gl, _, S, ws, df⟩, hp, K => K ⟨N, sl, gl, hp, S, ws, df⟩
end Go.Vc
