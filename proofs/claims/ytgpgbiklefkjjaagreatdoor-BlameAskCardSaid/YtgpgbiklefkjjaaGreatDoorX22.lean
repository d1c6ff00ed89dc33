/- Texts that the law leans on. -/
import Derived.Test.YtgpgbiklefkjjaaGreatDoorX21
set_option linter.unusedVariables false
set_option linter.unusedSimpArgs false
namespace Go.Vd
open Go.RowKit
theorem Fr.trans' {S T : List Nat} {a b c : World} (h : Fr S a b) (k : Fr T b c) (hs : ∀ x ∈ T, x ∈ S ∨ a.heap.size ≤ x) : Fr S a c :=
 ⟨k.os.trans h.os, k.tape.trans h.tape, k.output.trans h.output, Nat.le_trans h.size k.size,
  fun i hi hn => (k.block i (Nat.lt_of_lt_of_le hi h.size) fun hm => (hs i hm).elim hn (fun h' => by omega)).trans (h.block i hi hn), Nat.le_trans h.dr k.dr⟩
def nid : List (Nat × LO) → Nat
 | [] => 0
 | (id, _) :: r => Nat.max (id + 1) (nid r)
theorem lt_nid {hp : List (Nat × LO)} {id : Nat} {o : LO} (h : look hp id = some o) : id < nid hp := by
 induction hp with
 | nil => cases h
 | cons x r ih =>
  obtain ⟨t, u⟩ := x
  simp only [look] at h
  simp only [nid]
  split at h
  ·rename_i hb
   have := Nat.eq_of_beq_eq_true hb
   subst this
   exact Nat.le_max_left _ _
  ·exact Nat.lt_of_lt_of_le (ih h) (Nat.le_max_right _ _)
def St.push : St → LO → St
 | ⟨N, sl, gl, hp, S, ws, df⟩, o => ⟨N, sl, gl, (nid hp, o) :: hp, S, ws, df⟩
def nidK (hp : List (Nat × LO)) : (Nat → Prop) → Prop :=
 List.rec (motive := fun _ => (Nat → Prop) → Prop) (fun K => K 0) (fun x _ ih K => match x with | (id, _) => ih (fun m => match Nat.ble m id with | true => K (id + 1) | false => K m)) hp
theorem nidK_cons {id : Nat} {o : LO} {r : List (Nat × LO)} {K : Nat → Prop} : nidK ((id, o) :: r) K = nidK r (fun m => match Nat.ble m id with | true => K (id + 1) | false => K m) := rfl
theorem nidK_eq : ∀ {hp : List (Nat × LO)} {K : Nat → Prop}, nidK hp K = K (nid hp)
 | [], K => rfl
 | (id, _) :: r, K => by
  rw [nidK_cons, nidK_eq (hp := r)]
  simp only [nid]
  split
  ·rename_i h
   have := Nat.le_of_ble_eq_true h
   rw [show Nat.max (id + 1) (nid r) = id + 1 from Nat.max_eq_left (by omega)]
  ·rename_i h
   have : ¬ (nid r ≤ id) := fun h' => by rw [Nat.ble_eq_true_of_le h'] at h; cases h
   rw [show Nat.max (id + 1) (nid r) = nid r from Nat.max_eq_right (by omega)]
def St.pushK : St → LO → (Nat → St → Prop) → Prop
 | ⟨N, sl, gl, hp, S, ws, df⟩, o, K => nidK hp (fun n => K n ⟨N, sl, gl, (n, o) :: hp, S, ws, df⟩)
theorem pushK_eq {st : St} {o : LO} {K : Nat → St → Prop} : st.pushK o K = K (nid st.hp) (st.push o) := by
 obtain ⟨N, sl, gl, hp, S, ws, df⟩ := st
 simp only [St.pushK, nidK_eq]; rfl
theorem look_push {st : St} {o q : LO} {id : Nat} (h : look st.hp id = some q) : look (st.push o).hp id = some q := by
 have := lt_nid h
 simp only [St.push, look]
 split
 ·rename_i hb
  have := Nat.eq_of_beq_eq_true hb
  omega
 ·exact h
theorem CVok.push {st : St} {o : LO} {c : CV} (h : CVok st.hp c) : CVok (st.push o).hp c := by
 cases c with
 | p id blk off => obtain ⟨T, cells, h⟩ := h; exact ⟨T, cells, look_push h⟩
 | _ => exact h
theorem SVok.push {st : St} {o : LO} {v : SV} (h : SVok st.hp v) : SVok (st.push o).hp v := by
 cases v with
 | c v => exact CVok.push h
 | agg l => exact fun c hc => CVok.push (h c hc)
theorem RVok.push {st : St} {o : LO} {v : RV} (h : RVok st.hp v) : RVok (st.push o).hp v := by
 cases v with
 | s v => exact SVok.push h
 | tup l => exact fun v hv => SVok.push (h v hv)
def LOok (hp : List (Nat × LO)) : LO → Prop
 | .box _ _ cells => ∀ c ∈ cells, CVok hp c
 | .row v _ _ L => (0 < L.length → ∃ a n c, v = .slice (some a) n c) ∧ ∀ l ∈ L, ∀ c ∈ l, CVok hp c
theorem WF.obj {st : St} (h : WF st) {id : Nat} {o : LO} (hm : (id, o) ∈ st.hp) : LOok st.hp o := by
 cases o with
 | box b T cells => exact h.hp id b T cells hm
 | row v E size L => exact h.row id v E size L hm
theorem WF.of {st : St} (h1 : ∀ s v, (s, some v) ∈ st.sl → RVok st.hp v) (h2 : ∀ id o, (id, o) ∈ st.hp → LOok st.hp o) : WF st :=
 ⟨h1, fun id b T cells hm => h2 id _ hm, fun id v E size L hm => h2 id _ hm⟩
theorem LOok.push {st : St} {o q : LO} (h : LOok st.hp q) : LOok (st.push o).hp q := by
 cases q with
 | box b T cells => exact fun c hc => (h c hc).push
 | row v E size L => exact ⟨h.1, fun l hl c hc => (h.2 l hl c hc).push⟩
theorem WF.push {st : St} {o : LO} (h : WF st) (hc : LOok st.hp o) : WF (st.push o) := by
 refine WF.of (fun s v hm => (h.sl s v hm).push) fun id q hm => ?_
 rcases List.mem_cons.1 hm with e | hm
 ·cases e; exact hc.push
 ·exact (h.obj hm).push
theorem Rel.push {st : St} {a : Act} {o : LO} (h : Rel st a) : Rel (st.push o) a :=
 ⟨h.size, h.defers, h.sl, fun s ks v hl => (h.gl s ks v hl).imp (fun ⟨h1, h2, h3⟩ => ⟨h1, h2, h3.push⟩) id⟩
theorem lt_of_get {w : World} {b : Nat} {x : Obj} (h : w.heap[b]? = some x) : b < w.heap.size := by
 rcases Nat.lt_or_ge b w.heap.size with h' | h'
 ·exact h'
 ·rw [Array.getElem?_eq_none h'] at h; cases h
theorem LO.blk_lt {w : World} {o : LO} (h : o.holds w) : ∀ b ∈ o.blks, b < w.heap.size := by
 cases o with
 | box blk T cells =>
  intro b hb
  simp only [LO.blks, List.mem_singleton] at hb
  subst hb
  exact lt_of_get h
 | row v E size L =>
  intro b hb
  obtain ⟨⟨_, ⟨rfl, _⟩ | ⟨g, o, cap, cur, rfl, hg, _⟩⟩, _⟩ := h
  ·simp [LO.blks, blkOf] at hb
  ·simp only [LO.blks, blkOf, List.mem_singleton] at hb
   subst hb
   exact lt_of_get hg
theorem LO.nodup {o : LO} : o.blks.Nodup := by
 cases o with
 | box blk T cells => simp [LO.blks]
 | row v E size L => simp only [LO.blks, blkOf]; split <;> simp
theorem LO.frame {S : List Nat} {w w' : World} (hf : Fr S w w') {o : LO} (h : o.holds w) (hb : ∀ b ∈ o.blks, b ∉ S) : o.holds w' := by
 have lt := LO.blk_lt h
 cases o with
 | box blk T cells =>
  simp only [LO.holds] at h ⊢
  rw [hf.block blk (lt blk (by simp [LO.blks])) (hb blk (by simp [LO.blks]))]; exact h
 | row v E size L =>
  obtain ⟨⟨h1, h2⟩, h3⟩ := h
  refine ⟨⟨h1, ?_⟩, h3⟩
  rcases h2 with h2 | ⟨g, o, cap, cur, rfl, hg, h4⟩
  ·exact .inl h2
  ·refine .inr ⟨g, o, cap, cur, rfl, ?_, h4⟩
   rw [hf.block g (lt g (by simp [LO.blks, blkOf])) (hb g (by simp [LO.blks, blkOf]))]; exact hg
theorem mem_blks {st : St} {b : Nat} (h : b ∈ st.blks) : ∃ o ∈ st.hp, b ∈ o.2.blks := by
 unfold St.blks at h; rw [List.mem_flatMap] at h; exact h
theorem Holds.blk_lt {st : St} {w : World} (h : Holds st w) : ∀ b ∈ st.blks, b < w.heap.size := fun b hb => by
 obtain ⟨o, ho, hb⟩ := mem_blks hb
 exact LO.blk_lt (h.objs o ho) b hb
theorem Holds.pushG {st : St} {w w' : World} {o : LO} (h : Holds st w) (hx : Ext w w') (ho : o.holds w') (hb : ∀ b ∈ o.blks, w.heap.size ≤ b) : Holds (st.push o) w' := by
 have lt := h.blk_lt
 refine ⟨fun q hq => ?_, ?_, h.fr.trans (hx.fr _), fun b hb' => ?_⟩
 ·rcases List.mem_cons.1 hq with e | hq
  ·subst e; exact ho
  ·exact LO.frame hx (h.objs q hq) (by simp)
 ·show (List.flatMap (fun o => o.2.blks) ((nid st.hp, o) :: st.hp)).Nodup
  rw [List.flatMap_cons, List.nodup_append]
  exact ⟨LO.nodup, h.nodup, fun x hx' y hy e => by subst e; have := hb x hx'; have := lt x hy; omega⟩
 ·have hb'' : b ∈ o.blks ++ st.blks := hb'
  rcases List.mem_append.1 hb'' with hm | hm
  ·exact .inr (Nat.le_trans h.fr.size (hb b hm))
  ·exact h.own b hm
theorem Holds.push {st : St} {w : World} (h : Holds st w) (T : TypeId) (cells : List CV) : Holds (st.push (.box w.heap.size T cells)) (w.alloc (.cells (dens cells).toArray T)) := by
 refine h.pushG ((Fr.refl _ _).alloc _) ?_ (fun b hb => by simp only [LO.blks, List.mem_singleton] at hb; omega)
 show (w.heap.push _)[w.heap.size]? = _
 simp
def hpSet : List (Nat × LO) → Nat → LO → List (Nat × LO)
 | [], _, _ => []
 | (t, v) :: r, s, o => match Nat.beq t s with
  | true => (t, o) :: r
  | false => (t, v) :: hpSet r s o
theorem look_hpSet_same {hp : List (Nat × LO)} {id : Nat} {o q : LO} (h : look hp id = some q) : look (hpSet hp id o) id = some o := by
 induction hp with
 | nil => cases h
 | cons x r ih =>
  obtain ⟨t, u⟩ := x
  simp only [look, hpSet] at h ⊢
  split at h
  ·rename_i hb; simp [look, hb]
  ·rename_i hb; simp [look, hb, ih h]
theorem look_hpSet_other {hp : List (Nat × LO)} {id id' : Nat} {o : LO} (hne : id' ≠ id) : look (hpSet hp id o) id' = look hp id' := by
 induction hp with
 | nil => rfl
 | cons x r ih =>
  obtain ⟨t, u⟩ := x
  simp only [look, hpSet]
  split
  ·rename_i hb
   have := Nat.eq_of_beq_eq_true hb
   subst this
   have : Nat.beq t id' = false := by
    cases hq : Nat.beq t id' with
    | false => rfl
    | true => exact absurd (Nat.eq_of_beq_eq_true hq).symm hne
   simp [look, this]
  ·simp only [look]
   split
   ·rfl
   ·exact ih
def Stays (o o' : LO) : Prop := ∀ blk T cells, o = .box blk T cells → ∃ T' cells', o' = .box blk T' cells'
theorem look_stays {hp : List (Nat × LO)} {id : Nat} {o o' : LO} (hl : look hp id = some o) (hs : Stays o o') {id' blk : Nat} (h : ∃ T cells, look hp id' = some (.box blk T cells)) :
  ∃ T cells, look (hpSet hp id o') id' = some (.box blk T cells) := by
 obtain ⟨T, cs, h⟩ := h
 by_cases e : id' = id
 ·subst e
  rw [hl] at h; cases h
  obtain ⟨T', cells', rfl⟩ := hs _ _ _ rfl
  exact ⟨T', cells', look_hpSet_same hl⟩
 ·exact ⟨T, cs, by rw [look_hpSet_other e]; exact h⟩
theorem CVok.set {hp : List (Nat × LO)} {id : Nat} {o o' : LO} (hl : look hp id = some o) (hs : Stays o o') {c : CV} (h : CVok hp c) : CVok (hpSet hp id o') c := by
 cases c with
 | p id' blk' off => exact look_stays hl hs h
 | _ => exact h
theorem SVok.set {hp : List (Nat × LO)} {id : Nat} {o o' : LO} (hl : look hp id = some o) (hs : Stays o o') {v : SV} (h : SVok hp v) : SVok (hpSet hp id o') v := by
 cases v with
 | c v => exact CVok.set hl hs h
 | agg l => exact fun c hc => CVok.set hl hs (h c hc)
theorem RVok.set {hp : List (Nat × LO)} {id : Nat} {o o' : LO} (hl : look hp id = some o) (hs : Stays o o') {v : RV} (h : RVok hp v) : RVok (hpSet hp id o') v := by
 cases v with
 | s v => exact SVok.set hl hs h
 | tup l => exact fun v hv => SVok.set hl hs (h v hv)
theorem LOok.set {hp : List (Nat × LO)} {id : Nat} {o o' : LO} (hl : look hp id = some o) (hs : Stays o o') {q : LO} (h : LOok hp q) : LOok (hpSet hp id o') q := by
 cases q with
 | box b T cells => exact fun c hc => CVok.set hl hs (h c hc)
 | row v E size L => exact ⟨h.1, fun l hl' c hc => CVok.set hl hs (h.2 l hl' c hc)⟩
theorem mem_hpSet {hp : List (Nat × LO)} {id : Nat} {o : LO} {x : Nat × LO} (h : x ∈ hpSet hp id o) : x = (id, o) ∨ x ∈ hp := by
 induction hp with
 | nil => cases h
 | cons y r ih =>
  obtain ⟨t, u⟩ := y
  simp only [hpSet] at h
  split at h
  ·rename_i hb
   have := Nat.eq_of_beq_eq_true hb
   subst this
   rcases List.mem_cons.1 h with e | h
   ·exact .inl e
   ·exact .inr (.tail _ h)
  ·rcases List.mem_cons.1 h with e | h
   ·exact .inr (e ▸ .head _)
   ·exact (ih h).imp (fun h => h) (.tail _)
theorem WF.setO {st : St} {id : Nat} {o o' : LO} (h : WF st) (hl : look st.hp id = some o) (hs : Stays o o') (hc : LOok st.hp o') : WF (st.setHp (hpSet st.hp id o')) := by
 refine WF.of (fun s v hm => RVok.set hl hs (h.sl s v hm)) fun id' q hm => ?_
 rcases mem_hpSet hm with e | hm
 ·cases e; exact LOok.set hl hs hc
 ·exact LOok.set hl hs (h.obj hm)
theorem other_blk {hp : List (Nat × LO)} {id : Nat} {o o' : LO} (hl : look hp id = some o) (hnd : (hp.flatMap (fun o => o.2.blks)).Nodup) {x : Nat × LO}
  (hx : x ∈ hpSet hp id o') : x = (id, o') ∨ (x ∈ hp ∧ ∀ b ∈ x.2.blks, b ∉ o.blks) := by
 induction hp with
 | nil => cases hl
 | cons y r ih =>
  obtain ⟨t, u⟩ := y
  simp only [look, hpSet] at hl hx
  rw [List.flatMap_cons, List.nodup_append] at hnd
  split at hl
  ·rename_i hb
   have := Nat.eq_of_beq_eq_true hb
   subst this
   cases hl
   rw [hb] at hx
   rcases List.mem_cons.1 hx with e | hx
   ·exact .inl e
   ·exact .inr ⟨.tail _ hx, fun b hb' hm => hnd.2.2 b hm b (List.mem_flatMap.2 ⟨x, hx, hb'⟩) rfl⟩
  ·rename_i hb
   rw [hb] at hx
   rcases List.mem_cons.1 hx with e | hx
   ·refine .inr ⟨by rw [e]; exact .head _, fun b hb' hm => ?_⟩
    subst e
    exact hnd.2.2 b hb' b (List.mem_flatMap.2 ⟨(id, o), look_mem hl, hm⟩) rfl
   ·exact (ih hl hnd.2.1 hx).imp (fun h => h) (fun ⟨h1, h2⟩ => ⟨.tail _ h1, h2⟩)
theorem blks_set_sub {hp : List (Nat × LO)} {id : Nat} {o' : LO} {b : Nat} (h : b ∈ (hpSet hp id o').flatMap (fun o => o.2.blks)) : b ∈ o'.blks ∨ b ∈ hp.flatMap (fun o => o.2.blks) := by
 obtain ⟨x, hx, hb⟩ := List.mem_flatMap.1 h
 rcases mem_hpSet hx with e | hx
 ·subst e; exact .inl hb
 ·exact .inr (List.mem_flatMap.2 ⟨x, hx, hb⟩)
theorem nodup_set {hp : List (Nat × LO)} {id : Nat} {o o' : LO} {n : Nat} (hl : look hp id = some o) (hnd : (hp.flatMap (fun o => o.2.blks)).Nodup)
  (hlt : ∀ b ∈ hp.flatMap (fun o => o.2.blks), b < n) (hb : ∀ b ∈ o'.blks, b ∈ o.blks ∨ n ≤ b) : ((hpSet hp id o').flatMap (fun o => o.2.blks)).Nodup := by
 induction hp with
 | nil => cases hl
 | cons y r ih =>
  obtain ⟨t, u⟩ := y
  simp only [look, hpSet] at hl ⊢
  rw [List.flatMap_cons, List.nodup_append] at hnd
  have hlt' : ∀ b ∈ r.flatMap (fun o => o.2.blks), b < n := fun b hb' => hlt b (by rw [List.flatMap_cons]; exact List.mem_append.2 (.inr hb'))
  split at hl
  ·rename_i hbq
   cases hl
   rw [hbq]
   simp only [List.flatMap_cons]
   rw [List.nodup_append]
   refine ⟨LO.nodup, hnd.2.1, fun x hx y hy e => ?_⟩
   subst e
   rcases hb x hx with h1 | h1
   ·exact hnd.2.2 x h1 x hy rfl
   ·have := hlt' x hy; omega
  ·rename_i hbq
   rw [hbq]
   simp only [List.flatMap_cons]
   rw [List.nodup_append]
   refine ⟨hnd.1, ih hl hnd.2.1 hlt', fun x hx y hy e => ?_⟩
   subst e
   rcases blks_set_sub hy with h1 | h1
   ·rcases hb x h1 with h2 | h2
    ·exact hnd.2.2 x hx x (List.mem_flatMap.2 ⟨(id, o), look_mem hl, h2⟩) rfl
    ·have := hlt x (by rw [List.flatMap_cons]; exact List.mem_append.2 (.inl hx)); omega
   ·exact hnd.2.2 x hx x h1 rfl
theorem Holds.setG {st : St} {w w' : World} {id : Nat} {o o' : LO} (h : Holds st w) (hl : look st.hp id = some o) (hf : Fr o.blks w w') (ho : o'.holds w') (hb : ∀ b ∈ o'.blks, b ∈ o.blks ∨ w.heap.size ≤ b) :
  Holds (st.setHp (hpSet st.hp id o')) w' := by
 have lt := h.blk_lt
 have hsub : ∀ b ∈ o.blks, b ∈ st.blks := fun b hb' => List.mem_flatMap.2 ⟨_, look_mem hl, hb'⟩
 refine ⟨fun q hq => ?_, nodup_set hl h.nodup lt hb, ?_, fun b hb' => ?_⟩
 ·rcases other_blk hl h.nodup hq with e | ⟨hm, hne⟩
  ·subst e; exact ho
  ·exact LO.frame hf (h.objs q hm) hne
 ·exact h.fr.trans' hf fun b hb' => h.own b (hsub b hb')
 ·rcases blks_set_sub (show b ∈ (hpSet st.hp id o').flatMap (fun o => o.2.blks) from hb') with h1 | h1
  ·rcases hb b h1 with h2 | h2
   ·exact h.own b (hsub b h2)
   ·exact .inr (Nat.le_trans h.fr.size h2)
  ·exact h.own b h1
theorem Holds.set {st : St} {w : World} {id blk : Nat} {T : TypeId} {cells cells' : List CV} (h : Holds st w) (hl : look st.hp id = some (.box blk T cells)) :
  Holds (st.setHp (hpSet st.hp id (.box blk T cells'))) (w.setRow blk (dens cells').toArray) := by
 have hob := h.objs _ (look_mem hl)
 simp only [LO.holds] at hob
 refine h.setG hl ((Fr.refl _ _).setRow (.inl (by simp [LO.blks])) _) ?_ (fun b hb => .inl hb)
 exact setRow_heap w blk _ _ _ _ hob
def hpSetK (hp : List (Nat × LO)) (s : Nat) (o : LO) : (List (Nat × LO) → Prop) → Prop :=
 List.rec (motive := fun _ => (List (Nat × LO) → Prop) → Prop) (fun K => K []) (fun x r ih K => match x with
  | (t, v) => match Nat.beq t s with
   | true => K ((t, o) :: r)
   | false => ih (fun r' => K ((t, v) :: r'))) hp
theorem hpSetK_cons {t s : Nat} {v o : LO} {r : List (Nat × LO)} {K : List (Nat × LO) → Prop} : hpSetK ((t, v) :: r) s o K = (match Nat.beq t s with | true => K ((t, o) :: r) | false => hpSetK r s o (fun r' => K ((t, v) :: r'))) := rfl
theorem hpSetK_eq {hp : List (Nat × LO)} {s : Nat} {o : LO} {K : List (Nat × LO) → Prop} : hpSetK hp s o K = K (hpSet hp s o) := by
 induction hp generalizing K with
 | nil => rfl
 | cons x r ih =>
  obtain ⟨t, v⟩ := x
  rw [hpSetK_cons]; simp only [hpSet]
  split
  ·rfl
  ·rw [ih]
def St.withHp : St → (List (Nat × LO)) → (St → Prop) → Prop
 | ⟨N, sl, gl, _, S, ws, df⟩, hp, K => K ⟨N, sl, gl, hp, S, ws, df⟩
end Go.Vd
namespace Go.Vd
open Go.RowKit
section
variable {P : Program} {w : World}
theorem fr_drew_alloc (S : List Nat) (w : World) (o : Obj) : Fr S w (w.drew.alloc o) := ((Fr.refl S w).drew).alloc o
theorem alloc_new (w : World) (o : Obj) : (w.drew.alloc o).heap[w.heap.size]? = some o := by
 show (w.heap.push o)[w.heap.size]? = _
 simp
theorem append_room (t ty e : TypeId) (i : TypeInfo) (ht : P.underlying t = some (.slice e)) (hi : P.info? e = some i)
  (g o sLen sCap : Nat) (cur : Array Value) (hg : w.heap[g]? = some (.cells cur e (0, 0)))
  (x : Value) (m : Nat) (hlen : (Builtin.lenOf x).run P w = .ok m w) (news : List Value) (hl : news.length = m * i.size) (hx : ¬ ∃ k n, x = .int k n) (hnews : (Builtin.firstCells i.size m x).run P w = .ok news.toArray w) (h1 : ∀ u ∈ news, u.oneCell' = true)
  (hroom : sLen + m ≤ sCap) (hfit : o + sLen * i.size + news.length ≤ cur.size) :
  (Builtin.append_ #[t, t] ty #[.slice (some ⟨g, o, none⟩) sLen sCap, x]).run P w =
   .ok (.slice (some ⟨g, o, none⟩) (sLen + m) sCap) (w.setRow g (cur.toList.take (o + sLen * i.size) ++ news ++ cur.toList.drop (o + sLen * i.size + news.length)).toArray) := by
 have hst := run_storeCells_at P g (o + sLen * i.size) e news 0 cur w hg (by simpa using hfit) h1
 simp only [Nat.add_zero] at hst
 have ha : (⟨g, o, none⟩ : Addr).add (sLen * i.size) = ⟨g, o + sLen * i.size, none⟩ := addr_add _ _ _
 simp [Builtin.append_, run_underlying ht, sizeOf, typeInfo, hi, hlen, hroom, hnews, ha, hst]
theorem ownsAt_new {E size n : Nat} {xs : List Value} {cap : Nat} (hx : xs.length = n * size) (hc : n ≤ cap) (hm : cap ≤ maxLen) (zs : Array Value) (hz : zs.size = (cap - n) * size) :
  ownsAt (w.drew.alloc (.cells (xs.toArray ++ zs) E)) E size (.slice (some ⟨w.heap.size, 0, none⟩) n cap) n xs := by
 refine ⟨hx, .inr ⟨w.heap.size, 0, cap, _, rfl, alloc_new w _, hc, hm, ?_, ?_⟩⟩
 ·refine Nat.le_of_eq ?_
  simp only [Array.size_append, List.size_toArray, hx, hz, Nat.zero_add, ← Nat.add_mul]
  congr 1; omega
 ·simp only [List.drop_zero, Array.toList_append]
  rw [← hx]; exact List.take_left
theorem append_own (t ty e : TypeId) (i : TypeInfo) (z : Value) (ht : P.underlying t = some (.slice e)) (hi : P.info? e = some i) (hz : i.zero = some z) (hzs : z.cells.size = i.size) (hby : 1 ≤ i.bytes)
  (v : Value) (n : Nat) (xs : List Value) (hown : ownsAt w e i.size v n xs)
  (a : Addr) (m c : Nat) (news : List Value) (hl : news.length = m * i.size) (hnews : ∀ j u, news[j]? = some u → w.cell? (a.add j) = some u) (h1 : ∀ u ∈ news, u.oneCell' = true)
  (hbytes : (n + m) * i.bytes ≤ 140737488355328) :
  ∃ v' w', (Builtin.append_ #[t, t] ty #[v, .slice (some a) m c]).run P w = .ok v' w' ∧ ownsAt w' e i.size v' (n + m) (xs ++ news) ∧ Fr (blkOf v) w w' ∧ (∀ b ∈ blkOf v', b ∈ blkOf v ∨ w.heap.size ≤ b) := by
 have hnm : n + m ≤ 140737488355328 := Nat.le_trans (Nat.le_mul_of_pos_right _ hby) hbytes
 have h63 : n + m ≤ maxLen := by unfold maxLen; omega
 have hlen : (xs ++ news).length = (n + m) * i.size := by rw [List.length_append, hown.1, hl, Nat.add_mul]
 rcases hown.2 with ⟨rfl, rfl⟩ | ⟨g, o, cap, cur, rfl, hg, hnc, hcm, hcs, htake⟩
 ·have hx : xs = [] := List.eq_nil_of_length_eq_zero (by simpa using hown.1)
  subst hx
  by_cases hm : m = 0
  ·subst hm
   have hn : news = [] := List.eq_nil_of_length_eq_zero (by simpa using hl)
   subst hn
   refine ⟨.slice none 0 0, w, ?_, ⟨by simp, .inl ⟨rfl, rfl⟩⟩, Fr.refl _ _, fun b hb => by simp [blkOf] at hb⟩
   simp [Builtin.append_, run_underlying ht, sizeOf, typeInfo, hi, Builtin.lenOf, Builtin.firstCells, loadCells, loadCellsFrom]
  ·have hr := run_append_nil (P := P) w t ty e i z ht hi hz a m c news hl hnews (by omega) (by omega) (by simp only [Nat.zero_add] at hbytes; omega)
   have hge := grownCap_ge w m 0 e
   have hcm := grownCap_le_maxLen w m 0 e (by simpa using h63)
   simp only [Nat.zero_add, List.nil_append] at hlen ⊢
   refine ⟨_, _, hr, ownsAt_new hlen hge hcm _ (by rw [size_zeroCells, hzs]), fr_drew_alloc _ _ _, fun b hb => ?_⟩
   simp only [blkOf, List.mem_singleton] at hb
   exact .inr (by omega)
 ·by_cases hroom : n + m ≤ cap
  ·have hfit : o + n * i.size + news.length ≤ cur.size := by
    refine Nat.le_trans ?_ hcs; rw [hl, Nat.add_assoc, ← Nat.add_mul]; exact Nat.add_le_add_left (Nat.mul_le_mul_right _ hroom) _
   have hf := run_firstCells_some (P := P) w i.size m a m c news hl hnews
   have hr := append_room (P := P) (w := w) t ty e i ht hi g o n cap cur hg (.slice (some a) m c) m rfl news hl (by rintro ⟨k, q, h⟩; cases h) hf h1 hroom hfit
   refine ⟨_, _, hr, ⟨hlen, .inr ⟨g, o, cap, _, rfl, setRow_heap w g cur _ e _ hg, hroom, hcm, ?_, ?_⟩⟩, (Fr.refl _ _).setRow (.inl (by simp [blkOf])) _, fun b hb => .inl hb⟩
   ·simp only [List.size_toArray, List.length_append, List.length_take, List.length_drop, Array.length_toList]
    omega
   ·have hol : o + n * i.size ≤ cur.toList.length := by simp only [Array.length_toList]; omega
    have e1 : (cur.toList.take (o + n * i.size)).drop o = xs := by
     rw [← htake, List.drop_take, Nat.add_sub_cancel_left]
    rw [List.append_assoc, List.drop_append_of_le_length (by rw [List.length_take]; omega), e1, ← hlen, ← List.append_assoc]
    exact List.take_left
  ·have holds : ∀ j u, xs[j]? = some u → w.cell? ((⟨g, o, none⟩ : Addr).add j) = some u := by
    intro j u hu
    rw [addr_add, cell_of_row w g _ _ _ _ hg]
    have hj : j < n * i.size := by
     rcases Nat.lt_or_ge j (n * i.size) with h' | h'
     ·exact h'
     ·rw [List.getElem?_eq_none (by rw [hown.1]; exact h')] at hu; cases hu
    rw [← htake, List.getElem?_take_of_lt hj, List.getElem?_drop] at hu
    simpa using hu
   have hr := run_append_grow (P := P) w t ty e i z ht hi hz ⟨g, o, none⟩ n cap xs hown.1 holds a m c news hl hnews (by omega) (by omega) (growslice_fits (by omega) hbytes)
   have hge := grownCap_ge w (n + m) cap e
   have hcm' := grownCap_le_maxLen w (n + m) cap e h63
   have ow := ownsAt_new (w := w) (E := e) hlen hge hcm' (Builtin.zeroCells z.cells (grownCap w (n + m) cap e - (n + m))) (by rw [size_zeroCells, hzs])
   refine ⟨_, _, hr, ?_, fr_drew_alloc _ _ _, fun b hb => ?_⟩
   ·simpa using ow
   ·simp only [blkOf, List.mem_singleton] at hb
    exact .inr (by omega)
end
end Go.Vd
namespace Go.Vd
open Go.RowKit
def appO : List CV → List CV → Option (List CV)
 | [], r => some r
 | x :: l, r => match appO l r with
  | some q => some (x :: q)
  | none => none
theorem appO_eq : ∀ (l r : List CV), appO l r = some (l ++ r)
 | [], r => rfl
 | x :: l, r => by simp [appO, appO_eq l r]
def bldL (st : St) (size : Nat) : Nat → List (Nat × Operand) → Option (List Prop × List CV)
 | _, [] => some ([], [])
 | k, (i, x) :: r => match Nat.beq i k, opv st [] x, bldL st size (k + 1) r with
  | true, some v, some (obs, rest) => match cellsOfRV v with
   | some l => match Nat.beq l.length size, appO l rest with
    | true, some q => some (oneObs l ++ obs, q)
    | _, _ => none
   | none => none
  | _, _, _ => none
theorem keys_nil' {a : Act} : keysHold a [] := fun k hk => by cases hk
section
variable {P : Program} {st : St} {a : Act}
theorem bldL_spec (hwf : WF st) (hr : Rel st a) {size : Nat} : ∀ {parts : List (Nat × Operand)} {k : Nat} {obs : List Prop} {l : List CV}, bldL st size k parts = some (obs, l) → (∀ p ∈ obs, p) →
  l.length = parts.length * size ∧ ∀ cells : Array Value, (k + parts.length) * size ≤ cells.size →
   Instr.fill (fun i => some (i * size, size)) cells (parts.map fun x => (x.1, a.eval x.2)) = some (cells.toList.take (k * size) ++ dens l ++ cells.toList.drop ((k + parts.length) * size)).toArray
 | [], k, obs, l, h, ho => by
  simp only [bldL] at h; cases h
  exact ⟨by simp, fun cells hc => by simp [Instr.fill, dens]⟩
 | (i, x) :: r, k, obs, l, h, ho => by
  simp only [bldL] at h
  split at h
  ·rename_i v obs' rest hi hv hb
   split at h
   ·rename_i l0 hl0
    split at h
    ·rename_i q hlen hq
     cases h
     rw [appO_eq] at hq
     cases hq
     have hi := Nat.eq_of_beq_eq_true hi
     subst hi
     have hlen := Nat.eq_of_beq_eq_true hlen
     obtain ⟨e1, e2⟩ := bldL_spec hwf hr hb fun p hp => ho p (List.mem_append.2 (.inr hp))
     have hone := oneObs_spec (hp := st.hp) (l := l0) (fun p hp => ho p (List.mem_append.2 (.inl hp))) (cells_ok hl0 (opv_ok hwf hr keys_nil' hv))
     have hc := cells_eq hl0 hone
     refine ⟨by simp [hlen, e1, Nat.add_mul, Nat.add_comm], fun cells hcs => ?_⟩
     simp only [List.length_cons] at hcs
     have hks : i * size + size ≤ cells.size := by
      have : (i + 1) * size ≤ (i + (r.length + 1)) * size := Nat.mul_le_mul_right _ (by omega)
      rw [Nat.add_mul, Nat.one_mul] at this; omega
     simp only [List.map_cons, eval_opv hr keys_nil' hv]
     rw [fill_one rfl _ _ _ (by rw [hc]; simp [dens, hlen]) hks]
     have hlen2 : (cells.toList.take (i * size) ++ v.den.cells.toList ++ cells.toList.drop (i * size + size)).length = cells.size := by
      rw [hc]; simp [dens, hlen]; omega
     rw [e2 _ (by simp only [List.size_toArray, hlen2]; rw [show i + 1 + r.length = i + (r.length + 1) by omega]; exact hcs)]
     congr 1
     have hA : (cells.toList.take (i * size) ++ v.den.cells.toList).length = (i + 1) * size := by
      rw [hc]; simp [dens, hlen, Nat.add_mul]; omega
     simp only [List.length_cons]
     rw [← hA, List.take_left, hc]
     have hB : (i + 1 + r.length) * size = (cells.toList.take (i * size) ++ (dens l0).toArray.toList).length + r.length * size := by
      rw [← hc, hA, Nat.add_mul]
     rw [hB, List.drop_append, List.drop_eq_nil_of_le (Nat.le_add_right _ _), Nat.add_sub_cancel_left, List.drop_drop, List.nil_append]
     simp only [dens, List.map_append, List.append_assoc]
     rw [show i * size + size + r.length * size = (i + (r.length + 1)) * size by rw [Nat.add_mul, Nat.add_mul]; omega]
    ·cases h
   ·cases h
  ·cases h
theorem bldL_ok (hwf : WF st) (hr : Rel st a) {size : Nat} : ∀ {parts : List (Nat × Operand)} {k : Nat} {obs : List Prop} {l : List CV}, bldL st size k parts = some (obs, l) → ∀ c ∈ l, CVok st.hp c
 | [], k, obs, l, h => by simp only [bldL] at h; cases h; intro c hc; cases hc
 | (i, x) :: r, k, obs, l, h => by
  simp only [bldL] at h
  split at h
  ·rename_i v obs' rest hi hv hb
   split at h
   ·rename_i l0 hl0
    split at h
    ·rename_i q hlen hq
     cases h
     rw [appO_eq] at hq
     cases hq
     intro c hc
     rcases List.mem_append.1 hc with hc | hc
     ·exact cells_ok hl0 (opv_ok hwf hr keys_nil' hv) c hc
     ·exact bldL_ok hwf hr hb c hc
    ·cases h
   ·cases h
  ·cases h
theorem run_buildSlice (t e : TypeId) (i : TypeInfo) (ht : P.underlying t = some (.slice e)) (hi : P.info? e = some i) (hz : ∃ z, i.zero = some z) (len : Nat) (parts : List (Nat × Value)) (cells : List Value) (w : World)
  (hs : len * i.size ≤ 16777216) (hf : ∀ cs : Array Value, cs.size = len * i.size → Instr.fill (fun k => some (k * i.size, i.size)) cs parts = some cells.toArray) :
  (Instr.buildSlice t len parts.toArray).run P w = .ok (.slice (some ⟨w.heap.size, 0, none⟩) len len) (w.alloc (.cells cells.toArray e)) := by
 obtain ⟨z, hz⟩ := hz
 have h1 : ¬ (len * i.size > 2 ^ 24) := by simp; omega
 by_cases h0 : len * i.size = 0
 ·have := hf ((Array.range (len * i.size)).map ((#[] : Array Value)[· % (#[] : Array Value).size]!)) (by simp)
  have h2 : ¬ ((0 : Nat) > 2 ^ 24) := by decide
  simp only [h0] at this
  simp only [Instr.buildSlice, Sem.run_bind, run_underlying ht, Result.andThen_ok, ok_sizeOf hi, h0, h2, if_false, if_true, Sem.run_pure]
  simp only [this, newRow, Sem.run_bind, run_newObj, Result.andThen_ok, Sem.run_pure]
  rfl
 ·have := hf ((Array.range (len * i.size)).map (z.cells[· % z.cells.size]!)) (by simp)
  simp only [Instr.buildSlice, Sem.run_bind, run_underlying ht, Result.andThen_ok, ok_sizeOf hi, h1, if_false, h0, ok_zeroValue hi hz, Sem.run_pure]
  simp only [this, newRow, Sem.run_bind, run_newObj, Result.andThen_ok, Sem.run_pure]
  rfl
end
def SrcOk (w : World) (u : Value) (size : Nat) (rows : List (List CV)) : Prop :=
 (∀ l ∈ rows, l.length = size) ∧ (∀ l ∈ rows, ∀ c ∈ l, c.den.oneCell' = true) ∧
  ((∃ a c, u = .slice (some a) rows.length c ∧ ∀ j x, (dens rows.flatten)[j]? = some x → w.cell? (a.add j) = some x) ∨ (u = .slice none 0 0 ∧ rows = []))
theorem flatten_len {β : Type} {size : Nat} : ∀ {L : List (List β)}, (∀ l ∈ L, l.length = size) → L.flatten.length = L.length * size
 | [], _ => by simp
 | l :: L, h => by
  have h1 := h l (by simp)
  have h2 := flatten_len (L := L) fun x hx => h x (by simp [hx])
  simp [h1, h2, Nat.add_mul, Nat.add_comm]
theorem append_any {P : Program} {w : World} (t ty e : TypeId) (i : TypeInfo) (z : Value) (ht : P.underlying t = some (.slice e)) (hi : P.info? e = some i) (hz : i.zero = some z) (hzs : z.cells.size = i.size) (hby : 1 ≤ i.bytes)
  (v : Value) (n : Nat) (xs : List Value) (hown : ownsAt w e i.size v n xs) (u : Value) (rows : List (List CV)) (hsrc : SrcOk w u i.size rows) (hbytes : (n + rows.length) * i.bytes ≤ 140737488355328) :
  ∃ v' w', (Builtin.append_ #[t, t] ty #[v, u]).run P w = .ok v' w' ∧ ownsAt w' e i.size v' (n + rows.length) (xs ++ dens rows.flatten) ∧ Fr (blkOf v) w w' ∧ (∀ b ∈ blkOf v', b ∈ blkOf v ∨ w.heap.size ≤ b) := by
 obtain ⟨h1, h2, ⟨a, c, rfl, h3⟩ | ⟨rfl, rfl⟩⟩ := hsrc
 ·refine append_own t ty e i z ht hi hz hzs hby v n xs hown a rows.length c (dens rows.flatten) (by simp only [dens, List.length_map]; exact flatten_len h1) h3 ?_ hbytes
  intro u hu
  simp only [dens, List.mem_map, List.mem_flatten] at hu
  obtain ⟨c, ⟨l, hl, hc⟩, rfl⟩ := hu
  exact h2 l hl c hc
 ·refine ⟨v, w, ?_, by simpa [dens] using hown, Fr.refl _ _, fun b hb => .inl hb⟩
  rcases hown.2 with ⟨rfl, rfl⟩ | ⟨g, o, cap, cur, rfl, hg, hnc, hcm, hcs, htake⟩
  ·simp [Builtin.append_, run_underlying ht, sizeOf, typeInfo, hi, Builtin.lenOf, Builtin.firstCells]
  ·simp [Builtin.append_, run_underlying ht, sizeOf, typeInfo, hi, Builtin.lenOf, Builtin.firstCells, hnc, storeCells]
def chunks (size : Nat) : Nat → List CV → Option (List (List CV))
 | 0, [] => some []
 | 0, _ :: _ => none
 | n + 1, cs => match takeCells 0 size cs, chunks size n (cs.drop size) with
  | some l, some r => some (l :: r)
  | _, _ => none
theorem chunks_spec {size : Nat} : ∀ {n : Nat} {cs : List CV} {rows : List (List CV)}, chunks size n cs = some rows → rows.length = n ∧ rows.flatten = cs ∧ ∀ l ∈ rows, l.length = size
 | 0, [], rows, h => by simp only [chunks] at h; cases h; simp
 | 0, _ :: _, rows, h => by simp [chunks] at h
 | n + 1, cs, rows, h => by
  simp only [chunks] at h
  split at h
  ·rename_i l r hl hr
   cases h
   obtain ⟨h1, h2, h3⟩ := chunks_spec hr
   obtain ⟨e1, e2⟩ := takeCells_spec hl
   have hle : size ≤ cs.length := by
    rcases Nat.eq_zero_or_pos size with h0 | h0
    ·omega
    ·have := e2 (size - 1) (by omega)
     rw [Nat.zero_add, List.getElem?_eq_getElem (show size - 1 < l.length by omega)] at this
     have := (List.getElem?_eq_some_iff.1 this).1
     omega
   have el : l = cs.take size := by
    apply List.ext_getElem?
    intro j
    by_cases hj : j < size
    ·have := e2 j hj
     rw [Nat.zero_add] at this
     rw [List.getElem?_take_of_lt hj, this]
    ·rw [List.getElem?_eq_none (by omega), List.getElem?_eq_none (by rw [List.length_take]; omega)]
   refine ⟨by simp [h1], by rw [List.flatten_cons, h2, el, List.take_append_drop], fun x hx => ?_⟩
   rcases List.mem_cons.1 hx with rfl | hx
   ·exact e1
   ·exact h3 x hx
  ·cases h
theorem splice_take {β : Type} (D m : List β) (q N : Nat) (h1 : q + m.length ≤ N) (h2 : N ≤ D.length) :
  (D.take q ++ m ++ D.drop (q + m.length)).take N = (D.take N).take q ++ m ++ (D.take N).drop (q + m.length) := by
 have e : (D.take q ++ m).length = q + m.length := by rw [List.length_append, List.length_take]; omega
 rw [List.take_append, List.take_of_length_le (by omega), e, List.take_take, Nat.min_eq_left (by omega), List.drop_take]
theorem flatten_set {size : Nat} : ∀ {L : List (List CV)} (_ : ∀ l ∈ L, l.length = size) {k off : Nat} {row l row' : List CV} (_ : L[k]? = some row) (_ : setCells off l row = some row'),
  (L.set k row').flatten = L.flatten.take (k * size + off) ++ l ++ L.flatten.drop (k * size + off + l.length)
 | [], _, k, off, row, l, row', hk, hs => by simp at hk
 | r :: L, hL, 0, off, row, l, row', hk, hs => by
  simp at hk; subst hk
  obtain ⟨e1, e2⟩ := setCells_spec hs
  simp only [List.set_cons_zero, List.flatten_cons, Nat.zero_mul, Nat.zero_add]
  rw [e1, List.take_append_of_le_length (by omega), List.drop_append_of_le_length e2]
  simp
 | r :: L, hL, k + 1, off, row, l, row', hk, hs => by
  have hk' : L[k]? = some row := by simpa using hk
  have ih := flatten_set (fun x hx => hL x (by simp [hx])) hk' hs
  have hr := hL r (by simp)
  have e1 : (r ++ L.flatten).take (r.length + (k * size + off)) = r ++ L.flatten.take (k * size + off) := by
   rw [List.take_append, List.take_of_length_le (by omega), Nat.add_sub_cancel_left]
  have e2 : (r ++ L.flatten).drop (r.length + (k * size + off + l.length)) = L.flatten.drop (k * size + off + l.length) := by
   rw [List.drop_append, List.drop_eq_nil_of_le (by omega), Nat.add_sub_cancel_left, List.nil_append]
  simp only [List.set_cons_succ, List.flatten_cons]
  rw [ih, show (k + 1) * size + off = r.length + (k * size + off) by rw [hr, Nat.add_mul]; omega, e1, show r.length + (k * size + off) + l.length = r.length + (k * size + off + l.length) by omega, e2]
  simp
theorem row_store {P : Program} {w : World} {v : Value} {E size : Nat} {L : List (List CV)} (h : (LO.row v E size L).holds w) {k off : Nat} {row l row' : List CV} (hk : L[k]? = some row) (hs : setCells off l row = some row')
  (hone : ∀ u ∈ dens l, u.oneCell' = true) {a : Addr} {n c : Nat} (hv : v = .slice (some a) n c) :
  ∃ w', (storeCells (elemAddr a size (k : Int) off) (dens l)).run P w = .ok () w' ∧ Fr (blkOf v) w w' ∧ (LO.row v E size (L.set k row')).holds w' := by
 obtain ⟨⟨hlen, hown⟩, hL⟩ := h
 obtain ⟨e1, e2⟩ := setCells_spec hs
 have hrow : row.length = size := hL row (List.mem_of_getElem? hk)
 have hkl : k < L.length := by
  rcases Nat.lt_or_ge k L.length with h' | h'
  ·exact h'
  ·rw [List.getElem?_eq_none h'] at hk; cases hk
 rcases hown with ⟨rfl, _⟩ | ⟨g, o, cap, cur, rfl, hg, hn, hcm, hcs, htake⟩
 ·cases hv
 ·cases hv
  have hb : k * size + size ≤ L.length * size := by
   have : (k + 1) * size ≤ L.length * size := Nat.mul_le_mul_right _ (by omega)
   rw [Nat.add_mul, Nat.one_mul] at this; exact this
  have hcapn : L.length * size ≤ c * size := Nat.mul_le_mul_right _ hn
  have ea : elemAddr (⟨g, o, none⟩ : Addr) size (k : Int) off = ⟨g, o + (k * size + off), none⟩ := by
   unfold elemAddr; rw [Int.toNat_natCast, addr_add, addr_add, Nat.add_assoc]
  have hdl : (dens l).length = l.length := by simp [dens]
  have hst := run_storeCells_at P g (o + (k * size + off)) E (dens l) 0 cur w hg (by rw [hdl]; omega) hone
  rw [Nat.add_zero, hdl] at hst
  have hset : ∀ x ∈ L.set k row', x.length = size := by
   intro x hx
   rcases List.mem_or_eq_of_mem_set hx with hx | rfl
   ·exact hL x hx
   ·rw [e1]; simp; omega
  refine ⟨_, by rw [ea]; exact hst, (Fr.refl _ _).setRow (.inl (by simp [blkOf])) _, ⟨by simp only [dens, List.length_map]; exact flatten_len hset, .inr ⟨g, o, c, _, by rw [List.length_set], setRow_heap w g cur _ E _ hg, by rw [List.length_set]; exact hn, hcm, ?_, ?_⟩⟩, hset⟩
  ·simp only [List.size_toArray, List.length_append, List.length_take, List.length_drop, Array.length_toList, hdl]
   omega
  ·have hol : o + (k * size + off) ≤ cur.toList.length := by simp only [Array.length_toList]; omega
   rw [List.length_set, flatten_set hL hk hs]
   rw [List.append_assoc, List.drop_append_of_le_length (by rw [List.length_take]; omega), List.drop_take, Nat.add_sub_cancel_left, ← List.append_assoc]
   have e3 : cur.toList.drop (o + (k * size + off) + l.length) = (cur.toList.drop o).drop (k * size + off + (dens l).length) := by
    rw [List.drop_drop, hdl, Nat.add_assoc]
   rw [e3, splice_take _ _ _ _ (by rw [hdl]; omega) (by simp only [List.length_drop, Array.length_toList]; omega), htake, hdl]
   simp [dens, List.map_append, List.map_take, List.map_drop]
end Go.Vd
namespace Go.Vd
open Go.RowKit
theorem made_eq (z : Array Value) (zero : List CV) (hz : z.toList = dens zero) (n : Nat) (hpos : 0 < zero.length) :
  (madeCells z (n * zero.length)).toList = dens (List.replicate n zero).flatten := by
 have hsz : z.size = zero.length := by rw [← Array.length_toList, hz]; simp [dens]
 apply List.ext_getElem?
 intro k
 by_cases hk : k < n * zero.length
 ·have hq : k / zero.length < n := Nat.div_lt_of_lt_mul (by rw [Nat.mul_comm]; exact hk)
  have hr := Nat.mod_lt k hpos
  have hk' : k / zero.length * zero.length + k % zero.length = k := by rw [Nat.mul_comm]; exact Nat.div_add_mod k zero.length
  have e := flatten_get (size := zero.length) (L := List.replicate n zero) (fun l hl => by rw [List.eq_of_mem_replicate hl]) (k := k / zero.length) (row := zero) (by simp [hq]) (k % zero.length) hr
  rw [hk'] at e
  have e2 : (dens (List.replicate n zero).flatten)[k]? = (dens zero)[k % zero.length]? := by
   simp only [dens, List.getElem?_map, e]
  rw [e2, ← hz]
  unfold madeCells
  simp [hk, hsz, hr]
 ·rw [List.getElem?_eq_none (by simp [madeCells]; omega), List.getElem?_eq_none (by simp only [dens, List.length_map]; rw [flatten_len (size := zero.length) (fun l hl => by rw [List.eq_of_mem_replicate hl])]; simp; omega)]
theorem flatten_take {β : Type} {size : Nat} : ∀ {L : List (List β)} (_ : ∀ l ∈ L, l.length = size) (k : Nat), (L.take k).flatten = L.flatten.take (k * size)
 | [], _, k => by simp
 | l :: L, h, 0 => by simp
 | l :: L, h, k + 1 => by
  have h1 := h l (by simp)
  have ih := flatten_take (L := L) (fun x hx => h x (by simp [hx])) k
  simp only [List.take_succ_cons, List.flatten_cons, ih]
  have e : (k + 1) * size - l.length = k * size := by rw [h1, Nat.add_mul]; omega
  have e2 : l.take ((k + 1) * size) = l := List.take_of_length_le (by rw [h1, Nat.add_mul]; omega)
  rw [List.take_append, e, e2]
theorem flatten_drop {β : Type} {size : Nat} : ∀ {L : List (List β)} (_ : ∀ l ∈ L, l.length = size) (k : Nat), (L.drop k).flatten = L.flatten.drop (k * size)
 | [], _, k => by simp
 | l :: L, h, 0 => by simp
 | l :: L, h, k + 1 => by
  have h1 := h l (by simp)
  have ih := flatten_drop (L := L) (fun x hx => h x (by simp [hx])) k
  simp only [List.drop_succ_cons, List.flatten_cons, ih]
  have e : (k + 1) * size - l.length = k * size := by rw [h1, Nat.add_mul]; omega
  have e2 : l.drop ((k + 1) * size) = [] := List.drop_eq_nil_of_le (by rw [h1, Nat.add_mul]; omega)
  rw [List.drop_append, e, e2, List.nil_append]
def spliceR (L rows : List (List CV)) (lo : Nat) : List (List CV) := L.take lo ++ rows ++ L.drop (lo + rows.length)
theorem spliceR_length {L rows : List (List CV)} {lo : Nat} (h : lo + rows.length ≤ L.length) : (spliceR L rows lo).length = L.length := by
 simp [spliceR]; omega
theorem row_write {P : Program} {w : World} {E size : Nat} {L rows : List (List CV)} {ad : Addr} {n c : Nat} (h : (LO.row (.slice (some ad) n c) E size L).holds w) {lo : Nat} (hlo : lo + rows.length ≤ L.length)
  (hrows : ∀ l ∈ rows, l.length = size) (hone : ∀ u ∈ dens rows.flatten, u.oneCell' = true) :
  ∃ w', (storeCells (ad.add (lo * size)) (dens rows.flatten)).run P w = .ok () w' ∧ Fr (blkOf (.slice (some ad) n c)) w w' ∧ (LO.row (.slice (some ad) n c) E size (spliceR L rows lo)).holds w' := by
 obtain ⟨⟨hlen, hown⟩, hL⟩ := h
 rcases hown with ⟨he, _⟩ | ⟨g, o, cap, cur, he, hg, hn, hcm, hcs, htake⟩
 ·cases he
 ·cases he
  have hb : lo * size + rows.length * size ≤ L.length * size := by
   rw [← Nat.add_mul]; exact Nat.mul_le_mul_right _ hlo
  have hcapn : L.length * size ≤ c * size := Nat.mul_le_mul_right _ hn
  have hdl : (dens rows.flatten).length = rows.length * size := by simp only [dens, List.length_map]; exact flatten_len hrows
  have hst := run_storeCells_at P g (o + lo * size) E (dens rows.flatten) 0 cur w hg (by rw [hdl]; omega) hone
  rw [Nat.add_zero, hdl] at hst
  have hset : ∀ x ∈ spliceR L rows lo, x.length = size := by
   intro x hx
   simp only [spliceR, List.mem_append] at hx
   rcases hx with (hx | hx) | hx
   ·exact hL x (List.mem_of_mem_take hx)
   ·exact hrows x hx
   ·exact hL x (List.mem_of_mem_drop hx)
  refine ⟨_, by rw [addr_add]; exact hst, (Fr.refl _ _).setRow (.inl (by simp [blkOf])) _, ⟨by simp only [dens, List.length_map]; exact flatten_len hset, .inr ⟨g, o, c, _, by rw [spliceR_length hlo], setRow_heap w g cur _ E _ hg, by rw [spliceR_length hlo]; exact hn, hcm, ?_, ?_⟩⟩, hset⟩
  ·simp only [List.size_toArray, List.length_append, List.length_take, List.length_drop, Array.length_toList, hdl]
   omega
  ·have hol : o + lo * size ≤ cur.toList.length := by simp only [Array.length_toList]; omega
   rw [spliceR_length hlo]
   rw [List.append_assoc, List.drop_append_of_le_length (by rw [List.length_take]; omega), List.drop_take, Nat.add_sub_cancel_left, ← List.append_assoc]
   have e3 : cur.toList.drop (o + lo * size + rows.length * size) = (cur.toList.drop o).drop (lo * size + (dens rows.flatten).length) := by
    rw [List.drop_drop, hdl, Nat.add_assoc]
   rw [e3, splice_take _ _ _ _ (by rw [hdl]; omega) (by simp only [List.length_drop, Array.length_toList]; omega), htake, hdl]
   simp only [spliceR, dens, List.flatten_append, List.map_append, flatten_take hL, flatten_drop hL, List.map_take, List.map_drop, Nat.add_mul]
theorem row_slice {w : World} {v : Value} {E size : Nat} {L : List (List CV)} (h : (LO.row v E size L).holds w) : ∃ a c, v = .slice a L.length c ∧ L.length ≤ c ∧ (a = none → L.length = 0 ∧ c = 0) := by
 obtain ⟨⟨_, ⟨rfl, h0⟩ | ⟨g, o, cap, cur, rfl, hg, hlc, _⟩⟩, _⟩ := h
 ·exact ⟨none, 0, by rw [h0], by omega, fun _ => ⟨h0, rfl⟩⟩
 ·exact ⟨_, cap, rfl, hlc, fun h => by cases h⟩
def SrcN (w : World) (u : Value) (size : Nat) (rows : List (List CV)) (k : Nat) : Prop :=
 (∀ l ∈ rows, l.length = size) ∧ (∀ l ∈ rows, ∀ c ∈ l, c.den.oneCell' = true) ∧
  ((∃ a n c, u = .slice (some a) n c ∧ rows.length = Nat.min n k ∧ ∀ j x, (dens rows.flatten)[j]? = some x → w.cell? (a.add j) = some x) ∨ (∃ c, u = .slice none 0 c ∧ rows = []))
theorem copy_own {P : Program} {w : World} (t t' ty e : TypeId) (i : TypeInfo) (ht : P.underlying t = some (.slice e)) (hi : P.info? e = some i) {v : Value} {E : Nat} {L rows : List (List CV)} (h : (LO.row v E i.size L).holds w) {lo : Nat} (hlo : lo + rows.length ≤ L.length)
  {u : Value} (hsrc : SrcN w u i.size rows (L.length - lo)) : ∃ w', (Builtin.copy_ #[t, t'] ty #[subV v i.size lo L.length, u]).run P w = .ok (.int .i64 rows.length) w' ∧ Fr (blkOf v) w w' ∧
   (LO.row v E i.size (spliceR L rows lo)).holds w' := by
 obtain ⟨a, c, rfl, hlc, hnil⟩ := row_slice h
 obtain ⟨h1, h2, h3⟩ := hsrc
 have hone : ∀ u ∈ dens rows.flatten, u.oneCell' = true := by
  intro u hu
  simp only [dens, List.mem_map, List.mem_flatten] at hu
  obtain ⟨c, ⟨l, hl, hc⟩, rfl⟩ := hu
  exact h2 l hl c hc
 have hlen : (dens rows.flatten).length = rows.length * i.size := by simp only [dens, List.length_map]; exact flatten_len h1
 obtain ⟨n, hl, hm, hf⟩ : ∃ n, (Builtin.lenOf u).run P w = .ok n w ∧ Nat.min n (L.length - lo) = rows.length ∧ (Builtin.firstCells i.size rows.length u).run P w = .ok (dens rows.flatten).toArray w := by
  rcases h3 with ⟨a', n, c', rfl, h4, h5⟩ | ⟨c', rfl, rfl⟩
  ·exact ⟨n, by simp [Builtin.lenOf], h4.symm, run_firstCells_some (P := P) w i.size rows.length a' n c' _ hlen h5⟩
  ·exact ⟨0, by simp [Builtin.lenOf], by simp, by simp [Builtin.firstCells, dens]⟩
 by_cases h0 : rows.length = 0
 ·have hr : rows = [] := List.eq_nil_of_length_eq_zero h0
  subst hr
  refine ⟨w, ?_, Fr.refl _ _, by simpa [spliceR] using h⟩
  simp only [List.flatten_nil, List.length_nil] at hf hm ⊢
  simp only [Builtin.copy_, subV, Sem.run_bind, Result.andThen_ok, List.getElem?_toArray, List.getElem?_cons_zero, List.getElem?_cons_succ, run_underlying ht, hl, ok_sizeOf hi, Int.toNat_natCast, hm, hf, goInt]
  split
  ·simp [dens, storeCells]
  ·simp
 ·cases a with
  | none => have := (hnil rfl).1; omega
  | some ad =>
   have hne : c ≠ lo := by omega
   obtain ⟨w', k1, k2, k3⟩ := row_write (P := P) h (rows := rows) (lo := lo) hlo h1 hone
   refine ⟨w', ?_, k2, k3⟩
   simp only [Builtin.copy_, subV, Sem.run_bind, Result.andThen_ok, List.getElem?_toArray, List.getElem?_cons_zero, List.getElem?_cons_succ, run_underlying ht, hl, ok_sizeOf hi, Int.toNat_natCast, hm, hf, goInt, hne, if_false, Option.map_some, k1, Sem.run_pure]
theorem clear_own {P : Program} {w : World} (t ty e : TypeId) (i : TypeInfo) (z : Value) (ht : P.underlying t = some (.slice e)) (hi : P.info? e = some i) (hz : i.zero = some z) {zero : List CV} (hzc : z.cells.toList = dens zero) (hzl : zero.length = i.size) (hpos : 0 < i.size) (hzo : ∀ u ∈ dens zero, u.oneCell' = true) {v : Value} {E : Nat} {L : List (List CV)} (h : (LO.row v E i.size L).holds w) {lo : Nat} (hlo : lo ≤ L.length) :
  ∃ w', (Builtin.clear_ #[t] ty #[subV v i.size lo L.length]).run P w = .ok (.tuple #[]) w' ∧ Fr (blkOf v) w w' ∧ (LO.row v E i.size (spliceR L (List.replicate (L.length - lo) zero) lo)).holds w' := by
 obtain ⟨a, c, rfl, hlc, hnil⟩ := row_slice h
 by_cases h0 : L.length - lo = 0
 ·refine ⟨w, ?_, Fr.refl _ _, by simpa [spliceR, h0] using h⟩
  simp only [Builtin.clear_, subV, List.getElem?_toArray, List.getElem?_cons_zero, Sem.run_bind, run_underlying ht, Result.andThen_ok, Int.toNat_natCast, h0]
  generalize (if c = lo then a else Option.map (fun x => x.add (lo * i.size)) a) = b
  cases b <;> simp
 ·cases a with
  | none => have := (hnil rfl).1; omega
  | some ad =>
   have hne : c ≠ lo := by omega
   have hcells : (Builtin.zeroCells z.cells (L.length - lo)).toList = dens (List.replicate (L.length - lo) zero).flatten := by
    have hzs : z.cells.size = zero.length := by rw [← Array.length_toList, hzc]; simp [dens]
    rw [← made_eq z.cells zero hzc (L.length - lo) (by omega)]
    simp [Builtin.zeroCells, madeCells, hzs]
   obtain ⟨w', h1, h2, h3⟩ := row_write (P := P) h (rows := List.replicate (L.length - lo) zero) (lo := lo) (by simp; omega) (fun l hl => by rw [List.eq_of_mem_replicate hl]; exact hzl) (by
    intro u hu
    simp only [dens, List.mem_map, List.mem_flatten] at hu
    obtain ⟨c, ⟨l, hl, hc⟩, rfl⟩ := hu
    rw [List.eq_of_mem_replicate hl] at hc
    exact hzo _ (List.mem_map.2 ⟨c, hc, rfl⟩))
   refine ⟨w', ?_, h2, h3⟩
   obtain ⟨k, hk⟩ : ∃ k, L.length - lo = k + 1 := ⟨L.length - lo - 1, by omega⟩
   rw [hk] at hcells h1
   simp only [Builtin.clear_, subV, List.getElem?_toArray, List.getElem?_cons_zero, Sem.run_bind, run_underlying ht, Result.andThen_ok, Int.toNat_natCast, hk, hne, if_false, Option.map_some, ok_zeroValue hi hz, hcells, h1, Sem.run_pure]
end Go.Vd
namespace Go.Vd
open Go.RowKit
structure At (st : St) (R : Act → World → Prop) : Prop where
 out : WF st → ∀ a w, Rel st a → Holds st w → R a w
def SameS (st st' : St) : Prop := st'.sl = st.sl ∧ st'.gl = st.gl ∧ st'.N = st.N ∧ st'.df = st.df
theorem SameS.rel {st st' : St} {a : Act} (h : SameS st st') (hg : st.gl = []) (hr : Rel st a) : Rel st' a := by
 obtain ⟨h1, h2, h3, h4⟩ := h
 refine ⟨by rw [h3]; exact hr.size, hr.defers.trans h4.symm, fun s v hl => hr.sl s v (by rw [← h1]; exact hl), fun s ks v hl => ?_⟩
 rw [h2, hg] at hl; cases hl
def goPut (st : St) (d : Option Nat) (v : RV) (K : St → Prop) : Prop :=
 match put st d [] v with
 | some st' => K st'
 | none => False
def appTo (st : St) (d : Option Nat) (ti : TI) (rows : List (List CV)) (K : St → Prop) : RV → Prop
 | .s (.c (.o id v)) => match look st.hp id with
  | some (.row v0 E size L) => match Nat.beq E ti.elem, Nat.beq size ti.esize with
   | true, true => (v = v0 ∧ (L.length + rows.length) * ti.ebytes ≤ 140737488355328) ∧
     ∀ v' : Value, hpSetK st.hp id (.row v' E size (L ++ rows)) (fun hp => st.withHp hp (fun st' => goPut st' d (.s (.c (.o id v'))) K))
   | _, _ => False
  | _ => False
 | .s (.c (.x (.slice none 0 0))) => (0 + rows.length) * ti.ebytes ≤ 140737488355328 ∧ ∀ v' : Value, st.pushK (.row v' ti.elem ti.esize rows) (fun n st' => goPut st' d (.s (.c (.o n v'))) K)
 | _ => False
def stepA (tab : Tab) (o : Oper) (st : St) (K : St → Prop) (s x : Operand) (t t' : TypeId) : Prop :=
 match Nat.beq t t', look tab t, opv st [] s, opv st [] x with
 | true, some ti, some sv, some (.s (.c xc)) => match Nat.beq ti.kind 1, Nat.ble 1 ti.ebytes, look tab ti.elem with
  | true, true, some _ => match xc with
   | .o id v => match look st.hp id with
    | some (.row v0 _ size L) => match Nat.beq size ti.esize with
     | true => v = v0 ∧ obl [] (oneObs L.flatten) (appTo st o.dst ti L K sv)
     | false => False
    | _ => False
   | xc => ∃ rows : List (List CV), ((∀ w, Holds st w → SrcOk w xc.den ti.esize rows) ∧ ∀ l ∈ rows, ∀ c ∈ l, noP c = true) ∧ appTo st o.dst ti rows K sv
  | _, _, _ => False
 | _, _, _, _ => False
def UCall (P : Program) (st : St) (f : FuncId) (args : List Value) (d : Option Nat) (K : St → Prop) : Prop :=
 (Body P f ∧ (WF st → ∀ w, Holds st w → Calls P f args.toArray w (fun e w' => ∃ (r : RV) (st' : St), e = .returned r.den ∧ SameS st st' ∧ WF st' ∧ RVok st'.hp r ∧ Holds st' w' ∧ goPut st' d r K))) ∨
 (∃ r : RV, noPr r = true ∧ (∀ w, Holds st w → (callFunc f args.toArray).run P w = .ok (.value r.den) w) ∧ goPut st d r K)
def St.withDf : St → Deferred → (St → Prop) → Prop
 | ⟨N, sl, gl, hp, S, ws, df⟩, d, K => K ⟨N, sl, gl, hp, S, ws, d :: df⟩
def stepClear (tab : Tab) (o : Oper) (st : St) (K : St → Prop) (x : Operand) (t : TypeId) : Prop :=
 match look tab t, opv st [] x with
 | some ti, some (.s (.c (.x u))) => match Nat.beq ti.kind 1, look tab ti.elem, Nat.ble 1 ti.esize with
  | true, some te, true => ∃ id lo : Nat, match look st.hp id with
   | some (.row v E size L) => match Nat.beq size ti.esize with
    | true => (u = subV v size lo L.length ∧ lo ≤ L.length) ∧ obl [] (oneObs te.zero) (hpSetK st.hp id (.row v E size (spliceR L (List.replicate (L.length - lo) te.zero) lo)) (fun hp => st.withHp hp (fun st' => goPut st' o.dst (.tup []) K)))
    | false => False
   | _ => False
  | _, _, _ => False
 | _, _ => False
def stepCopy (tab : Tab) (o : Oper) (st : St) (K : St → Prop) (d x : Operand) (t : TypeId) : Prop :=
 match look tab t, opv st [] d, opv st [] x with
 | some ti, some (.s (.c (.x u))), some (.s (.c xc)) => match Nat.beq ti.kind 1 with
  | true => ∃ (id lo : Nat) (rows : List (List CV)), match look st.hp id with
   | some (.row v E size L) => match Nat.beq size ti.esize with
    | true => (u = subV v size lo L.length ∧ lo + rows.length ≤ L.length ∧ (∀ w, Holds st w → SrcN w xc.den size rows (L.length - lo)) ∧ ∀ l ∈ rows, ∀ c ∈ l, noP c = true) ∧
     hpSetK st.hp id (.row v E size (spliceR L rows lo)) (fun hp => st.withHp hp (fun st' => goPut st' o.dst (.s (.c (.i rows.length))) K))
    | false => False
   | _ => False
  | false => False
 | _, _, _ => False
def stepAZ (tab : Tab) (o : Oper) (st : St) (K : St → Prop) (s x : Operand) (t t' : TypeId) : Prop :=
 match look tab t, look tab t', opv st [] s, opv st [] x with
 | some ti, some tx, some (.s (.c (.x u))), some (.s (.c (.i k))) => match Nat.beq ti.kind 1, Nat.beq tx.kind 6, look tab ti.elem, Nat.ble 1 ti.ebytes, Nat.ble 1 ti.esize with
  | true, true, some te, true, true => ∃ rows : List (List CV), ((∀ w, Holds st w → SrcOk w u ti.esize rows) ∧ (∀ l ∈ rows, ∀ c ∈ l, noP c = true) ∧ 0 < k ∧ scap u < rows.length + k ∧ (rows.length + k) * ti.ebytes ≤ 140737488355328) ∧
    ∀ v' : Value, st.pushK (.row v' ti.elem ti.esize (rows ++ List.replicate k.toNat te.zero)) (fun n st' => goPut st' o.dst (.s (.c (.o n v'))) K)
  | _, _, _, _, _ => False
 | _, _, _, _ => False
def step (P : Program) (tab : Tab) (ops : Array Oper) (o : Oper) (st : St) (K : St → Prop) : Prop :=
 match o.guard, st.gl with
 | none, [] => match callOf st [] o.op with
  | some (f, args) => UCall P st f args o.dst K
  | none => match o.op with
   | .alloc t => match look tab t with
    | some ti => ∀ blk : Nat, st.pushK (.box blk t ti.zero) (fun n st' => goPut st' o.dst (.s (.c (.p n blk 0))) K)
    | none => False
   | .box t x => match opv st [] x with
    | some v => match cellsOfRV v with
     | some l => obl [] (oneObs l) (∀ blk : Nat, st.pushK (.box blk t l) (fun n st' => goPut st' o.dst (.s (.c (.p n blk 0))) K))
     | none => False
    | none => False
   | .store t x y => match o.dst, look tab t, opv st [] x, opv st [] y with
    | none, some ti, some (.s (.c (.p id _ off))), some v => match look st.hp id, cellsOfRV v with
     | some (.box b T cells), some l => match Nat.beq l.length ti.size, setCells off l cells with
      | true, some cells' => obl [] (oneObs l) (hpSetK st.hp id (.box b T cells') (fun hp => st.withHp hp K))
      | _, _ => False
     | _, _ => False
    | none, some ti, some (.s (.c (.r id v size idx off))), some yv => match look st.hp id, cellsOfRV yv with
     | some (.row v0 E size0 L), some l => ∃ row : List CV, (v = v0 ∧ size = size0 ∧ 0 ≤ idx ∧ L[idx.toNat]? = some row) ∧
      match Nat.beq l.length ti.size, setCells off l row with
      | true, some row' => obl [] (oneObs l) (hpSetK st.hp id (.row v0 E size0 (L.set idx.toNat row')) (fun hp => st.withHp hp K))
      | _, _ => False
     | _, _ => False
    | _, _, _, _ => False
   | .buildSlice t len parts => match look tab t with
    | some ti => match Nat.beq ti.kind 1, bldL st ti.esize 0 parts.toList, look tab ti.elem with
     | true, some (obs, l), some _ => match Nat.beq parts.toList.length len, Nat.ble (len * ti.esize) 16777216, Nat.ble len 16777216 with
      | true, true, true => match chunks ti.esize len l with
       | some rows => obl [] obs (∀ v' : Value, st.pushK (.row v' ti.elem ti.esize rows) (fun n st' => goPut st' o.dst (.s (.c (.o n v'))) K))
       | none => False
      | _, _, _ => False
     | _, _, _ => False
    | none => False
   | .makeSlice t l c => match look tab t, opv st [] l, opv st [] c with
    | some ti, some (.s (.c (.i n))), some (.s (.c (.i m))) => match Nat.beq ti.kind 1, look tab ti.elem, Nat.ble 1 ti.esize, Nat.ble 1 ti.ebytes with
     | true, some te, true, true => (n = m ∧ 0 ≤ n ∧ n * ti.ebytes ≤ 140737488355328) ∧ ∀ v' : Value, st.pushK (.row v' ti.elem ti.esize (List.replicate n.toNat te.zero)) (fun n st' => goPut st' o.dst (.s (.c (.o n v'))) K)
     | _, _, _, _ => False
    | _, _, _ => False
   | .defer c => match o.dst, c.callee with
    | none, .value f => match opv st [] f, opvs st [] c.args.toList with
     | some (.s (.c (.x (.func (.func g) first caps)))), some l => st.withDf { target := .fn (.func g) caps, args := first ++ rdens l } K
     | _, _ => False
    | _, _ => False
   | .call c => match c.callee, c.args.toList, c.argTypes.toList with
    | .builtin .append, [s, x], [t, t'] => match Nat.beq t t' with
     | true => stepA tab o st K s x t t'
     | false => stepAZ tab o st K s x t t'
    | .builtin .clear, [x], [t] => stepClear tab o st K x t
    | .builtin .copy, [d, x], [t, _] => stepCopy tab o st K d x t
    | _, _, _ => stepQ P tab ops o st K
   | _ => stepQ P tab ops o st K
 | _, _ => stepQ P tab ops o st K
theorem ownsAt_some {w : World} {E size n : Nat} {v : Value} {xs : List Value} (h : ownsAt w E size v n xs) (hn : 0 < n) : ∃ a m c, v = .slice (some a) m c := by
 rcases h.2 with ⟨_, h0⟩ | ⟨g, o, cap, cur, rfl, _⟩
 ·omega
 ·exact ⟨_, _, _, rfl⟩
theorem ownsAt_slice {w : World} {E size n : Nat} {v : Value} {xs : List Value} (h : ownsAt w E size v n xs) : ∃ a m c, v = .slice a m c := by
 rcases h.2 with ⟨rfl, _⟩ | ⟨g, o, cap, cur, rfl, _⟩
 ·exact ⟨_, _, _, rfl⟩
 ·exact ⟨_, _, _, rfl⟩
theorem appTo_sound {P : Program} {tab : Tab} {o : Oper} {st : St} {K : St → Prop} {a : Act} {w : World} {Q : Exit → Act → World → Prop} {next : Act → World → Prop} (hT : TabOk P tab)
  (hwf : WF st) (hr : Rel st a) (hw : Holds st w) (hgl : st.gl = []) {t : TypeId} {ti te : TI} (hti : look tab t = some ti) (hk1 : Nat.beq ti.kind 1 = true) (hb1 : Nat.ble 1 ti.ebytes = true) (hte : look tab ti.elem = some te)
  {s x : Operand} {sv : RV} (hs : opv st [] s = some sv) {xv : Value} (hx : a.eval x = xv) {rows : List (List CV)} (hsrc : SrcOk w xv ti.esize rows) (hrows : ∀ l ∈ rows, ∀ c ∈ l, CVok st.hp c)
  (h : appTo st o.dst ti rows K sv) (hop : o.op = .call { callee := .builtin .append, args := #[s, x], argTypes := #[t, t] })
  (fin : ∀ {st1 : St} {r : RV} {u : Value} {w' : World}, goPut st1 o.dst r K → u = r.den → WF st1 → RVok st1.hp r → Rel st1 a → Holds st1 w' → next (a.put o.dst u) w') : o.wp P a w next Q := by
 obtain ⟨hu, j, hj, hj1, hj2⟩ := chk_slice (hT _ _ hti) hk1
 obtain ⟨i', d, hi', hd, hsz, hag, z, hz, hzc, hzl⟩ := chk_info (hT _ _ hte)
 rw [hj] at hi'
 cases hi'
 have hzs : z.cells.size = j.size := by
  have : z.cells.toList.length = te.zero.length := by rw [hzc]; simp [dens]
  simp only [Array.length_toList] at this
  omega
 have hby : 1 ≤ j.bytes := by rw [hj2]; exact Nat.le_of_ble_eq_true hb1
 have es := eval_opv hr (fun k hk => by cases hk) hs
 have run : ∀ (v : Value) {v' : Value} {w' : World}, sv.den = v → (Builtin.append_ #[t, t] o.type #[v, xv]).run P w = .ok v' w' → (execOp a.eval o).run P w = .ok (.value v') w' := by
  intro v v' w' hv hrun
  rw [hv] at es
  obtain ⟨dst, op, type, pos, after, guard⟩ := o
  dsimp only at hop
  subst hop
  simp [execOp, resolve, invoke, builtin, es, hx, hrun]
 rw [← hj1] at hsrc
 unfold appTo at h
 split at h
 ·rename_i id v
  split at h
  ·rename_i v0 E size L hob
   split at h
   ·rename_i hE hsize
    obtain ⟨⟨rfl, hbd⟩, hK⟩ := h
    have hE := Nat.eq_of_beq_eq_true hE
    have hsize := Nat.eq_of_beq_eq_true hsize
    subst hE hsize
    have hobj := hw.objs _ (look_mem hob)
    obtain ⟨hown, hL⟩ := hobj
    rw [← hj1] at hown
    obtain ⟨v', w', hrun, hown', hfr, hbl⟩ := append_any t o.type ti.elem j z hu hj hz hzs hby v L.length _ hown xv rows hsrc (by rw [hj2]; exact hbd)
    unfold Oper.wp
    rw [run v rfl hrun]
    have hk := hK v'
    rw [hpSetK_eq] at hk
    replace hk : goPut (st.setHp (hpSet st.hp id (.row v' ti.elem ti.esize (L ++ rows)))) o.dst (.s (.c (.o id v'))) K := hk
    have hown2 : ownsAt w' ti.elem ti.esize v' (L ++ rows).length (dens (L ++ rows).flatten) := by
     rw [← hj1]
     simpa [dens, List.flatten_append] using hown'
    have hold : LOok st.hp (.row v ti.elem ti.esize L) := hwf.obj (look_mem hob)
    refine fin hk rfl (hwf.setO hob (fun b T cells e => by cases e) ⟨fun hn => ownsAt_some hown2 hn, fun l hl c hc => ?_⟩) (ownsAt_slice hown2)
     ⟨hr.size, hr.defers, hr.sl, fun s ks u hl' => by replace hl' : look st.gl s = some (ks, u) := hl'; rw [hgl] at hl'; cases hl'⟩
     (hw.setG hob hfr ⟨hown2, fun l hl => ?_⟩ hbl)
    ·rcases List.mem_append.1 hl with hl | hl
     ·exact hold.2 l hl c hc
     ·exact hrows l hl c hc
    ·rcases List.mem_append.1 hl with hl | hl
     ·exact hL l hl
     ·rw [← hj1]; exact hsrc.1 l hl
   ·exact h.elim
  ·exact h.elim
 ·obtain ⟨hbd, hK⟩ := h
  simp only [pushK_eq] at hK
  obtain ⟨v', w', hrun, hown', hfr, hbl⟩ := append_any t o.type ti.elem j z hu hj hz hzs hby (.slice none 0 0) 0 [] ⟨by simp, .inl ⟨rfl, rfl⟩⟩ xv rows hsrc (by rw [hj2]; exact hbd)
  unfold Oper.wp
  rw [run _ rfl hrun]
  have hown2 : ownsAt w' ti.elem ti.esize v' rows.length (dens rows.flatten) := by
   rw [← hj1]; simpa using hown'
  refine fin (hK v') rfl (hwf.push (show LOok st.hp (.row v' ti.elem ti.esize rows) from ⟨fun hn => ownsAt_some hown2 hn, hrows⟩)) (ownsAt_slice hown2) hr.push
   (hw.pushG hfr ⟨hown2, fun l hl => by rw [← hj1]; exact hsrc.1 l hl⟩ fun b hb => (hbl b hb).elim (fun h => by simp [blkOf] at h) (fun h => h))
 ·exact h.elim
theorem rows_some' {w : World} {v : Value} {E size : Nat} {L : List (List CV)} (h : (LO.row v E size L).holds w) : 0 < L.length → ∃ a n c, v = .slice (some a) n c := fun hn => ownsAt_some h.1 hn
theorem append_zeros {P : Program} {w : World} (t tn ty e : TypeId) (i : TypeInfo) (z : Value) (ht : P.underlying t = some (.slice e)) (htn : P.underlying tn = some (.int .i64)) (hi : P.info? e = some i) (hz : i.zero = some z) {zero : List CV} (hzc : z.cells.toList = dens zero) (hzl : zero.length = i.size) (hpos : 0 < i.size)
  {u : Value} {rows : List (List CV)} (hsrc : SrcOk w u i.size rows) {k : Nat} (h0 : 0 < k) (hcap : scap u < rows.length + k) (hby : 1 ≤ i.bytes) (hbd : (rows.length + k) * i.bytes ≤ 140737488355328) :
  ∃ v' w', (Builtin.append_ #[t, tn] ty #[u, .int .i64 k]).run P w = .ok v' w' ∧ Ext w w' ∧ (LO.row v' e i.size (rows ++ List.replicate k zero)).holds w' ∧ ∀ b ∈ blkOf v', w.heap.size ≤ b := by
 have hzs : z.cells.size = i.size := by rw [← Array.length_toList, hzc]; simp [dens, hzl]
 have hcells : (Builtin.zeroCells z.cells k).toList = dens (List.replicate k zero).flatten := by
  rw [← made_eq z.cells zero hzc k (by omega)]
  simp [Builtin.zeroCells, madeCells, hzs, hzl]
 have hbd' : k * i.bytes ≤ 140737488355328 := Nat.le_trans (Nat.mul_le_mul_right _ (by omega)) hbd
 have h47 : rows.length + k ≤ 140737488355328 := Nat.le_trans (Nat.le_mul_of_pos_right _ hby) hbd
 have h63 : rows.length + k ≤ maxLen := by unfold maxLen; omega
 have hw : IntKind.i64.wrap (k : Int) = k := by rw [IntKind.wrap_i64]; omega
 have hneg : ¬ ((k : Int) < 0) := by omega
 have hns : ¬ (k * i.size = 0) := Nat.mul_ne_zero (by omega) (by omega)
 have h48i : ¬ (281474976710656 < (k : Int) * (i.bytes : Int)) := by rw [← Int.natCast_mul]; omega
 have hrl : ∀ l ∈ rows ++ List.replicate k zero, l.length = i.size := fun l hl => by
  rcases List.mem_append.1 hl with hl | hl
  ·exact hsrc.1 l hl
  ·rw [List.eq_of_mem_replicate hl]; exact hzl
 have hlen : (dens (rows ++ List.replicate k zero).flatten).length = (rows.length + k) * i.size := by
  simp only [dens, List.length_map]; rw [flatten_len hrl]; simp
 obtain ⟨h1, h2, ⟨a, c, rfl, h3⟩ | ⟨rfl, rfl⟩⟩ := hsrc
 ·have hn : ¬ (rows.length + k ≤ c) := by simp only [scap] at hcap; omega
  have h63' : ¬ (9223372036854775807 < ((rows.length : Int) + (k : Int))) := by unfold maxLen at h63; omega
  have hlt : c < rows.length + k := by omega
  have h48' : ¬ (281474976710656 < Builtin.nextslicecap (rows.length + k) c * i.bytes) := by have := growslice_fits hlt hbd; omega
  have hfo := run_firstCells_some (P := P) w.drew i.size rows.length a rows.length c (dens rows.flatten) (by simp only [dens, List.length_map]; exact flatten_len h1) (by simpa using h3)
  have hge := grownCap_ge w (rows.length + k) c e
  have hcm := grownCap_le_maxLen w (rows.length + k) c e h63
  have ow := ownsAt_new (w := w) (E := e) hlen hge hcm (Builtin.zeroCells z.cells (grownCap w (rows.length + k) c e - (rows.length + k))) (by rw [size_zeroCells, hzs])
  refine ⟨.slice (some ⟨w.heap.size, 0, none⟩) (rows.length + k) (grownCap w (rows.length + k) c e), w.drew.alloc (.cells ((dens rows.flatten).toArray ++ Builtin.zeroCells z.cells k ++ Builtin.zeroCells z.cells (grownCap w (rows.length + k) c e - (rows.length + k))) e), ?_, fr_drew_alloc _ _ _, ⟨?_, hrl⟩, fun b hb => ?_⟩
  ·simp [Builtin.append_, run_underlying ht, run_underlying htn, sizeOf, typeInfo, zeroValue, hi, hz, asInt, asIntOf, hw, hneg, hns, hn, h63', h48', h48i, Question.forced, hfo, newRow, grownCap]
  ·have ec : (dens rows.flatten).toArray ++ Builtin.zeroCells z.cells k = (dens (rows ++ List.replicate k zero).flatten).toArray := by
    apply Array.ext'
    rw [Array.toList_append, hcells]
    simp [dens]
   rw [ec]
   simpa using ow
  ·simp only [blkOf, List.mem_singleton] at hb; omega
 ·simp only [List.nil_append, List.length_nil, Nat.zero_add] at *
  have hn : k ≠ 0 := by omega
  have h63' : ¬ (9223372036854775807 < (k : Int)) := by unfold maxLen at h63; omega
  have h48' : ¬ (281474976710656 < Builtin.nextslicecap k 0 * i.bytes) := by have := growslice_fits h0 hbd; omega
  have hr : (Builtin.append_ #[t, tn] ty #[.slice none 0 0, .int .i64 k]).run P w =
   .ok (.slice (some ⟨w.heap.size, 0, none⟩) k (grownCap w k 0 e)) (w.drew.alloc (.cells (Builtin.zeroCells z.cells k ++ Builtin.zeroCells z.cells (grownCap w k 0 e - k)) e)) := by
   simp [Builtin.append_, run_underlying ht, run_underlying htn, sizeOf, typeInfo, zeroValue, hi, hz, asInt, asIntOf, hw, hn, hneg, hns, h63', h48', h48i, Question.forced, run_firstCells_none, newRow, grownCap]
  have hge := grownCap_ge w k 0 e
  have hcm := grownCap_le_maxLen w k 0 e (by simpa using h63)
  have ow := ownsAt_new (w := w) (E := e) hlen hge hcm (Builtin.zeroCells z.cells (grownCap w k 0 e - k)) (by rw [size_zeroCells, hzs])
  refine ⟨_, _, hr, fr_drew_alloc _ _ _, ⟨?_, hrl⟩, fun b hb => ?_⟩
  ·have ec : Builtin.zeroCells z.cells k = (dens (List.replicate k zero).flatten).toArray := by
    apply Array.ext'
    rw [hcells]
   rw [ec]
   simpa using ow
  ·simp only [blkOf, List.mem_singleton] at hb; omega
theorem SrcOk.of_row {w : World} {v : Value} {E size : Nat} {L : List (List CV)} (h : (LO.row v E size L).holds w) (hone : ∀ l ∈ L, ∀ c ∈ l, c.den.oneCell' = true) : SrcOk w v size L := by
 obtain ⟨⟨hlen, hv⟩, hL⟩ := h
 refine ⟨hL, hone, ?_⟩
 rcases hv with ⟨rfl, h0⟩ | ⟨g, o, cap, cur, rfl, hg, hn, hc, hs, htake⟩
 ·exact .inr ⟨rfl, List.eq_nil_of_length_eq_zero h0⟩
 ·refine .inl ⟨_, cap, rfl, fun j x hx => ?_⟩
  rw [addr_add, cell_of_row w g _ _ _ _ hg]
  have hj : j < L.length * size := by
   rcases Nat.lt_or_ge j (L.length * size) with h' | h'
   ·exact h'
   ·rw [List.getElem?_eq_none (by rw [hlen]; exact h')] at hx; cases hx
  rw [← htake, List.getElem?_take_of_lt hj, List.getElem?_drop] at hx
  simpa using hx
theorem keys_nil {a : Act} : keysHold a [] := fun k hk => by cases hk
theorem step_sound {P : Program} {tab : Tab} {ops : Array Oper} {o : Oper} {st : St} {K : St → Prop} {a : Act} {w : World} {Q : Exit → Act → World → Prop} (hT : TabOk P tab)
  (h : step P tab ops o st K) (hwf : WF st) (hr : Rel st a) (hw : Holds st w) {next : Act → World → Prop} (hn : ∀ st' a' w', K st' → WF st' → Rel st' a' → Holds st' w' → next a' w') :
  if Region.wanted o (yielded ops a.tmps) then o.wp P a w next Q else next (a.put o.dst undef) w := by
 have quiet : stepQ P tab ops o st K → if Region.wanted o (yielded ops a.tmps) then o.wp P a w next Q else next (a.put o.dst undef) w := by
  intro h
  have hq := stepQ_sound (st0 := st) (next := fun a' => ∀ w', Holds st w' → next a' w') hT h hwf hr (SameW.refl st) (fun st' a' hk hwf' hr' hs w' hw' => hn st' a' w' hk hwf' hr' (hs.holds hw'))
  split
  ·rename_i hwant
   rw [if_pos hwant] at hq
   exact Oper.wp_of_quiet hw (fun a' w' hw' h => h w' hw') hq
  ·rename_i hwant
   rw [if_neg hwant] at hq
   exact hq w hw
 have fin : ∀ {st1 : St} {r : RV} {u : Value} {w' : World}, goPut st1 o.dst r K → u = r.den → WF st1 → RVok st1.hp r → Rel st1 a → Holds st1 w' → next (a.put o.dst u) w' := by
  intro st1 r u w' hg hu hwf1 hrv hr1 hw1
  unfold goPut at hg
  split at hg
  ·rename_i st2 hput
   exact hn st2 _ _ hg (put_wf hput hwf1 fun _ => hrv) (put_rel hput hr1 (.inl ⟨keys_nil, hu, hrv⟩)) (holds_congr (put_world hput) hw1)
  ·exact hg.elim
 unfold step at h
 split at h
 ·rename_i hguard hgl
  have hwant : Region.wanted o (yielded ops a.tmps) = true := by simp [Region.wanted, hguard]
  split at h
  ·rename_i f args hcall
   rw [if_pos hwant]
   unfold Oper.wp
   rcases h with ⟨hbody, hc⟩ | ⟨r, hnp, hrun, hg⟩
   ·rw [callOf_spec hr keys_nil hcall hbody w]
    refine (hc hwf w hw).mono ?_
    rintro e w' ⟨r, st', rfl, hs, hwf', hrv, hw', hg⟩
    exact fin hg rfl hwf' hrv (hs.rel hgl hr) hw'
   ·rw [callOf_run hr keys_nil hcall w, hrun w hw]
    exact fin hg rfl hwf (noPr_ok hnp) hr hw
  ·split at h
   ·rename_i t hop
    split at h
    ·rename_i ti hti
     rw [if_pos hwant]
     obtain ⟨i, d, hi, hd, hs, hag, z, hz, hzc, hzz⟩ := chk_info (hT _ _ hti)
     obtain ⟨dst, op, type, pos, after, guard⟩ := o
     dsimp only at hop
     subst hop
     have e : (execOp a.eval ⟨dst, .alloc t, type, pos, after, guard⟩).run P w = .ok (.value (.pointer (some ⟨w.heap.size, 0, none⟩))) (w.alloc (.cells (dens ti.zero).toArray t)) := by
      have hc : z.cells = (dens ti.zero).toArray := by apply Array.ext'; simpa using hzc
      simp only [execOp, Instr.alloc, Sem.run_bind, ok_zeroValue hi hz, Result.andThen_ok, newVar, newRow, run_newObj, Sem.run_pure, hc]
      rfl
     unfold Oper.wp
     rw [e]
     simp only [pushK_eq] at h
     have hzok : LOok st.hp (.box w.heap.size t ti.zero) := zero_ok (hp := st.hp) hT hti
     exact fin (h w.heap.size) rfl (hwf.push hzok) ⟨t, ti.zero, by simp [St.push, look, Nat.beq_refl]⟩ hr.push (hw.push t ti.zero)
    ·exact h.elim
   ·rename_i t x hop
    split at h
    ·rename_i v hx
     split at h
     ·rename_i l hl
      rw [if_pos hwant]
      obtain ⟨h1, h2⟩ := obl_out h
      have hv := opv_ok hwf hr keys_nil hx
      have hone := oneObs_spec (hp := st.hp) (fun p hp => gimp_out (h1 p hp) (fun c hc => by cases hc)) (cells_ok hl hv)
      have ex := eval_opv hr keys_nil hx
      have hcells : v.den.cells = (dens l).toArray := cells_eq hl hone
      have hlok : ∀ c ∈ l, CVok st.hp c := cells_ok hl hv
      obtain ⟨dst, op, type, pos, after, guard⟩ := o
      dsimp only at hop
      subst hop
      have e : (execOp a.eval ⟨dst, .box t x, type, pos, after, guard⟩).run P w = .ok (.value (.pointer (some ⟨w.heap.size, 0, none⟩))) (w.alloc (.cells (dens l).toArray t)) := by
       simp only [execOp, Instr.box, ex, Sem.run_bind, Result.andThen_ok, newVar, newRow, run_newObj, Sem.run_pure, hcells]
       rfl
      unfold Oper.wp
      rw [e]
      simp only [pushK_eq] at h2
      exact fin (h2 w.heap.size) rfl (hwf.push (show LOok st.hp (.box w.heap.size t l) from hlok)) ⟨t, l, by simp [St.push, look, Nat.beq_refl]⟩ hr.push (hw.push t l)
     ·exact h.elim
    ·exact h.elim
   ·rename_i t x y hop
    split at h
    ·rename_i ti id blk off v hdst hti hx hy
     split at h
     ·rename_i b T cells l hob hl
      split at h
      ·rename_i cells' hlen hset
       rw [if_pos hwant]
       obtain ⟨h1, h2⟩ := obl_out h
       rw [hpSetK_eq] at h2
       replace h2 : K (st.setHp (hpSet st.hp id (.box b T cells'))) := h2
       have hone := oneObs_spec (hp := st.hp) (fun p hp => gimp_out (h1 p hp) (fun c hc => by cases hc)) (cells_ok hl (opv_ok hwf hr keys_nil hy))
       have ex := eval_opv hr keys_nil hx
       have ey := eval_opv hr keys_nil hy
       simp only [RV.den, SV.den, CV.den] at ex
       have hv := opv_ok hwf hr keys_nil hy
       obtain ⟨T', cs', hob'⟩ := opv_ok hwf hr keys_nil hx
       rw [hob] at hob'
       cases hob'
       have hcells : v.den.cells = (dens l).toArray := cells_eq hl hone
       have hlok : ∀ c ∈ l, CVok st.hp c := cells_ok hl hv
       obtain ⟨i, d, hi, hd, hs, _⟩ := chk_info (hT _ _ hti)
       have hlen' := Nat.eq_of_beq_eq_true hlen
       obtain ⟨hset1, hset2⟩ := setCells_spec hset
       have hobj := hw.objs _ (look_mem hob)
       simp only [LO.holds] at hobj
       have hst := run_storeCells_at P blk off T (dens l) 0 (dens cells).toArray w hobj (by simp [dens]; omega) hone
       have hfin : ((dens cells).toArray.toList.take (off + 0) ++ dens l ++ (dens cells).toArray.toList.drop (off + 0 + (dens l).length)).toArray = (dens cells').toArray := by
        rw [hset1]
        simp [dens, List.map_append, List.map_take, List.map_drop]
       rw [hfin] at hst
       have e : (execOp a.eval o).run P w = .ok .skip (w.setRow blk (dens cells').toArray) := by
        obtain ⟨dst, op, type, pos, after, guard⟩ := o
        dsimp only at hop
        subst hop
        have hsz : (dens l).toArray.size = i.size := by rw [hs]; simp [dens, hlen']
        simp only [execOp, Instr.storeAt, Instr.sureAddr, ex, ey, Sem.run_bind, Sem.run_pure, Result.andThen_ok, storeVar, ok_sizeOf hi, hsz, ne_eq, not_true_eq_false, if_false, hcells, hst]
       unfold Oper.wp
       rw [e]
       show next (a.put o.dst undef) _
       rw [hdst]
       refine hn _ _ _ h2 (hwf.setO hob (fun b' T' cs' e => by cases e; exact ⟨_, _, rfl⟩) fun c hc => ?_) ⟨hr.size, hr.defers, hr.sl, fun s ks u hl' => by replace hl' : look st.gl s = some (ks, u) := hl'; rw [hgl] at hl'; cases hl'⟩ (hw.set hob)
       rw [hset1] at hc
       simp only [List.mem_append] at hc
       rcases hc with (hc | hc) | hc
       ·exact hwf.hp _ _ _ _ (look_mem hob) c (List.mem_of_mem_take hc)
       ·exact hlok c hc
       ·exact hwf.hp _ _ _ _ (look_mem hob) c (List.mem_of_mem_drop hc)
      ·exact h.elim
     ·exact h.elim
    ·rename_i ti id v size idx off yv hdst hti hx hy
     split at h
     ·rename_i v0 E size0 L l hob hl
      obtain ⟨row, ⟨rfl, rfl, h0i, hrow⟩, h⟩ := h
      split at h
      ·rename_i row' hlen hset
       rw [if_pos hwant]
       obtain ⟨h1, h2⟩ := obl_out h
       rw [hpSetK_eq] at h2
       replace h2 : K (st.setHp (hpSet st.hp id (.row v E size (L.set idx.toNat row')))) := h2
       have hone := oneObs_spec (hp := st.hp) (fun p hp => gimp_out (h1 p hp) (fun c hc => by cases hc)) (cells_ok hl (opv_ok hwf hr keys_nil hy))
       have ex := eval_opv hr keys_nil hx
       have ey := eval_opv hr keys_nil hy
       have hv := opv_ok hwf hr keys_nil hy
       obtain ⟨ad, n, c, rfl⟩ := opv_ok hwf hr keys_nil hx
       simp only [RV.den, SV.den, CV.den, elemPtr] at ex
       have hcells : yv.den.cells = (dens l).toArray := cells_eq hl hone
       have hlok : ∀ c ∈ l, CVok st.hp c := cells_ok hl hv
       obtain ⟨i, d, hi, hd, hs, _⟩ := chk_info (hT _ _ hti)
       have hlen' := Nat.eq_of_beq_eq_true hlen
       obtain ⟨w', hst, hfr, hho⟩ := row_store (P := P) (hw.objs _ (look_mem hob)) hrow hset hone rfl
       rw [Int.toNat_of_nonneg h0i] at hst
       have e : (execOp a.eval o).run P w = .ok .skip w' := by
        obtain ⟨dst, op, type, pos, after, guard⟩ := o
        dsimp only at hop
        subst hop
        have hsz : (dens l).toArray.size = i.size := by rw [hs]; simp [dens, hlen']
        simp only [execOp, Instr.storeAt, Instr.sureAddr, ex, ey, Sem.run_bind, Sem.run_pure, Result.andThen_ok, storeVar, ok_sizeOf hi, hsz, ne_eq, not_true_eq_false, if_false, hcells, hst]
       unfold Oper.wp
       rw [e]
       show next (a.put o.dst undef) _
       rw [hdst]
       have hold : LOok st.hp (.row (.slice (some ad) n c) E size L) := hwf.obj (look_mem hob)
       refine hn _ _ _ h2 (hwf.setO hob (fun b' T' cs' e => by cases e) ⟨fun _ => ⟨_, _, _, rfl⟩, fun q hq c' hc => ?_⟩) ⟨hr.size, hr.defers, hr.sl, fun s ks u hl' => by replace hl' : look st.gl s = some (ks, u) := hl'; rw [hgl] at hl'; cases hl'⟩ (hw.setG hob hfr hho (fun b hb => .inl hb))
       rcases List.mem_or_eq_of_mem_set hq with hq | rfl
       ·exact hold.2 q hq c' hc
       ·rw [(setCells_spec hset).1] at hc
        simp only [List.mem_append] at hc
        have hrm : row ∈ L := List.mem_of_getElem? hrow
        rcases hc with (hc | hc) | hc
        ·exact hold.2 row hrm c' (List.mem_of_mem_take hc)
        ·exact hlok c' hc
        ·exact hold.2 row hrm c' (List.mem_of_mem_drop hc)
      ·exact h.elim
     ·exact h.elim
    ·exact h.elim
   ·rename_i t len parts hop
    split at h
    ·rename_i ti hti
     split at h
     ·rename_i obs l te hk1 hb hte
      split at h
      ·rename_i hlen hsz hln
       split at h
       rotate_left
       ·exact h.elim
       rename_i rows hch
       obtain ⟨c1, c2, c3⟩ := chunks_spec hch
       rw [if_pos hwant]
       obtain ⟨h1, h2⟩ := obl_out h
       have hob : ∀ p ∈ obs, p := fun p hp => gimp_out (h1 p hp) (fun c hc => by cases hc)
       obtain ⟨hu, j, hj, hj1, hj2⟩ := chk_slice (hT _ _ hti) hk1
       obtain ⟨i', d, hi', hd, hs, hag, z, hz, _⟩ := chk_info (hT _ _ hte)
       rw [hj] at hi'
       cases hi'
       obtain ⟨e1, e2⟩ := bldL_spec hwf hr hb hob
       have hlen := Nat.eq_of_beq_eq_true hlen
       have hsz := Nat.le_of_ble_eq_true hsz
       have hf : ∀ cs : Array Value, cs.size = len * j.size → Instr.fill (fun k => some (k * j.size, j.size)) cs (parts.toList.map fun x => (x.1, a.eval x.2)) = some (dens l).toArray := by
        intro cs hcs
        rw [hj1] at hcs ⊢
        have := e2 cs (by rw [Nat.zero_add, hlen, hcs]; exact Nat.le_refl _)
        rw [this, Nat.zero_add, hlen, Nat.zero_mul, List.take_zero, List.drop_eq_nil_of_le (by simp [hcs])]
        simp
       have er := run_buildSlice (P := P) t ti.elem j hu hj ⟨z, hz⟩ len _ _ w (by rw [hj1]; exact hsz) hf
       obtain ⟨dst, op, type, pos, after, guard⟩ := o
       dsimp only at hop
       subst hop
       have e : (execOp a.eval ⟨dst, .buildSlice t len parts, type, pos, after, guard⟩).run P w = .ok (.value (.slice (some ⟨w.heap.size, 0, none⟩) len len)) (w.alloc (.cells (dens l).toArray ti.elem)) := by
        have ep : (parts.map fun (i, x) => (i, a.eval x)) = (parts.toList.map fun x => (x.1, a.eval x.2)).toArray := by
         apply Array.ext'; simp
        simp only [execOp, ep, Sem.run_bind, er, Result.andThen_ok, Sem.run_pure]
       unfold Oper.wp
       rw [e]
       have hhold : (LO.row (.slice (some ⟨w.heap.size, 0, none⟩) len len) ti.elem ti.esize rows).holds (w.alloc (.cells (dens l).toArray ti.elem)) := by
        refine ⟨⟨by rw [c2]; simp only [dens, List.length_map]; rw [e1, hlen, c1], .inr ⟨w.heap.size, 0, len, (dens l).toArray, by rw [c1], by show (w.heap.push _)[w.heap.size]? = _; simp, by omega, ?_, by simp [dens, e1, hlen], ?_⟩⟩, c3⟩
        ·have := Nat.le_of_ble_eq_true hln
         unfold maxLen; omega
        ·rw [c2, c1, List.drop_zero]
         apply List.take_of_length_le
         simp [dens, e1, hlen]
       simp only [pushK_eq] at h2
       refine fin (h2 _) rfl (hwf.push (show LOok st.hp (.row (.slice (some ⟨w.heap.size, 0, none⟩) len len) ti.elem ti.esize rows) from ⟨fun _ => ⟨_, _, _, rfl⟩, fun q hq c hc => bldL_ok hwf hr hb c (by rw [← c2]; exact List.mem_flatten.2 ⟨q, hq, hc⟩)⟩)) ⟨_, _, _, rfl⟩ hr.push
        (hw.pushG ((Fr.refl _ _).alloc _) hhold fun b hb => ?_)
       simp only [LO.blks, blkOf, List.mem_singleton] at hb; omega
      ·exact h.elim
     ·exact h.elim
    ·exact h.elim
   ·rename_i t l c hop
    split at h
    ·rename_i ti n m hti hl hc
     split at h
     ·rename_i te hk1 hte hs1 hb1
      rw [if_pos hwant]
      obtain ⟨⟨rfl, h0, hbd⟩, hK⟩ := h
      obtain ⟨hu, j, hj, hj1, hj2⟩ := chk_slice (hT _ _ hti) hk1
      obtain ⟨i', d, hi', hd, hsz, hag, z, hz, hzc, hzl⟩ := chk_info (hT _ _ hte)
      rw [hj] at hi'
      cases hi'
      have hs1 := Nat.le_of_ble_eq_true hs1
      have hb1 := Nat.le_of_ble_eq_true hb1
      have el := eval_opv hr keys_nil hl
      have ec := eval_opv hr keys_nil hc
      simp only [RV.den, SV.den, CV.den] at el ec
      have hb2 : (ti.ebytes : Int) * n ≤ 140737488355328 := by rw [Int.mul_comm]; exact hbd
      have hn63 : n ≤ 140737488355328 := by
       have : 1 * n ≤ (ti.ebytes : Int) * n := Int.mul_le_mul_of_nonneg_right (by omega) h0
       omega
      have hrun := run_make (P := P) w t ti.elem j z hu hj hz .i64 .i64 n n h0 (Int.le_refl _) (by rw [hj2]; omega) (by omega)
      obtain ⟨k, rfl⟩ : ∃ k : Nat, n = k := ⟨n.toNat, by omega⟩
      simp only [Int.toNat_natCast, pushK_eq] at hrun hK
      have hzl' : te.zero.length = j.size := by omega
      have hmade := made_eq z.cells te.zero hzc k (by omega)
      rw [hzl'] at hmade
      have hrep : ∀ l ∈ List.replicate k te.zero, l.length = ti.esize := fun l hl => by rw [List.eq_of_mem_replicate hl]; omega
      have hhold : (LO.row (.slice (some ⟨w.heap.size, 0, none⟩) k k) ti.elem ti.esize (List.replicate k te.zero)).holds (w.alloc (.cells (madeCells z.cells (k * j.size)) ti.elem)) := by
       refine ⟨⟨by simp only [dens, List.length_map]; exact flatten_len hrep, .inr ⟨w.heap.size, 0, k, _, by simp, by show (w.heap.push _)[w.heap.size]? = _; simp; rfl, by simp, by unfold maxLen; omega, ?_, ?_⟩⟩, hrep⟩
       ·simp [madeCells, hj1]
       ·rw [List.drop_zero, hmade, List.length_replicate]
        apply List.take_of_length_le
        simp only [dens, List.length_map]
        rw [flatten_len hrep, List.length_replicate]; omega
      obtain ⟨dst, op, type, pos, after, guard⟩ := o
      dsimp only at hop
      subst hop
      have e : (execOp a.eval ⟨dst, .makeSlice t l c, type, pos, after, guard⟩).run P w = .ok (.value (.slice (some ⟨w.heap.size, 0, none⟩) k k)) (w.alloc (.cells (madeCells z.cells (k * j.size)) ti.elem)) := by
       simp only [execOp, el, ec, Sem.run_bind, hrun, Result.andThen_ok, Sem.run_pure]
      unfold Oper.wp
      rw [e]
      refine fin (hK _) rfl (hwf.push (show LOok st.hp (.row (.slice (some ⟨w.heap.size, 0, none⟩) k k) ti.elem ti.esize (List.replicate k te.zero)) from ⟨fun _ => ⟨_, _, _, rfl⟩, fun l hl c hc => ?_⟩)) ⟨_, _, _, rfl⟩ hr.push
       (hw.pushG ((Fr.refl _ _).alloc _) hhold fun b hb => ?_)
      ·rw [List.eq_of_mem_replicate hl] at hc
       exact zero_ok (hp := st.hp) hT hte c hc
      ·simp only [LO.blks, blkOf, List.mem_singleton] at hb; omega
     ·exact h.elim
    ·exact h.elim
   ·rename_i c hop
    split at h
    ·rename_i f hdst hcal
     split at h
     ·rename_i g first caps l hf hl
      rw [if_pos hwant]
      have ef := eval_opv hr keys_nil hf
      simp only [RV.den, SV.den, CV.den] at ef
      have ea := opvs_spec hr keys_nil hl
      have e : (execOp a.eval o).run P w = .ok (.defer { target := .fn (.func g) caps, args := first ++ rdens l }) w := by
       obtain ⟨dst, op, type, pos, after, guard⟩ := o
       dsimp only at hop
       subst hop
       obtain ⟨callee, cargs, argTypes⟩ := c
       dsimp only at hcal
       subst hcal
       have ea' : Array.map a.eval cargs = rdens l := by apply Array.ext'; simp [rdens, ea]
       simp only [execOp, resolve, ef, Deferred.ofValue, Sem.run_bind, Sem.run_pure, Result.andThen_ok, ea']
      unfold Oper.wp
      rw [e]
      show next ({ a with defers := _ :: a.defers }.put o.dst undef) w
      rw [hdst]
      obtain ⟨N, sl, gl, hp, S, ws, df⟩ := st
      exact hn _ _ _ h ⟨hwf.sl, hwf.hp, hwf.row⟩ ⟨hr.size, congrArg (List.cons _) hr.defers, hr.sl, hr.gl⟩ ⟨hw.objs, hw.nodup, hw.fr, hw.own⟩
     ·exact h.elim
    ·exact h.elim
   ·rename_i c hop
    split at h
    ·rename_i s x t t' hcal hargs htys
     rw [if_pos hwant]
     split at h
     rotate_left
     ·have hop' : o.op = .call { callee := .builtin .append, args := #[s, x], argTypes := #[t, t'] } := by
       rw [hop]
       obtain ⟨callee, args, argTypes⟩ := c
       simp only at hcal hargs htys
       subst hcal
       congr 2
       ·rw [← Array.toList_inj]; simpa using hargs
       ·rw [← Array.toList_inj]; simpa using htys
      unfold stepAZ at h
      split at h
      ·rename_i ti tx u k hti htx hs hx
       split at h
       ·rename_i te hk1 hk6 hte hb1 hs1
        obtain ⟨rows, ⟨hsrc, hnp, h0, hcap, hbd⟩, hK⟩ := h
        obtain ⟨hu, j, hj, hj1, hj2⟩ := chk_slice (hT _ _ hti) hk1
        have hux := chk_i64 (hT _ _ htx) hk6
        obtain ⟨i', d, hi', hd, hsz, hag, z, hz, hzc, hzl⟩ := chk_info (hT _ _ hte)
        rw [hj] at hi'
        cases hi'
        have hs1 := Nat.le_of_ble_eq_true hs1
        have hb1 := Nat.le_of_ble_eq_true hb1
        have es := eval_opv hr keys_nil hs
        have ex := eval_opv hr keys_nil hx
        simp only [RV.den, SV.den, CV.den] at es ex
        obtain ⟨k', rfl⟩ : ∃ k' : Nat, k = k' := ⟨k.toNat, by omega⟩
        simp only [Int.toNat_natCast, pushK_eq] at hK
        have hsrcw := hsrc w hw
        rw [← hj1] at hsrcw
        obtain ⟨v', w', hrun, hfr, hho, hbl⟩ := append_zeros (P := P) t t' o.type ti.elem j z hu hux hj hz hzc (by omega) (by omega) hsrcw (k := k') (by omega) hcap (by omega) (by rw [hj2]; have := hbd; rw [← Int.natCast_add, ← Int.natCast_mul] at this; omega)
        have e : (execOp a.eval o).run P w = .ok (.value v') w' := by
         obtain ⟨dst, op, type, pos, after, guard⟩ := o
         dsimp only at hop'
         subst hop'
         simp [execOp, resolve, invoke, builtin, es, ex, hrun]
        unfold Oper.wp
        rw [e]
        rw [hj1] at hho
        refine fin (hK v') rfl (hwf.push (show LOok st.hp (.row v' ti.elem ti.esize (rows ++ List.replicate k' te.zero)) from ⟨rows_some' hho, fun l hl c hc => ?_⟩)) (ownsAt_slice hho.1) hr.push (hw.pushG (hfr.fr []) hho hbl)
        rcases List.mem_append.1 hl with hl | hl
        ·exact noP_ok (hnp l hl c hc)
        ·rw [List.eq_of_mem_replicate hl] at hc; exact zero_ok (hp := st.hp) hT hte c hc
       ·exact h.elim
      ·exact h.elim
     unfold stepA at h
     split at h
     ·rename_i ti sv xc htt hti hs hx
      have htt := Nat.eq_of_beq_eq_true htt
      subst htt
      have hop' : o.op = .call { callee := .builtin .append, args := #[s, x], argTypes := #[t, t] } := by
       rw [hop]
       obtain ⟨callee, args, argTypes⟩ := c
       simp only at hcal hargs htys
       subst hcal
       congr 2
       ·rw [← Array.toList_inj]; simpa using hargs
       ·rw [← Array.toList_inj]; simpa using htys
      have ex := eval_opv hr keys_nil hx
      simp only [RV.den, SV.den] at ex
      split at h
      ·rename_i te hk1 hb1 hte
       split at h
       ·rename_i id v
        split at h
        ·rename_i v0 E size L hob
         split at h
         ·rename_i hsz
          obtain ⟨rfl, h⟩ := h
          obtain ⟨h1, h2⟩ := obl_out h
          have hsz := Nat.eq_of_beq_eq_true hsz
          have hold : LOok st.hp (.row v E size L) := hwf.obj (look_mem hob)
          have hone := oneObs_spec (hp := st.hp) (fun p hp => gimp_out (h1 p hp) (fun c hc => by cases hc)) (fun c hc => by obtain ⟨l, hl, hc⟩ := List.mem_flatten.1 hc; exact hold.2 l hl c hc)
          have hobj := hw.objs _ (look_mem hob)
          rw [hsz] at hobj
          exact appTo_sound hT hwf hr hw hgl hti hk1 hb1 hte hs ex (rows := L) (SrcOk.of_row hobj (fun l hl c hc => hone c.den (List.mem_map.2 ⟨c, List.mem_flatten.2 ⟨l, hl, hc⟩, rfl⟩))) hold.2 h2 hop' fin
         ·exact h.elim
        ·exact h.elim
       ·obtain ⟨rows, ⟨hsrc, hnp⟩, h⟩ := h
        exact appTo_sound hT hwf hr hw hgl hti hk1 hb1 hte hs ex (hsrc w hw) (fun l hl c hc => noP_ok (hnp l hl c hc)) h hop' fin
      ·exact h.elim
     ·exact h.elim
    ·rename_i x t hcal hargs htys
     rw [if_pos hwant]
     have hop' : o.op = .call { callee := .builtin .clear, args := #[x], argTypes := #[t] } := by
      rw [hop]
      obtain ⟨callee, args, argTypes⟩ := c
      simp only at hcal hargs htys
      subst hcal
      congr 2
      ·rw [← Array.toList_inj]; simpa using hargs
      ·rw [← Array.toList_inj]; simpa using htys
     unfold stepClear at h
     split at h
     ·rename_i ti u hti hx
      split at h
      ·rename_i te hk1 hte hs1
       obtain ⟨id, lo, h⟩ := h
       split at h
       ·rename_i v E size L hob
        split at h
        ·rename_i hsz
         obtain ⟨⟨hu', hlo⟩, h⟩ := h
         obtain ⟨h1, h2⟩ := obl_out h
         rw [hpSetK_eq] at h2
         replace h2 : goPut (st.setHp (hpSet st.hp id (.row v E size (spliceR L (List.replicate (L.length - lo) te.zero) lo)))) o.dst (.tup []) K := h2
         have hone := oneObs_spec (hp := st.hp) (fun p hp => gimp_out (h1 p hp) (fun c hc => by cases hc)) (zero_ok (hp := st.hp) hT hte)
         have ex := eval_opv hr keys_nil hx
         simp only [RV.den, SV.den, CV.den] at ex
         obtain ⟨hu, j, hj, hj1, hj2⟩ := chk_slice (hT _ _ hti) hk1
         obtain ⟨i', d, hi', hd, hsz', hag, z, hz, hzc, hzl⟩ := chk_info (hT _ _ hte)
         rw [hj] at hi'
         cases hi'
         have hsz := Nat.eq_of_beq_eq_true hsz
         have hs1 := Nat.le_of_ble_eq_true hs1
         have hobj := hw.objs _ (look_mem hob)
         have esz : size = j.size := by omega
         subst esz
         obtain ⟨w', hrun, hfr, hho⟩ := clear_own (P := P) t o.type ti.elem j z hu hj hz hzc (by omega) (by omega) hone hobj hlo
         have e : (execOp a.eval o).run P w = .ok (.value (.tuple #[])) w' := by
          obtain ⟨dst, op, type, pos, after, guard⟩ := o
          dsimp only at hop'
          subst hop'
          rw [hu'] at ex
          simp [execOp, resolve, invoke, builtin, ex, hrun]
         unfold Oper.wp
         rw [e]
         have hold : LOok st.hp (.row v E j.size L) := hwf.obj (look_mem hob)
         refine fin h2 rfl (hwf.setO hob (fun b' T' cs' e => by cases e) ⟨fun hn => hold.1 (by rw [spliceR_length (by simp; omega)] at hn; exact hn), fun q hq c' hc => ?_⟩) (fun v hv => by cases hv) ⟨hr.size, hr.defers, hr.sl, fun s ks u hl' => by replace hl' : look st.gl s = some (ks, u) := hl'; rw [hgl] at hl'; cases hl'⟩ (hw.setG hob hfr hho (fun b hb => .inl hb))
         simp only [spliceR, List.mem_append] at hq
         rcases hq with (hq | hq) | hq
         ·exact hold.2 q (List.mem_of_mem_take hq) c' hc
         ·rw [List.eq_of_mem_replicate hq] at hc; exact zero_ok (hp := st.hp) hT hte c' hc
         ·exact hold.2 q (List.mem_of_mem_drop hq) c' hc
        ·exact h.elim
       ·exact h.elim
      ·exact h.elim
     ·exact h.elim
    ·rename_i d x t t' hcal hargs htys
     rw [if_pos hwant]
     have hop' : o.op = .call { callee := .builtin .copy, args := #[d, x], argTypes := #[t, t'] } := by
      rw [hop]
      obtain ⟨callee, args, argTypes⟩ := c
      simp only at hcal hargs htys
      subst hcal
      congr 2
      ·rw [← Array.toList_inj]; simpa using hargs
      ·rw [← Array.toList_inj]; simpa using htys
     unfold stepCopy at h
     split at h
     ·rename_i ti u xc hti hd hx
      split at h
      ·rename_i hk1
       obtain ⟨id, lo, rows, h⟩ := h
       split at h
       ·rename_i v E size L hob
        split at h
        ·rename_i hsz
         obtain ⟨⟨hu', hlo, hsrc, hnp⟩, h2⟩ := h
         rw [hpSetK_eq] at h2
         replace h2 : goPut (st.setHp (hpSet st.hp id (.row v E size (spliceR L rows lo)))) o.dst (.s (.c (.i rows.length))) K := h2
         have ex := eval_opv hr keys_nil hx
         have ed := eval_opv hr keys_nil hd
         simp only [RV.den, SV.den] at ex ed
         rw [show (CV.x u).den = u from rfl] at ed
         obtain ⟨hu, j, hj, hj1, hj2⟩ := chk_slice (hT _ _ hti) hk1
         have hsz := Nat.eq_of_beq_eq_true hsz
         have hobj := hw.objs _ (look_mem hob)
         have esz : size = j.size := by omega
         subst esz
         have hs := hsrc w hw
         obtain ⟨w', hrun, hfr, hho⟩ := copy_own (P := P) t t' o.type ti.elem j hu hj hobj hlo hs
         have e : (execOp a.eval o).run P w = .ok (.value (.int .i64 rows.length)) w' := by
          obtain ⟨dst, op, type, pos, after, guard⟩ := o
          dsimp only at hop'
          subst hop'
          rw [hu'] at ed
          simp only [execOp, resolve, invoke, builtin, List.map_toArray, List.map_cons, List.map_nil, ex, ed, Sem.run_bind, Sem.run_pure, Result.andThen_ok, hrun]
         unfold Oper.wp
         rw [e]
         have hold : LOok st.hp (.row v E j.size L) := hwf.obj (look_mem hob)
         refine fin h2 rfl (hwf.setO hob (fun b' T' cs' e => by cases e) ⟨fun hn => hold.1 (by rw [spliceR_length hlo] at hn; exact hn), fun q hq c' hc => ?_⟩) trivial ⟨hr.size, hr.defers, hr.sl, fun s ks u hl' => by replace hl' : look st.gl s = some (ks, u) := hl'; rw [hgl] at hl'; cases hl'⟩ (hw.setG hob hfr hho (fun b hb => .inl hb))
         simp only [spliceR, List.mem_append] at hq
         rcases hq with (hq | hq) | hq
         ·exact hold.2 q (List.mem_of_mem_take hq) c' hc
         ·exact noP_ok (hnp q hq c' hc)
         ·exact hold.2 q (List.mem_of_mem_drop hq) c' hc
        ·exact h.elim
       ·exact h.elim
      ·exact h.elim
     ·exact h.elim
    ·exact quiet h
   ·exact quiet h
 ·exact quiet h
def St.atEnd : St → (Act → World → Prop) → Prop
 | ⟨N, sl, _, hp, S, ws, df⟩, R => At ⟨N, sl, [], hp, S, ws, df⟩ R
def run (P : Program) (tab : Tab) (ops : Array Oper) (l : List Oper) : St → (St → Prop) → Prop :=
 List.rec (motive := fun _ => St → (St → Prop) → Prop) (fun st K => K st) (fun o _ ih st K => step P tab ops o st (fun st' => ih st' K)) l
def runQ (P : Program) (tab : Tab) (ops : Array Oper) (l : List Oper) : St → (St → Prop) → Prop :=
 List.rec (motive := fun _ => St → (St → Prop) → Prop) (fun st K => K st) (fun o _ ih st K => stepQ P tab ops o st (fun st' => ih st' K)) l
theorem Rel.endR {st : St} {a : Act} (h : Rel st a) : Rel st.endR a := ⟨h.size, h.defers, h.sl, fun s ks v hl => by cases hl⟩
theorem WF.endR {st : St} (h : WF st) : WF st.endR := ⟨h.sl, h.hp, h.row⟩
theorem Holds.endR {st : St} {w : World} (h : Holds st w) : Holds st.endR w := ⟨h.objs, h.nodup, h.fr, h.own⟩
def noG : Oper → Oper
 | ⟨dst, op, type, pos, after, _⟩ => ⟨dst, op, type, pos, after, none⟩
section
variable {P : Program} {tab : Tab} {Q : Exit → Act → World → Prop}
theorem run_sound (hT : TabOk P tab) {ops : Array Oper} : ∀ {l : List Oper} {st : St} {K : St → Prop} {a : Act} {w : World}, run P tab ops l st K → WF st → Rel st a → Holds st w →
  (∀ st' a' w', K st' → WF st' → Rel st' a' → Holds st' w' → Q .normal a' w') → wpList P ops Q l a w
 | [], st, K, a, w, h, hwf, hr, hw, hn => hn st a w h hwf hr hw
 | o :: r, st, K, a, w, h, hwf, hr, hw, hn => by
  have := step_sound (Q := Q) (next := wpList P ops Q r) hT h hwf hr hw (fun st' a' w' hk hwf' hr' hw' => run_sound hT hk hwf' hr' hw' hn)
  simp only [wpList]
  split
  ·rename_i hwant; rw [if_pos hwant] at this; exact .inl this
  ·rename_i hwant; rw [if_neg hwant] at this; exact this
theorem runQ_sound (hT : TabOk P tab) {ops : Array Oper} {st0 : St} {N : Act → Prop} : ∀ {l : List Oper} {st : St} {K : St → Prop} {a : Act}, runQ P tab ops l st K → WF st → Rel st a → SameW st0 st →
  (∀ st' a', K st' → WF st' → Rel st' a' → SameW st0 st' → N a') → wpQuiet P ops (Holds st0) N l a
 | [], st, K, a, h, hwf, hr, h0, hn => hn st a h hwf hr h0
 | o :: r, st, K, a, h, hwf, hr, h0, hn =>
  stepQ_sound (next := wpQuiet P ops (Holds st0) N r) hT h hwf hr h0 (fun st' a' hk hwf' hr' hs => runQ_sound hT hk hwf' hr' hs hn)
theorem At.region (hT : TabOk P tab) {id : Nat} {l : List Oper} {st : St} (h : run P tab l.toArray l st (fun st' => st'.atEnd (Q .normal))) : At st ((Code.region id l.toArray false).wp P Q) :=
 ⟨fun hwf a w hr hw => wp_region_lit (run_sound hT h hwf hr hw fun st' a' w' hk hwf' hr' hw' => (show At st'.endR _ from hk).out hwf'.endR a' w' hr'.endR hw'.endR)⟩
theorem Holds.drawn {st : St} {w : World} (h : Holds st w) : Holds st { w with drawn := w.drawn + 1 } := by
 exact ⟨fun o ho => LO.frame (S := []) ((Fr.refl _ _).drew) (h.objs o ho) (by simp), h.nodup, h.fr.drew, h.own⟩
theorem At.draw (hT : TabOk P tab) (hm : P.follows .mixedOrders = true) {id : Nat} {l : List Oper} {st : St} (hB : Region.lexB .any l.toArray = true)
  (h : runQ P tab l.toArray l st (fun st' => st'.atEnd (Q .normal))) : At st ((Code.region id l.toArray true).wp P Q) :=
 ⟨fun hwf a w hr hw => wp_region_quiet (C := Holds st) hm hB hw.drawn (by
  refine runQ_sound hT (ops := l.toArray) h hwf hr (SameW.refl st) fun st' a' hk hwf' hr' hs w' hw' => ?_
  exact (show At st'.endR _ from hk).out hwf'.endR a' w' hr'.endR (hs.holds hw').endR)⟩
theorem At.seq {x y : Code} {st : St} (h : At st (x.wp P (Exit.then (y.wp P Q) Q))) : At st ((Code.seq x y).wp P Q) :=
 ⟨fun hwf a w hr hw => wp_seq (h.out hwf a w hr hw)⟩
theorem At.skip {st : St} (h : At st (Q .normal)) : At st (Code.skip.wp P Q) := ⟨fun hwf a w hr hw => wp_skip (h.out hwf a w hr hw)⟩
theorem At.exit {id : Nat} {st : St} (h : At st (Q (.exit id))) : At st ((Code.exit id).wp P Q) := ⟨fun hwf a w hr hw => wp_exit (h.out hwf a w hr hw)⟩
theorem At.ret {st : St} (h : At st (Q .ret)) : At st (Code.ret.wp P Q) := ⟨fun hwf a w hr hw => wp_ret (h.out hwf a w hr hw)⟩
theorem At.block {id : Nat} {c : Code} {st : St} (h : At st (c.wp P (Exit.inBlock id Q))) : At st ((Code.block id c).wp P Q) := ⟨fun hwf a w hr hw => wp_block (h.out hwf a w hr hw)⟩
theorem At.cond {c : Operand} {x y : Code} {st : St} {t : Bool} (hc : opv st [] c = some (.s (.c (.b t)))) (ht : t = true → At st (x.wp P Q)) (hf : t = false → At st (y.wp P Q)) : At st ((Code.cond c x y).wp P Q) :=
 ⟨fun hwf a w hr hw => wp_cond_split (t := t) (eval_opv hr keys_nil hc) (fun e => (ht e).out hwf a w hr hw) (fun e => (hf e).out hwf a w hr hw)⟩
def Le (st st' : St) : Prop := (st'.N = st.N ∧ st'.df = st.df) ∧ st'.gl = [] ∧ ∀ s v, look st'.sl s = some (some v) → ∃ u, look st.sl s = some (some u) ∧ u.den = v.den
theorem Le.rel {st st' : St} {a : Act} (h : Le st st') (hr : Rel st a) : Rel st' a :=
 ⟨by rw [h.1.1]; exact hr.size, hr.defers.trans h.1.2.symm, fun s v hl => by obtain ⟨u, h1, h2⟩ := h.2.2 s v hl; rw [← h2]; exact hr.sl s u h1, fun s ks v hl => by rw [h.2.1] at hl; cases hl⟩
theorem At.reshape {st : St} {R : Act → World → Prop} (h : ∀ w, Holds st w → ∃ st', Le st st' ∧ WF st' ∧ Holds st' w ∧ At st' R) : At st R :=
 ⟨fun hwf a w hr hw => let ⟨st', hl, hwf', hw', h'⟩ := h w hw; h'.out hwf' a w (hl.rel hr) hw'⟩
theorem wp_loop_ghost {c : Code} (I : Nat → Act → World → Prop) {a : Act} {w : World} {n : Nat} (h₀ : I n a w)
  (round : ∀ n a w, I n a w → c.wp P (Exit.then (fun a' w' => ∃ m, m < n ∧ I m a' w') Q) a w) : (Code.loop c).wp P Q a w := by
 intro b k cs
 have key : ∀ n a w, I n a w → ∃ e a' w', Q e a' w' ∧ Arrives P (lone (b.at a (.code c :: .inLoop c :: k)) cs w) b k cs e a' w' := by
  intro n
  induction n using Nat.strongRecOn with
  | _ n ih =>
   intro a w hI
   obtain ⟨e, a₁, w₁, hq, harr⟩ := round n a w hI b (.inLoop c :: k) cs
   cases e with
   | normal =>
    obtain ⟨m, hlt, hI₁⟩ := hq
    obtain ⟨e₂, a₂, w₂, hq₂, harr₂⟩ := ih m hlt a₁ w₁ hI₁
    exact ⟨e₂, a₂, w₂, hq₂, .of_steps (Steps.trans harr (.one step_inLoop)) harr₂⟩
   | exit id => exact ⟨_, a₁, w₁, hq, .pass (x := .inLoop c) rfl (fun _ _ => .inl (by simp)) harr⟩
   | goto l => exact ⟨_, a₁, w₁, hq, .pass (x := .inLoop c) rfl (fun _ _ => .inl (by simp)) harr⟩
   | ret => exact ⟨_, a₁, w₁, hq, .pass (x := .inLoop c) rfl (fun _ _ => .inl (by simp)) harr⟩
   | panic ch => exact ⟨_, a₁, w₁, hq, .pass (x := .inLoop c) rfl (fun _ _ => .inl (by simp)) harr⟩
   | outgrown => exact ⟨_, a₁, w₁, hq, .pass (x := .inLoop c) rfl (fun _ _ => .inl (by simp)) harr⟩
 obtain ⟨e, a', w', hq, harr⟩ := key _ a w h₀
 exact ⟨e, a', w', hq, .of_steps (.one step_loop) harr⟩
theorem At.loop {c : Code} {st : St} (I : Nat → St → Prop) (h₀ : At st (fun a w => ∃ n st', I n st' ∧ WF st' ∧ Rel st' a ∧ Holds st' w))
  (round : ∀ n st', I n st' → At st' (c.wp P (Exit.then (fun a w => ∃ m st'', m < n ∧ I m st'' ∧ WF st'' ∧ Rel st'' a ∧ Holds st'' w) Q))) : At st ((Code.loop c).wp P Q) :=
 ⟨fun hwf a w hr hw => by
  obtain ⟨n, st', hI, hwf', hr', hw'⟩ := h₀.out hwf a w hr hw
  refine wp_loop_ghost (fun n a w => ∃ st', I n st' ∧ WF st' ∧ Rel st' a ∧ Holds st' w) (n := n) ⟨st', hI, hwf', hr', hw'⟩ ?_
  rintro n a w ⟨st', hI, hwf', hr', hw'⟩
  refine wp_mono ((round n st' hI).out hwf' a w hr' hw') ?_
  intro e a w hq
  cases e with
  | normal => obtain ⟨m, st'', h1, h2⟩ := hq; exact ⟨m, h1, st'', h2⟩
  | _ => exact hq⟩
theorem At.inv {I : Nat → St → Prop} {st : St} (h : ∀ w, Holds st w → ∃ n st', Le st st' ∧ WF st' ∧ Holds st' w ∧ I n st') : At st (fun a w => ∃ n st', I n st' ∧ WF st' ∧ Rel st' a ∧ Holds st' w) :=
 ⟨fun hwf a w hr hw => let ⟨n, st', hl, hwf', hw', hI⟩ := h w hw; ⟨n, st', hI, hwf', hl.rel hr, hw'⟩⟩
theorem At.inv' {I : Nat → St → Prop} {st : St} {n : Nat} (h : ∀ w, Holds st w → ∃ m st', m < n ∧ Le st st' ∧ WF st' ∧ Holds st' w ∧ I m st') :
  At st (fun a w => ∃ m st', m < n ∧ I m st' ∧ WF st' ∧ Rel st' a ∧ Holds st' w) :=
 ⟨fun hwf a w hr hw => let ⟨m, st', h0, hl, hwf', hw', hI⟩ := h w hw; ⟨m, st', h0, hI, hwf', hl.rel hr, hw'⟩⟩
theorem At.loopF {ρ : Type} {c : Code} {st : St} (F : ρ → St) (Inv : ρ → Prop) (μ : ρ → Nat) (h₀ : ∀ w, Holds st w → ∃ p, Inv p ∧ Le st (F p) ∧ WF (F p) ∧ Holds (F p) w)
  (round : ∀ p, Inv p → At (F p) (c.wp P (Exit.then (fun a w => ∃ m st'', m < μ p ∧ (∃ q, Inv q ∧ m = μ q ∧ st'' = F q) ∧ WF st'' ∧ Rel st'' a ∧ Holds st'' w) Q))) : At st ((Code.loop c).wp P Q) := by
 refine At.loop (fun n st' => ∃ q, Inv q ∧ n = μ q ∧ st' = F q) (At.inv fun w hw => ?_) ?_
 ·obtain ⟨p, h1, h2, h3, h4⟩ := h₀ w hw
  exact ⟨μ p, F p, h2, h3, h4, p, h1, rfl, rfl⟩
 ·rintro n st' ⟨q, hq, rfl, rfl⟩
  exact round q hq
theorem At.next {ρ : Type} {st : St} {F : ρ → St} {Inv : ρ → Prop} {μ : ρ → Nat} {n : Nat} (h : ∀ w, Holds st w → ∃ q, Inv q ∧ μ q < n ∧ Le st (F q) ∧ WF (F q) ∧ Holds (F q) w) :
  At st (fun a w => ∃ m st'', m < n ∧ (∃ q, Inv q ∧ m = μ q ∧ st'' = F q) ∧ WF st'' ∧ Rel st'' a ∧ Holds st'' w) :=
 At.inv' fun w hw => let ⟨q, h1, h2, h3, h4, h5⟩ := h w hw; ⟨μ q, F q, h2, h3, h4, h5, q, h1, rfl, rfl⟩
end
end Go.Vd
namespace Go.Vd
open Go.RowKit
def resOne (tab : Tab) (st : St) : ResultVar → Option SV
 | .tmp t => match look st.sl t with
  | some (some (.s v)) => some v
  | _ => none
 | .cell t ty => match look st.sl t, look tab ty with
  | some (some (.s (.c (.p id _ o)))), some ti => match look st.hp id with
   | some (.box _ _ cells) => match takeCells o ti.size cells with
    | some l => mkSV ti.agg l
    | none => none
   | _ => none
  | _, _ => none
def resAll (tab : Tab) (st : St) : List ResultVar → Option (List SV)
 | [] => some []
 | x :: r => match resOne tab st x, resAll tab st r with
  | some v, some l => some (v :: l)
  | _, _ => none
def resOf (tab : Tab) (st : St) (l : List ResultVar) : Option RV :=
 match resAll tab st l with
 | some [v] => some (.s v)
 | some l => some (.tup l)
 | none => none
def resSem (tmps : Array Value) : ResultVar → Sem Value
 | .tmp t => pure (tmps.getD t undef)
 | .cell a t => do loadVar t (← asAddr (tmps.getD a undef))
theorem results_eq (fn : Func) (tmps : Array Value) : results fn tmps = (do let vs ← fn.results.mapM (resSem tmps); pure (if h : vs.size = 1 then vs[0] else .tuple vs)) := by
 unfold results
 congr 1
section
variable {P : Program} {tab : Tab}
theorem resOne_spec (hT : TabOk P tab) {st : St} {a : Act} {w : World} (hwf : WF st) (hr : Rel st a) (hw : Holds st w) {x : ResultVar} {v : SV} (h : resOne tab st x = some v) :
  (resSem a.tmps x).run P w = .ok v.den w := by
 cases x with
 | tmp t =>
  simp only [resOne] at h
  split at h
  ·rename_i u hl
   cases h
   have := hr.sl _ _ hl
   simp [resSem, Array.getD_eq_getD_getElem?, this, RV.den]
  ·cases h
 | cell t ty =>
  simp only [resOne] at h
  split at h
  ·rename_i id blk o ti hl hti
   split at h
   ·rename_i b T cells hob
    split at h
    ·rename_i l hl'
     obtain ⟨T', cs, hob'⟩ := hwf.sl _ _ (look_mem hl)
     rw [hob] at hob'
     cases hob'
     have ht := hr.sl _ _ hl
     obtain ⟨hlen, hget⟩ := takeCells_spec hl'
     have hobj := hw.objs _ (look_mem hob)
     simp only [LO.holds] at hobj
     have e := ok_loadVar (hT _ _ hti) (a := ⟨blk, o, none⟩) hlen h (w := w) (fun j q hq => by
      have hj : j < ti.size := by
       rcases Nat.lt_or_ge j ti.size with h' | h'
       ·exact h'
       ·rw [List.getElem?_eq_none (by simp [dens, hlen, h'])] at hq; cases hq
      have h1 := hget j hj
      have ha : (⟨blk, o, none⟩ : Addr).add j = ⟨blk, o + j, none⟩ := by
       unfold Addr.add; split
       ·simp [*]
       ·rfl
      rw [ha, cell_of_row w blk (o + j) _ _ _ hobj]
      simp only [dens, List.getElem?_map] at hq
      simp only [dens, List.getElem?_toArray, List.getElem?_map, h1, hq])
     simp [resSem, Array.getD_eq_getD_getElem?, ht, RV.den, SV.den, CV.den, asAddr, e]
    ·cases h
   ·cases h
  ·cases h
theorem resAll_spec (hT : TabOk P tab) {st : St} {a : Act} {w : World} (hwf : WF st) (hr : Rel st a) (hw : Holds st w) : ∀ {l : List ResultVar} {vs : List SV}, resAll tab st l = some vs →
  (l.mapM (resSem a.tmps)).run P w = .ok (vs.map SV.den) w
 | [], vs, h => by simp only [resAll] at h; cases h; simp
 | x :: r, vs, h => by
  simp only [resAll] at h
  split at h
  ·rename_i v l hv hl
   cases h
   have e1 := resOne_spec hT hwf hr hw hv
   have e2 := resAll_spec hT hwf hr hw hl
   rw [List.mapM_cons]
   simp only [Sem.run_bind, e1, Result.andThen_ok, e2, Sem.run_pure, List.map_cons]
  ·cases h
theorem resOf_spec (hT : TabOk P tab) {fn : Func} {st : St} {a : Act} {w : World} (hwf : WF st) (hr : Rel st a) (hw : Holds st w) {r : RV} (h : resOf tab st fn.results.toList = some r) :
  (results fn a.tmps).run P w = .ok r.den w := by
 have key : ∀ vs : List SV, resAll tab st fn.results.toList = some vs → (results fn a.tmps).run P w = .ok (if vs.length = 1 then (match vs with | [v] => v.den | _ => undef) else .tuple (vs.map SV.den).toArray) w := by
  intro vs hv
  have e := resAll_spec (P := P) hT hwf hr hw hv
  rw [results_eq, Array.mapM_eq_mapM_toList]
  simp only [Sem.run_bind, Sem.run_map, e, Result.andThen_ok, Sem.run_pure]
  by_cases hl : vs.length = 1
  ·match vs, hl with
   | [v], _ => simp
  ·rw [if_neg hl, dif_neg (by simpa using hl)]
 unfold resOf at h
 split at h
 ·rename_i v hv
  cases h
  rw [key _ hv]; simp [RV.den]
 ·rename_i l hne hv
  cases h
  rw [key _ hv]
  have : l.length ≠ 1 := fun hl => by
   match l, hl with
   | [v], _ => exact hne v rfl
  rw [if_neg this]; rfl
 ·cases h
theorem At.done (hT : TabOk P tab) {fn : Func} {R : Ending → World → Prop} {st : St} (r : RV) (h : resOf tab st fn.results.toList = some r) (hR : ∀ w, Holds st w → R (.returned r.den) w) (hd : st.df = [] := by rfl) : At st (bodyPost P fn R .ret) :=
 ⟨fun hwf a w hr hw => ⟨hr.defers.trans hd, _, resOf_spec hT hwf hr hw h, hR w hw⟩⟩
theorem At.done' (hT : TabOk P tab) {fn : Func} {R : Ending → World → Prop} {st : St} (r : RV) (h : resOf tab st fn.results.toList = some r) (hR : ∀ w, Holds st w → R (.returned r.den) w) (hd : st.df = [] := by rfl) : At st (bodyPost P fn R .normal) :=
 ⟨fun hwf a w hr hw => ⟨hr.defers.trans hd, _, resOf_spec hT hwf hr hw h, hR w hw⟩⟩
def slots : Nat → List RV → List (Nat × Option RV)
 | _, [] => []
 | k, v :: r => (k, some v) :: slots (k + 1) r
theorem slots_spec : ∀ {l : List RV} {k s : Nat} {v : RV}, look (slots k l) s = some (some v) → k ≤ s ∧ l[s - k]? = some v
 | [], k, s, v, h => by cases h
 | x :: r, k, s, v, h => by
  simp only [slots, look] at h
  split at h
  ·rename_i hb
   have := Nat.eq_of_beq_eq_true hb
   subst this
   cases h
   simp
  ·obtain ⟨h1, h2⟩ := slots_spec h
   refine ⟨by omega, ?_⟩
   rw [show s - k = (s - (k + 1)) + 1 by omega]
   simpa using h2
def St.enter (N : Nat) (l : List RV) (hp : List (Nat × LO)) (S : List Nat) (w : World) : St := { N := N, sl := slots 0 l, gl := [], hp := hp, S := S, ws := w }
theorem calls_of_at {f : FuncId} {fn : Func} {c : Code} {w : World} {R : Ending → World → Prop} (l : List RV) (hp : List (Nat × LO)) (S : List Nat) {args : Array Value}
  (hf : P.funcs[f]? = some fn) (hb : fn.body = some c) (ha : args = (l.map RV.den).toArray) (hn : l.length ≤ fn.ntmps) (hwf : WF (St.enter fn.ntmps l hp S w)) (hw : Holds (St.enter fn.ntmps l hp S w) w)
  (h : At (St.enter fn.ntmps l hp S w) (c.wp P (bodyPost P fn R))) : Calls P f args w R := by
 subst ha
 refine calls_of_wp hf hb (h.out hwf _ w ⟨?_, rfl, fun s v hl => ?_, fun s ks v hl => by cases hl⟩ hw)
 ·simp [St.enter]; omega
 ·obtain ⟨_, h2⟩ := slots_spec hl
  rw [Nat.sub_zero] at h2
  have hlt : s < l.length := by
   rcases Nat.lt_or_ge s l.length with h' | h'
   ·exact h'
   ·rw [List.getElem?_eq_none h'] at h2; cases h2
  rw [Array.getElem?_append_left (by simpa using hlt)]
  simp [h2]
theorem holds_enter {N : Nat} {l : List RV} {S : List Nat} {w : World} : Holds (St.enter N l [] S w) w :=
 ⟨fun o ho => (by cases ho), List.nodup_nil, Fr.refl _ _, fun b hb => (by cases hb)⟩
theorem wf_enter {N : Nat} {l : List RV} {S : List Nat} {w : World} (h : ∀ v ∈ l, noPr v = true) : WF (St.enter N l [] S w) :=
 ⟨fun s v hm => by
  have key : ∀ (l : List RV) (k : Nat), (s, some v) ∈ slots k l → v ∈ l := by
   intro l
   induction l with
   | nil => intro k hm; cases hm
   | cons x r ih =>
    intro k hm
    simp only [slots] at hm
    rcases List.mem_cons.1 hm with e | hm
    ·cases e; exact .head _
    ·exact .tail _ (ih _ hm)
  exact noPr_ok (h v (key l 0 hm)), fun id b T cells hm => (by cases hm), fun id v E size L hm => (by cases hm)⟩
theorem calls_plain {f : FuncId} {fn : Func} {c : Code} {w : World} {R : Ending → World → Prop} (l : List RV) {args : Array Value}
  (hf : P.funcs[f]? = some fn) (hb : fn.body = some c) (ha : args = (l.map RV.den).toArray) (hn : l.length ≤ fn.ntmps) (hp : l.all noPr = true)
  (h : At (St.enter fn.ntmps l [] [] w) (c.wp P (bodyPost P fn R))) : Calls P f args w R :=
 calls_of_at l [] [] hf hb ha hn (wf_enter fun v hv => List.all_eq_true.1 hp v hv) holds_enter h
theorem calls_plainB {f : FuncId} {fn : Func} {c : Code} {w : World} {R : Ending → World → Prop} (l : List RV) {args : Array Value}
  (hf : P.funcs[f]? = some fn) (hb : fn.body = some c) (ha : args = (l.map RV.den).toArray) (hn : l.length ≤ fn.ntmps) (hp : l.all noPr = true)
  (h : ∀ B : Exit → Act → World → Prop, B = bodyPost P fn R → At (St.enter fn.ntmps l [] [] w) (c.wp P B)) : Calls P f args w R :=
 calls_plain l hf hb ha hn hp (h _ rfl)
theorem calls_atB {f : FuncId} {fn : Func} {c : Code} {w : World} {R : Ending → World → Prop} (l : List RV) (hp : List (Nat × LO)) (S : List Nat) {args : Array Value}
  (hf : P.funcs[f]? = some fn) (hb : fn.body = some c) (ha : args = (l.map RV.den).toArray) (hn : l.length ≤ fn.ntmps) (hwf : WF (St.enter fn.ntmps l hp S w)) (hw : Holds (St.enter fn.ntmps l hp S w) w)
  (h : ∀ B : Exit → Act → World → Prop, B = bodyPost P fn R → At (St.enter fn.ntmps l hp S w) (c.wp P B)) : Calls P f args w R :=
 calls_of_at l hp S hf hb ha hn hwf hw (h _ rfl)
theorem At.doneB (hT : TabOk P tab) {fn : Func} {R : Ending → World → Prop} {B : Exit → Act → World → Prop} (hB : B = bodyPost P fn R) {st : St} (r : RV) (h : resOf tab st fn.results.toList = some r) (hR : ∀ w, Holds st w → R (.returned r.den) w) (hd : st.df = [] := by rfl) : At st (B .ret) := by
 subst hB; exact At.done hT r h hR hd
theorem At.doneN (hT : TabOk P tab) {fn : Func} {R : Ending → World → Prop} {B : Exit → Act → World → Prop} (hB : B = bodyPost P fn R) {st : St} (r : RV) (h : resOf tab st fn.results.toList = some r) (hR : ∀ w, Holds st w → R (.returned r.den) w) (hd : st.df = [] := by rfl) : At st (B .normal) := by
 subst hB; exact At.done' hT r h hR hd
end
end Go.Vd
namespace Go.Vd
open Go.RowKit
structure Ty (α : Type) where
 size : Nat
 rel : List Nat → World → α → List CV → Prop
 len : ∀ {S w x l}, rel S w x l → l.length = size
 fr : ∀ {S w w' x l}, Fr S w w' → rel S w x l → rel S w' x l
 av : ∀ {S S' w x l}, (∀ b ∈ S', b ∈ S ∨ w.heap.size ≤ b) → rel S w x l → rel S' w x l
structure SlOf {α : Type} (T : Ty α) (S : List Nat) (w : World) (v : Value) (xs : List α) : Prop where
 sl : isSl v
 len : slen v = xs.length
 small : xs.length ≤ 9223372036854775807
 av : ∀ a n c, v = .slice (some a) n c → 0 < xs.length → a.block ∉ S ∧ a.block < w.heap.size
 elem : ∀ (i : Nat) x, xs[i]? = some x → ∃ l, T.rel S w x l ∧ ECells w v T.size i 0 l
theorem add_block (a : Addr) (n : Nat) : (a.add n).block = a.block := by unfold Addr.add; split <;> rfl
theorem elemAddr_block (a : Addr) (s : Nat) (i : Int) (o j : Nat) : ((elemAddr a s i o).add j).block = a.block := by
 unfold elemAddr; rw [add_block, add_block, add_block]
theorem cell_fr {S : List Nat} {w w' : World} (h : Fr S w w') {a : Addr} (h1 : a.block ∉ S) (h2 : a.block < w.heap.size) : w'.cell? a = w.cell? a := by
 have e := h.block a.block h2 h1
 unfold World.cell?; rw [e]
section
variable {α : Type} {T : Ty α} {S S' : List Nat} {w w' : World} {v : Value} {xs : List α}
theorem pos_of_get {i : Nat} {x : α} (h : xs[i]? = some x) : 0 < xs.length := by
 rcases Nat.lt_or_ge i xs.length with h' | h'
 ·omega
 ·rw [List.getElem?_eq_none h'] at h; cases h
theorem SlOf.fr (h : SlOf T S w v xs) (hf : Fr S w w') : SlOf T S w' v xs :=
 ⟨h.sl, h.len, h.small, fun a n c e hp => ⟨(h.av a n c e hp).1, Nat.lt_of_lt_of_le (h.av a n c e hp).2 hf.size⟩, fun i x hx => by
  obtain ⟨l, h1, h2⟩ := h.elem i x hx
  refine ⟨l, T.fr hf h1, fun a n c e j u hu => ?_⟩
  have hv := h.av a n c e (pos_of_get hx)
  rw [cell_fr hf (by rw [elemAddr_block]; exact hv.1) (by rw [elemAddr_block]; exact hv.2)]
  exact h2 a n c e j u hu⟩
theorem SlOf.avoid (h : SlOf T S w v xs) (hs : ∀ b ∈ S', b ∈ S ∨ w.heap.size ≤ b) : SlOf T S' w v xs :=
 ⟨h.sl, h.len, h.small, fun a n c e hp => ⟨fun hm => (hs _ hm).elim (h.av a n c e hp).1 (fun h' => by have := (h.av a n c e hp).2; omega), (h.av a n c e hp).2⟩, fun i x hx => by
  obtain ⟨l, h1, h2⟩ := h.elem i x hx
  exact ⟨l, T.av hs h1, h2⟩⟩
theorem SlOf.ext (h : SlOf T S w v xs) (hf : Ext w w') : SlOf T S w' v xs := h.fr (hf.fr S)
theorem Holds.lift {st : St} (hw : Holds st w) (h : SlOf T st.S st.ws v xs) : SlOf T st.blks w v xs := by
 have h1 := h.avoid (S' := st.S ++ st.blks) (fun b hb => (List.mem_append.1 hb).elim .inl (fun hb => hw.own b hb))
 have h2 := h1.fr (hw.fr.mono fun k hk => .inl (List.mem_append.2 (.inl hk)))
 exact h2.avoid fun b hb => .inl (List.mem_append.2 (.inr hb))
end
def flat {α : Type} (size : Nat) (enc : α → List CV) (hl : ∀ x, (enc x).length = size) : Ty α where
 size := size
 rel := fun _ _ x l => l = enc x
 len := fun {_ _ x _} h => by rw [h]; exact hl x
 fr := fun _ h => h
 av := fun _ h => h
theorem SlOf.load {α : Type} {size : Nat} {enc : α → List CV} {hl : ∀ x, (enc x).length = size} {S : List Nat} {ws w : World} {v : Value} {xs : List α} (h : SlOf (flat size enc hl) S ws v xs) (hf : Fr S ws w)
  {i : Nat} {x : α} (hx : xs[i]? = some x) {off n : Nat} {l : List CV} (ht : takeCells off n (enc x) = some l) : ECells w v size i off l := by
 obtain ⟨l', h1, h2⟩ := (h.fr hf).elem i x hx
 cases h1
 exact h2.part ht
def intT : Ty Int := flat 1 (fun n => [.i n]) (fun _ => rfl)
def slT {α : Type} (T : Ty α) : Ty (List α) where
 size := 1
 rel := fun S w xs l => ∃ v, l = [.x v] ∧ SlOf T S w v xs
 len := fun ⟨v, h, _⟩ => by rw [h]; rfl
 fr := fun hf ⟨v, h, h'⟩ => ⟨v, h, h'.fr hf⟩
 av := fun hs ⟨v, h, h'⟩ => ⟨v, h, h'.avoid hs⟩
def St.snap : St → World → St
 | ⟨N, sl, gl, hp, _, _, df⟩, w => ⟨N, sl, gl, hp, hp.flatMap (fun o => o.2.blks), w, df⟩
theorem snap_same {st : St} {w : World} : SameS st (st.snap w) := ⟨rfl, rfl, rfl, rfl⟩
theorem WF.snap {st : St} {w : World} (h : WF st) : WF (st.snap w) := ⟨h.sl, h.hp, h.row⟩
theorem LO.holds_ext {w w' : World} (hx : Ext w w') {o : LO} (h : o.holds w) : o.holds w' := LO.frame hx h (by simp)
theorem Holds.snap {st : St} {w w' : World} (h : Holds st w) (hx : Ext w w') : Holds (st.snap w') w' :=
 ⟨fun o ho => LO.holds_ext hx (h.objs o ho), h.nodup, Fr.refl _ _, fun b hb => .inl hb⟩
theorem Holds.ext {st : St} {w w' : World} (h : Holds st w) (hx : Ext w w') : Holds st w' :=
 ⟨fun o ho => LO.holds_ext hx (h.objs o ho), h.nodup, h.fr.trans (hx.fr _), h.own⟩
def Ans (P : Program) (f : FuncId) (args : List Value) (r : RV) (w : World) : Prop := Calls P f args.toArray w (fun e w' => e = .returned r.den ∧ Ext w w')
theorem ans_quiet {P : Program} {f : FuncId} {args : List Value} {r : RV} {st : St} (hb : Body P f) (h : ∀ w, Holds st w → Ans P f args r w) : QCall P st f args r :=
 .inl ⟨hb, fun w hw => (h w hw).mono fun e w' ⟨he, hx⟩ => ⟨he, hw.ext hx⟩⟩
theorem ans_call {P : Program} {f : FuncId} {args : List Value} {r : RV} {st : St} {d : Option Nat} {K : St → Prop} (hb : Body P f) (hn : noPr r = true) (h : ∀ w, Holds st w → Ans P f args r w) (hk : goPut st d r K) : UCall P st f args d K :=
 .inl ⟨hb, fun hwf w hw => (h w hw).mono fun e w' ⟨he, hx⟩ => ⟨r, st, he, ⟨rfl, rfl, rfl, rfl⟩, hwf, noPr_ok hn, hw.ext hx, hk⟩⟩
def LeL (sl : List (Nat × Option RV)) : List (Nat × Option RV) → Prop
 | [] => True
 | (s, some v) :: r => (match look sl s with | some (some u) => u.den = v.den | _ => False) ∧ LeL sl r
 | (_, none) :: r => LeL sl r
theorem LeL_spec {sl : List (Nat × Option RV)} : ∀ {l : List (Nat × Option RV)}, LeL sl l → ∀ s v, look l s = some (some v) → ∃ u, look sl s = some (some u) ∧ u.den = v.den
 | [], _, s, v, hl => by cases hl
 | (t, some x) :: r, h, s, v, hl => by
  simp only [look] at hl
  split at hl
  ·rename_i hb
   have := Nat.eq_of_beq_eq_true hb
   subst this
   cases hl
   have h1 := h.1
   split at h1
   ·rename_i u hu; exact ⟨u, hu, h1⟩
   ·exact h1.elim
  ·exact LeL_spec h.2 s v hl
 | (t, none) :: r, h, s, v, hl => by
  simp only [look] at hl
  split at hl
  ·cases hl
  ·exact LeL_spec (l := r) h s v hl
theorem Le.of {st st' : St} (h1 : st'.N = st.N) (h2 : st'.gl = []) (h : LeL st.sl st'.sl) (h3 : st'.df = st.df := by rfl) : Le st st' := ⟨⟨h1, h3⟩, h2, LeL_spec h⟩
def plainB : St → Bool
 | ⟨_, sl, _, hp, _, _, _⟩ => sl.all (fun e => match e.2 with | some v => noPr v | none => true) && hp.all (fun e => match e.2 with | .box _ _ cells => noPs cells | .row _ _ _ _ => false)
theorem WF.plain {st : St} (h : plainB st = true) : WF st := by
 obtain ⟨N, sl, gl, hp, S, ws, df⟩ := st
 simp only [plainB, Bool.and_eq_true, List.all_eq_true] at h
 refine ⟨fun s v hm => ?_, fun id b T cells hm => ?_, fun id v E size L hm => ?_⟩
 ·exact noPr_ok (h.1 _ hm)
 ·exact noPs_ok (h.2 _ hm)
 ·cases h.2 _ hm
theorem Holds.same {st st' : St} {w : World} (h : Holds st w) (h1 : st'.hp = st.hp) (h2 : st'.S = st.S) (h3 : st'.ws = st.ws) : Holds st' w := by
 refine ⟨by rw [h1]; exact h.objs, ?_, by rw [h2, h3]; exact h.fr, ?_⟩
 ·unfold St.blks; rw [h1]; exact h.nodup
 ·unfold St.blks; rw [h1, h2, h3]; exact h.own
theorem band (a b : Bool) : (bif a then b else false) = (a && b) := by cases a <;> rfl
theorem bor (a b : Bool) : (bif a then true else b) = (a || b) := by cases a <;> rfl
end Go.Vd
