/- Texts that the law leans on. -/
import Derived.Test.YtdigebokbhmfaaaGreatDoorOVcRes
set_option linter.unusedVariables false
set_option linter.unusedSimpArgs false
namespace Go.Vc
open Go.RowKit
def CVokH (hp : List (Nat × LO)) : CV → Prop
 | .o id v => ∃ E size L, look hp id = some (.row v E size L)
 | c => CVok hp c
def SVokH (hp : List (Nat × LO)) : SV → Prop
 | .c v => CVokH hp v
 | .agg l => ∀ c ∈ l, CVokH hp c
def RVokH (hp : List (Nat × LO)) : RV → Prop
 | .s v => SVokH hp v
 | .tup l => ∀ v ∈ l, SVokH hp v
theorem CVokH.ok {st : St} {w : World} (hw : Holds st w) {c : CV} (h : CVokH st.hp c) : CVok st.hp c := by
 cases c with
 | o id v => obtain ⟨E, size, L, hl⟩ := h; exact ownsAt_slice (hw.row hl).1
 | _ => exact h
theorem SVokH.ok {st : St} {w : World} (hw : Holds st w) {v : SV} (h : SVokH st.hp v) : SVok st.hp v := by
 cases v with
 | c v => exact CVokH.ok hw h
 | agg l => exact fun c hc => (h c hc).ok hw
theorem RVokH.ok {st : St} {w : World} (hw : Holds st w) {v : RV} (h : RVokH st.hp v) : RVok st.hp v := by
 cases v with
 | s v => exact SVokH.ok hw h
 | tup l => exact fun v hv => (h v hv).ok hw
def slotsOk (hp : List (Nat × LO)) : List (Nat × Option RV) → Prop
 | [] => True
 | (_, none) :: r => slotsOk hp r
 | (_, some v) :: r => match noPr v with
  | true => slotsOk hp r
  | false => RVokH hp v ∧ slotsOk hp r
def objsOk (hp : List (Nat × LO)) : List (Nat × LO) → Prop
 | [] => True
 | (_, .box _ _ cells) :: r => match noPs cells with
  | true => objsOk hp r
  | false => (∀ c ∈ cells, CVokH hp c) ∧ objsOk hp r
 | (_, .row _ _ _ L) :: r => (∀ l ∈ L, ∀ c ∈ l, CVokH hp c) ∧ objsOk hp r
 | (_, .ab _ _) :: r => objsOk hp r
theorem slotsOk_spec {st : St} {w : World} (hw : Holds st w) : ∀ {l : List (Nat × Option RV)}, slotsOk st.hp l → ∀ s v, (s, some v) ∈ l → RVok st.hp v
 | [], _, s, v, hm => by cases hm
 | (t, none) :: r, h, s, v, hm => by
  rcases List.mem_cons.1 hm with e | hm
  ·cases e
  ·exact slotsOk_spec hw (l := r) h s v hm
 | (t, some u) :: r, h, s, v, hm => by
  simp only [slotsOk] at h
  split at h
  ·rename_i hn
   rcases List.mem_cons.1 hm with e | hm
   ·cases e; exact noPr_ok hn
   ·exact slotsOk_spec hw h s v hm
  ·rcases List.mem_cons.1 hm with e | hm
   ·cases e; exact h.1.ok hw
   ·exact slotsOk_spec hw h.2 s v hm
theorem objsOk_spec {st : St} {w : World} (hw : Holds st w) : ∀ {l : List (Nat × LO)}, objsOk st.hp l → (∀ id b T cells, (id, LO.box b T cells) ∈ l → ∀ c ∈ cells, CVok st.hp c) ∧ (∀ id v E size L, (id, LO.row v E size L) ∈ l → ∀ q ∈ L, ∀ c ∈ q, CVok st.hp c)
 | [], _ => ⟨fun _ _ _ _ hm => (by cases hm), fun _ _ _ _ _ hm => (by cases hm)⟩
 | (t, .box b T cells) :: r, h => by
  simp only [objsOk] at h
  have key : (∀ c ∈ cells, CVok st.hp c) ∧ objsOk st.hp r := by
   split at h
   ·rename_i hn; exact ⟨noPs_ok hn, h⟩
   ·exact ⟨fun c hc => (h.1 c hc).ok hw, h.2⟩
  obtain ⟨h1, h2⟩ := objsOk_spec hw key.2
  refine ⟨fun id b' T' cs hm => ?_, fun id v E size L hm => ?_⟩
  ·rcases List.mem_cons.1 hm with e | hm
   ·cases e; exact key.1
   ·exact h1 id b' T' cs hm
  ·rcases List.mem_cons.1 hm with e | hm
   ·cases e
   ·exact h2 id v E size L hm
 | (t, .row v E size L) :: r, h => by
  obtain ⟨h1, h2⟩ := objsOk_spec hw (l := r) h.2
  refine ⟨fun id b' T' cs hm => ?_, fun id v' E' size' L' hm => ?_⟩
  ·rcases List.mem_cons.1 hm with e | hm
   ·cases e
   ·exact h1 id b' T' cs hm
  ·rcases List.mem_cons.1 hm with e | hm
   ·cases e; exact fun q hq c hc => (h.1 q hq c hc).ok hw
   ·exact h2 id v' E' size' L' hm
 | (t, .ab B Q) :: r, h => by
  obtain ⟨h1, h2⟩ := objsOk_spec hw (l := r) h
  refine ⟨fun id b' T' cs hm => ?_, fun id v' E' size' L' hm => ?_⟩
  ·rcases List.mem_cons.1 hm with e | hm
   ·cases e
   ·exact h1 id b' T' cs hm
  ·rcases List.mem_cons.1 hm with e | hm
   ·cases e
   ·exact h2 id v' E' size' L' hm
theorem WF.objs {st : St} {w : World} (hw : Holds st w) (h1 : slotsOk st.hp st.sl) (h2 : objsOk st.hp st.hp) : WF st :=
 ⟨slotsOk_spec hw h1, (objsOk_spec hw h2).1, fun id v E size L hm => ⟨rows_some (hw.objs _ hm), (objsOk_spec hw h2).2 id v E size L hm⟩⟩
theorem Holds.sl {st : St} {w : World} (h : Holds st w) {id : Nat} {v : Value} {E size : Nat} {L : List (List CV)} (hl : look st.hp id = some (.row v E size L)) : ∃ a n c, v = .slice a n c := ownsAt_slice (h.row hl).1
def keepIds (ids : List Nat) : List (Nat × LO) → List (Nat × LO)
 | [] => []
 | (t, o) :: r => match ids.any (fun i => Nat.beq i t) with
  | true => (t, o) :: keepIds ids r
  | false => keepIds ids r
theorem keepIds_sub (ids : List Nat) : ∀ (hp : List (Nat × LO)), List.Sublist (keepIds ids hp) hp
 | [] => .slnil
 | (t, o) :: r => by
  simp only [keepIds]
  split
  ·exact (keepIds_sub ids r).cons_cons _
  ·exact (keepIds_sub ids r).cons _
theorem flatMap_sub {l l' : List (Nat × LO)} (h : List.Sublist l l') : List.Sublist (l.flatMap fun o => o.2.blks) (l'.flatMap fun o => o.2.blks) := by
 induction h with
 | slnil => exact .slnil
 | cons a h ih => rw [List.flatMap_cons]; exact ih.trans (List.sublist_append_right _ _)
 | cons_cons a h ih => rw [List.flatMap_cons, List.flatMap_cons]; exact (List.Sublist.refl _).append ih
theorem Holds.sub {st st' : St} {w : World} (h : Holds st w) (hs : List.Sublist st'.hp st.hp) (h2 : st'.S = st.S) (h3 : st'.ws = st.ws) : Holds st' w := by
 have hb := flatMap_sub hs
 refine ⟨fun o ho => h.objs o (hs.subset ho), List.Sublist.nodup hb h.nodup, by rw [h2, h3]; exact h.fr, fun b hb' => ?_⟩
 rw [h2, h3]
 exact h.own b (hb.subset hb')
theorem Holds.keep {st st' : St} {w : World} (h : Holds st w) (ids : List Nat) (h1 : st'.hp = keepIds ids st.hp) (h2 : st'.S = st.S) (h3 : st'.ws = st.ws) : Holds st' w :=
 h.sub (by rw [h1]; exact keepIds_sub ids _) h2 h3
theorem nil_holds {w : World} {E size : Nat} : (LO.row (.slice none 0 0) E size []).holds w := ⟨⟨by simp [dens], .inl ⟨rfl, rfl⟩⟩, fun l hl => by cases hl⟩
theorem Holds.nil {st st' : St} {w : World} (h : Holds st w) {id E size : Nat} (h1 : st'.hp = (id, .row (.slice none 0 0) E size []) :: st.hp) (h2 : st'.S = st.S) (h3 : st'.ws = st.ws) : Holds st' w := by
 refine ⟨fun o ho => ?_, ?_, by rw [h2, h3]; exact h.fr, fun b hb => ?_⟩
 ·rw [h1] at ho
  rcases List.mem_cons.1 ho with rfl | ho
  ·exact nil_holds
  ·exact h.objs o ho
 ·unfold St.blks; rw [h1, List.flatMap_cons]; exact h.nodup
 ·unfold St.blks at hb; rw [h1, List.flatMap_cons] at hb; rw [h2, h3]; exact h.own b hb
def NoP (L : List (List CV)) : Prop := ∀ l ∈ L, ∀ c ∈ l, noP c = true
theorem NoP.ok {hp : List (Nat × LO)} {L : List (List CV)} (h : NoP L) : ∀ l ∈ L, ∀ c ∈ l, CVok hp c := fun l hl c hc => noP_ok (h l hl c hc)
theorem NoP.okH {hp : List (Nat × LO)} {L : List (List CV)} (h : NoP L) : ∀ l ∈ L, ∀ c ∈ l, CVokH hp c := fun l hl c hc => by
 have := h l hl c hc
 cases c <;> first | trivial | simp [noP] at this
theorem NoP.map {α : Type} {enc : α → List CV} (h : ∀ x, noPs (enc x) = true) (xs : List α) : NoP (xs.map enc) := by
 intro l hl c hc
 obtain ⟨x, _, rfl⟩ := List.mem_map.1 hl
 have key : ∀ {l : List CV}, noPs l = true → ∀ c ∈ l, noP c = true := by
  intro l
  induction l with
  | nil => intro _ c hc; cases hc
  | cons y r ih =>
   intro h c hc
   simp only [noPs] at h
   split at h
   ·rename_i hy
    rcases List.mem_cons.1 hc with rfl | hc
    ·exact hy
    ·exact ih h c hc
   ·cases h
 exact key (h x) c hc
def intsOnly : List CV → Bool
 | [] => true
 | .i _ :: r => intsOnly r
 | .b _ :: r => intsOnly r
 | .s _ :: r => intsOnly r
 | _ :: _ => false
theorem intsOnly_one : ∀ {l : List CV}, intsOnly l = true → ∀ c ∈ l, c.den.oneCell' = true
 | [], _, c, hc => by cases hc
 | .i _ :: r, h, c, hc => by
  rcases List.mem_cons.1 hc with rfl | hc
  ·rfl
  ·exact intsOnly_one (l := r) h c hc
 | .b _ :: r, h, c, hc => by
  rcases List.mem_cons.1 hc with rfl | hc
  ·rfl
  ·exact intsOnly_one (l := r) h c hc
 | .s _ :: r, h, c, hc => by
  rcases List.mem_cons.1 hc with rfl | hc
  ·rfl
  ·exact intsOnly_one (l := r) h c hc
theorem isSl.one {v : Value} (h : isSl v) : v.oneCell' = true := by obtain ⟨a, n, c, rfl, _⟩ := h; rfl
theorem add_add (b : Addr) (p q : Nat) : (b.add p).add q = b.add (p + q) := by
 unfold Addr.add
 by_cases h0 : p = 0
 ·simp [h0]
 ·by_cases h1 : q = 0 <;> simp [h0, h1, Nat.add_assoc]
section
variable {α : Type} {T : Ty α} {S : List Nat} {w : World} {v : Value} {xs : List α}
theorem SlOf.src {size : Nat} {enc : α → List CV} {hl : ∀ x, (enc x).length = size} (h : SlOf (flat size enc hl) S w v xs) (ho : ∀ x, intsOnly (enc x) = true) : SrcOk w v size (xs.map enc) := by
 refine ⟨fun l hl' => ?_, fun l hl' c hc => ?_, ?_⟩
 ·obtain ⟨x, _, rfl⟩ := List.mem_map.1 hl'; exact hl x
 ·obtain ⟨x, _, rfl⟩ := List.mem_map.1 hl'; exact intsOnly_one (ho x) c hc
 ·obtain ⟨a, n, c, rfl, hnil, hc⟩ := h.sl
  cases a with
  | none =>
   obtain ⟨rfl, rfl⟩ := hnil rfl
   have hl0 := h.len
   simp only [slen] at hl0
   have : xs = [] := List.eq_nil_of_length_eq_zero (by omega)
   subst this
   exact .inr ⟨rfl, rfl⟩
  | some a =>
   have hn : n = xs.length := by have := h.len; simp only [slen] at this; omega
   subst hn
   refine .inl ⟨a, c, by simp, fun j x hx => ?_⟩
   have hlr : ∀ l ∈ xs.map enc, l.length = size := fun l hl' => by obtain ⟨x, _, rfl⟩ := List.mem_map.1 hl'; exact hl x
   have hjl : j < xs.length * size := by
    rcases Nat.lt_or_ge j (xs.length * size) with h' | h'
    ·exact h'
    ·rw [List.getElem?_eq_none (by simp only [dens, List.length_map]; rw [flatten_len hlr, List.length_map]; exact h')] at hx; cases hx
   have hpos : 0 < size := Nat.pos_of_ne_zero fun h0 => by subst h0; simp at hjl
   have hq : j / size < xs.length := Nat.div_lt_of_lt_mul (by rw [Nat.mul_comm]; exact hjl)
   have hr := Nat.mod_lt j hpos
   have hj : j / size * size + j % size = j := by rw [Nat.mul_comm]; exact Nat.div_add_mod j size
   obtain ⟨l, h1, h2⟩ := h.elem (j / size) _ (List.getElem?_eq_getElem hq)
   cases h1
   have e := flatten_get hlr (k := j / size) (row := enc xs[j / size]) (by simp [hq]) (j % size) hr
   rw [hj] at e
   have e2 : (dens (enc xs[j / size]))[j % size]? = some x := by
    simp only [dens, List.getElem?_map] at hx ⊢
    rw [← e]; exact hx
   have := h2 a _ c rfl (j % size) x e2
   rw [← this]
   congr 1
   unfold elemAddr
   simp only [Int.toNat_natCast, add_add]
   show a.add j = a.add (j / size * size + 0 + j % size)
   rw [Nat.add_zero, hj]
theorem SlOf.loadI {size : Nat} {enc : α → List CV} {hl : ∀ x, (enc x).length = size} {ws : World} (h : SlOf (flat size enc hl) S ws v xs) (hf : Fr S ws w)
  {i : Int} (h0 : 0 ≤ i) {x : α} (hx : xs[i.toNat]? = some x) {off n : Nat} {l : List CV} (ht : takeCells off n (enc x) = some l) : ECells w v size i off l := by
 have := h.load hf hx ht
 rw [Int.toNat_of_nonneg h0] at this
 exact this
theorem SlOf.part (h : SlOf T S w v xs) {lo hi : Int} (h0 : 0 ≤ lo) (h1 : lo ≤ hi) (h2 : hi ≤ xs.length) : SlOf T S w (subV v T.size lo hi) ((xs.take hi.toNat).drop lo.toNat) := by
 obtain ⟨a, n, c, rfl, hnil, hc⟩ := h.sl
 have hlen : ((xs.take hi.toNat).drop lo.toNat).length = hi.toNat - lo.toNat := by simp; omega
 cases a with
 | none =>
  obtain ⟨rfl, rfl⟩ := hnil rfl
  have hl0 := h.len
  simp only [slen] at hl0
  have e1 : lo = 0 := by omega
  have e2 : hi = 0 := by omega
  subst e1 e2
  refine ⟨⟨none, 0, 0, by simp [subV], fun _ => ⟨rfl, rfl⟩, Nat.le_refl _⟩, by simp [subV, slen], by simp, fun b n c e => by simp [subV] at e, fun i x hx => by simp at hx⟩
 | some a =>
  have hn : n = xs.length := by have := h.len; simp only [slen] at this; omega
  subst hn
  have hsm := h.small
  refine ⟨⟨_, _, _, rfl, fun e => ?_, by omega⟩, ?_, by rw [hlen]; omega, fun b n' c' e hp => ?_, fun i x hx => ?_⟩
  ·split at e <;> cases e
  ·rw [hlen]
   simp only [subV]
   split <;> simp [slen]
  ·simp only [subV] at e
   have := h.av a _ c rfl (by omega)
   split at e
   ·cases e; exact this
   ·simp only [Option.map_some] at e
    cases e
    rw [add_block]; exact this
  ·have hi' : i < hi.toNat - lo.toNat := by
    rcases Nat.lt_or_ge i (hi.toNat - lo.toNat) with h' | h'
    ·exact h'
    ·rw [List.getElem?_eq_none (by omega)] at hx; cases hx
   rw [List.getElem?_drop, List.getElem?_take_of_lt (by omega)] at hx
   obtain ⟨l, h3, h4⟩ := h.elem _ x hx
   refine ⟨l, h3, fun b n' c' e j u hu => ?_⟩
   simp only [subV] at e
   rw [if_neg (by omega)] at e
   simp only [Option.map_some] at e
   injection e with e1 e2 e3
   cases e1
   have := h4 a _ c rfl j u hu
   rw [← this]
   congr 1
   unfold elemAddr
   simp only [Int.toNat_natCast]
   simp only [add_add]
   congr 1
   rw [Nat.add_mul]
end
theorem ansR_row {st : St} {w w' : World} {id : Nat} {v : Value} {E size : Nat} {L : List (List CV)} (hw : Holds st w') (hl : look st.hp id = some (.row v E size L)) (hS : st.S = []) (hws : st.ws = w) :
  ∃ vs, Ending.returned v = .returned (toRV (resSV [.row E size L] vs)).den ∧ resOk w.heap.size w' [.row E size L] vs ∧ Ext w w' := by
 subst hws
 refine ⟨[v], rfl, ⟨hw.row hl, fun b hb => ?_, fun u hu => (by cases hu), rfl⟩, by have := hw.fr; rw [hS] at this; exact this⟩
 rcases hw.fresh hl b hb with h | h
 ·rw [hS] at h; cases h
 ·exact h
theorem ansR_nil {st : St} {w w' : World} {E size : Nat} (hw : Holds st w') (hS : st.S = []) (hws : st.ws = w) :
  ∃ vs, Ending.returned (.slice none 0 0) = .returned (toRV (resSV [.row E size []] vs)).den ∧ resOk w.heap.size w' [.row E size []] vs ∧ Ext w w' := by
 subst hws
 exact ⟨[.slice none 0 0], rfl, ⟨nil_holds, fun b hb => (by simp [blkOf] at hb), fun u hu => (by cases hu), rfl⟩, by have := hw.fr; rw [hS] at this; exact this⟩
theorem row_call {P : Program} {f : FuncId} {args : List Value} {st : St} {d : Option Nat} {K : St → Prop} {id : Nat} {v : Value} {E size : Nat} {L : List (List CV)} (hb : Body P f) (hl : look st.hp id = some (.row v E size L))
  (Good : RV → Value → List (List CV) → Prop)
  (h : ∀ w, Holds st w → Calls P f args.toArray w (fun e w' => ∃ r v' L', e = .returned (RV.den r) ∧ Good r v' L' ∧ (LO.row v' E size L').holds w' ∧ Fr (blkOf v) w w' ∧ ∀ b ∈ blkOf v', b ∈ blkOf v ∨ w.heap.size ≤ b))
  (hk : ∀ r v' L', Good r v' L' → (∃ a n c, v' = .slice a n c) → RVok (hpSet st.hp id (.row v' E size L')) r ∧ NoP L' ∧ hpSetK st.hp id (.row v' E size L') (fun hp => st.withHp hp (fun st' => goPut st' d r K))) : UCall P st f args d K :=
 .inl ⟨hb, fun hwf w hw => (h w hw).mono fun e w' ⟨r, v', L', he, hg, hh, hf, hbl⟩ => by
  obtain ⟨h1, h2, h3⟩ := hk r v' L' hg (ownsAt_slice hh.1)
  rw [hpSetK_eq] at h3
  refine ⟨r, st.setHp (hpSet st.hp id (.row v' E size L')), he, ⟨rfl, rfl, rfl, rfl⟩, hwf.setO hl (fun b T cells e => by cases e) ⟨rows_some hh, h2.ok⟩, h1, hw.setG hl hf hh hbl, h3⟩⟩
section
variable {P : Program} {Q : Exit → Act → World → Prop}
theorem At.loopH {ρ : Type} {c : Code} {st : St} (F : ρ → St) (Inv : ρ → Prop) (μ : ρ → Nat) (h₀ : ∀ w, Holds st w → ∃ p, Inv p ∧ Le st (F p) ∧ Holds (F p) w ∧ slotsOk (F p).hp (F p).sl ∧ objsOk (F p).hp (F p).hp)
  (round : ∀ p, Inv p → At (F p) (c.wp P (Exit.then (fun a w => ∃ m st'', m < μ p ∧ (∃ q, Inv q ∧ m = μ q ∧ st'' = F q) ∧ WF st'' ∧ Rel st'' a ∧ Holds st'' w) Q))) : At st ((Code.loop c).wp P Q) :=
 At.loopF F Inv μ (fun w hw => let ⟨p, h1, h2, h3, h4, h5⟩ := h₀ w hw; ⟨p, h1, h2, WF.objs h3 h4 h5, h3⟩) round
theorem At.nextH {ρ : Type} {st : St} {F : ρ → St} {Inv : ρ → Prop} {μ : ρ → Nat} {n : Nat} (h : ∀ w, Holds st w → ∃ q, Inv q ∧ μ q < n ∧ Le st (F q) ∧ Holds (F q) w ∧ slotsOk (F q).hp (F q).sl ∧ objsOk (F q).hp (F q).hp) :
  At st (fun a w => ∃ m st'', m < n ∧ (∃ q, Inv q ∧ m = μ q ∧ st'' = F q) ∧ WF st'' ∧ Rel st'' a ∧ Holds st'' w) :=
 At.next fun w hw => let ⟨q, h1, h2, h3, h4, h5, h6⟩ := h w hw; ⟨q, h1, h2, h3, WF.objs h4 h5 h6, h4⟩
theorem At.reshapeH {st : St} {R : Act → World → Prop} (h : ∀ w, Holds st w → ∃ st', Le st st' ∧ Holds st' w ∧ slotsOk st'.hp st'.sl ∧ objsOk st'.hp st'.hp ∧ At st' R) : At st R :=
 At.reshape fun w hw => let ⟨st', h1, h2, h3, h4, h5⟩ := h w hw; ⟨st', h1, WF.objs h2 h3 h4, h2, h5⟩
end
theorem enter_objs {N : Nat} {l : List RV} {hp : List (Nat × LO)} {w : World} (h : ∀ o ∈ hp, o.2.holds w) (hn : (hp.flatMap fun o => o.2.blks).Nodup) : Holds (St.enter N l hp (hp.flatMap fun o => o.2.blks) w) w :=
 ⟨h, hn, Fr.refl _ _, fun b hb => .inl hb⟩
theorem Fr.ext {S : List Nat} {w w' : World} (h : Fr S w w') (hs : ∀ b ∈ S, w'.heap[b]? = w.heap[b]?) : Ext w w' :=
 ⟨h.os, h.tape, h.output, h.size, fun k hk _ => by
  by_cases hm : k ∈ S
  ·exact hs k hm
  ·exact h.block k hk hm⟩
theorem Holds.box {st : St} {w : World} (h : Holds st w) {id b : Nat} {T : TypeId} {cells : List CV} (hl : look st.hp id = some (.box b T cells)) : w.heap[b]? = some (.cells (dens cells).toArray T (0, 0)) := h.objs _ (look_mem hl)
theorem SlOf.at {α : Type} {T : Ty α} {S : List Nat} {ws : World} {v : Value} {xs : List α} (h : SlOf T S ws v xs) {i : Nat} {x : α} (hx : xs[i]? = some x) :
  ∃ l, T.rel S ws x l ∧ ∀ w, Fr S ws w → ECells w v T.size i 0 l := by
 obtain ⟨l, h1, h2⟩ := h.elem i x hx
 refine ⟨l, h1, fun w hf a n c e j u hu => ?_⟩
 have hv := h.av a n c e (pos_of_get hx)
 rw [cell_fr hf (by rw [elemAddr_block]; exact hv.1) (by rw [elemAddr_block]; exact hv.2)]
 exact h2 a n c e j u hu
end Go.Vc
