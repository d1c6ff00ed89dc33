/- Texts that the law leans on. -/
import Derived.Test.YtgpgbiklefkjjaaGreatDoorX28
set_option linter.unusedVariables false
set_option linter.unusedSimpArgs false
namespace Go.Proofs.YtgpgbiklefkjjaaGreatDoor
open Go.Vc Rt Go.Bs
def oneNV (p : NdV) : Prop := p.2.1.oneCell' = true ∧ p.2.2.1.oneCell' = true ∧ p.2.2.2.1.oneCell' = true ∧ p.2.2.2.2.oneCell' = true
abbrev NV1 := { p : NdV // oneNV p }
instance : Inhabited NV1 := ⟨⟨(default, .slice none 0 0, .slice none 0 0, .slice none 0 0, .slice none 0 0), rfl, rfl, rfl, rfl⟩⟩
def encV1 (p : NV1) : List CV := encM p.1
def encVN (p : NV1) : List Value := dens (encV1 p)
def cmpNd (a b : Nd) : Int := Dr.cmpN a.level a.e.author a.e.seq a.mark b.level b.e.author b.e.seq b.mark
def cmpV1 (a b : NV1) : Int := cmpNd a.1.1 b.1.1
def ltN (a b : Nd) : Prop := a.level < b.level ∨ (a.level = b.level ∧ (a.e.author < b.e.author ∨ (a.e.author = b.e.author ∧ (a.e.seq < b.e.seq ∨ (a.e.seq = b.e.seq ∧ a.mark < b.mark)))))
theorem orI4 (a b c d : Int) : orI [a, b, c, d] = if a = 0 then (if b = 0 then (if c = 0 then d else c) else b) else a := by
 unfold orI
 by_cases h1 : a = 0
 ·by_cases h2 : b = 0
  ·by_cases h3 : c = 0
   ·by_cases h4 : d = 0 <;> simp [h1, h2, h3, h4]
   ·simp [h1, h2, h3]
  ·simp [h1, h2]
 ·simp [h1]
theorem cmpNd_neg (a b : Nd) : cmpNd a b < 0 ↔ ltN a b := by
 unfold cmpNd Dr.cmpN ltN
 rw [orI4]
 simp only [cmpI_zero]
 by_cases e1 : a.level = b.level
 ·rw [if_pos e1]
  by_cases e2 : a.e.author = b.e.author
  ·rw [if_pos e2]
   by_cases e3 : a.e.seq = b.e.seq
   ·rw [if_pos e3, cmpI_neg]; omega
   ·rw [if_neg e3, cmpI_neg]; omega
  ·rw [if_neg e2, cmpI_neg]; omega
 ·rw [if_neg e1, cmpI_neg]; omega
theorem ltOf_cmpV1 (a b : NV1) : ltOf cmpV1 a b = true ↔ ltN a.1.1 b.1.1 := by
 unfold ltOf cmpV1
 rw [decide_eq_true_iff]
 exact cmpNd_neg _ _
theorem swoN : Sort.SWO (ltOf cmpV1) where
 irrefl x := by rw [← Bool.not_eq_true, ltOf_cmpV1]; unfold ltN; omega
 trans x y z h1 h2 := by rw [ltOf_cmpV1] at *; unfold ltN at *; omega
 ntrans x y z h1 h2 := by rw [← Bool.not_eq_true, ltOf_cmpV1] at *; unfold ltN at *; omega
theorem cmpN_lays (blk off size : Nat) (w : World) : CmpLays Tryz.prog 38 #[] encVN 18 cmpV1 blk off size w := by
 intro m os dk hs x y
 obtain ⟨⟨⟨k1, t1, m1, e1, l1, p1⟩, kk1, y1, s1, q1⟩, h1⟩ := x
 obtain ⟨⟨⟨k2, t2, m2, e2, l2, p2⟩, kk2, y2, s2, q2⟩, h2⟩ := y
 exact (Dr.compareN_c k1 k2 t1 t2 m1 m2 e1 e2 l1 l2 kk1 y1 s1 q1 kk2 y2 s2 q2 _ h1 h2).mono fun e w' ⟨he, hx⟩ => ⟨he, vdExt_grow hx⟩
theorem encVN_len (p : NV1) : (encVN p).length = 18 := rfl
theorem flatV_get (d : Array NV1) {j : Nat} (hj : j < d.size * 18) : (dens (d.toList.map encV1).flatten)[j]? = some (Sort.flatK encVN 18 d)[j]! := by
 have hlr : ∀ l ∈ d.toList.map encV1, l.length = 18 := fun l hl => by obtain ⟨x, _, rfl⟩ := List.mem_map.1 hl; rfl
 have hq : j / 18 < d.size := by omega
 have e := flatten_get hlr (k := j / 18) (row := encV1 d[j / 18]) (by simp [hq]) (j % 18) (by omega)
 rw [show j / 18 * 18 + j % 18 = j by omega] at e
 rw [Sort.get_flatK _ _ _ _ hj, getElem!_pos d (j / 18) hq]
 have hl : j % 18 < (encVN d[j / 18]).length := by rw [encVN_len]; omega
 rw [getElem!_pos (encVN d[j / 18]) (j % 18) hl]
 simp only [dens, List.getElem?_map, e]
 rw [← List.getElem?_map, ← List.getElem?_eq_getElem hl]
 rfl
theorem sortN_c' (xs : List NV1) (v : Value) (w : World) (h : (LO.row v 80 18 (xs.map encV1)).holds w) (hN : xs.length ≤ 1000000) (hnil : Calls Tryz.prog 37 #[.slice none 0 0, .func (.func 38) #[] #[]] w fun e w' => e = .returned (.tuple #[]) ∧ w' = w) :
  Calls Tryz.prog 37 #[v, .func (.func 38) #[] #[]] w (fun e w' => ∃ ys : List NV1, e = .returned (.tuple #[]) ∧ ys.Perm xs ∧ ys.Pairwise (fun a b => ¬ ltN b.1.1 a.1.1) ∧ (LO.row v 80 18 (ys.map encV1)).holds w' ∧ Fr (blkOf v) w w') := by
 have h' := h
 obtain ⟨⟨hlen, hv⟩, hL⟩ := h
 rcases hv with ⟨rfl, h0⟩ | ⟨g, o, cap, cur, rfl, hg, hnc, hcm, hcs, htake⟩
 ·have hx : xs = [] := List.eq_nil_of_length_eq_zero (by simpa using h0)
  subst hx
  exact hnil.mono fun e w' ⟨he, hw⟩ => ⟨[], he, .nil, .nil, by rw [hw]; exact h', by rw [hw]; exact Fr.refl _ _⟩
 ·simp only [List.length_map] at hnc hcs htake hlen ⊢
  have hgs : g < w.heap.size := (Array.getElem?_eq_some_iff.1 hg).1
  have hcell : ∀ j u, (dens (xs.map encV1).flatten)[j]? = some u → w.cell? ⟨g, o + j, none⟩ = some u := by
   intro j u hu
   have hj : j < xs.length * 18 := by
    rcases Nat.lt_or_ge j (xs.length * 18) with h1 | h1
    ·exact h1
    ·rw [List.getElem?_eq_none (by omega)] at hu; cases hu
   rw [cell_of_row w g _ _ _ _ hg]
   rw [← htake, List.getElem?_take_of_lt hj, List.getElem?_drop] at hu
   simpa using hu
  have hH : Sort.HoldsK encVN 18 w g o xs.toArray := by
   intro j hj
   simp only [Sort.size_flatK, List.size_toArray] at hj
   refine ⟨hcell j _ (flatV_get xs.toArray (by simpa using hj)), ?_⟩
   simp [World.frozen?, hg]
  have eg : ∀ args w, (callFunc 38 args).run Tryz.prog w = .ok (.enter 38 args) w := enters_of Tryz.func38 (by kernel_rfl) rfl
  have hcon := AnyQ.slices_SortFunc Tryz.sortNd 18 (fun w => ok_isAgg (P := Tryz.prog) (t := 80) (d := .struct (Tryz.prog.fieldsOf 80)) (by kernel_rfl) w) (fun w => by
   obtain ⟨i, hi, hs⟩ : ∃ i, Tryz.prog.info? 80 = some i ∧ i.size = 18 := by
    obtain ⟨i, d, hi, _, hs, _⟩ := chk_info (tab_ok 80 _ rfl)
    exact ⟨i, hi, hs⟩
   have := ok_sizeOf (P := Tryz.prog) hi w
   rw [hs] at this
   exact this) encVN (fun _ => rfl) (fun x v hv => by
    obtain ⟨⟨nd, k, y, s, p⟩, h1, h2, h3, h4⟩ := x
    simp only [encVN, encV1, encM, encN, encE, dens, List.map_append, List.map_cons, List.map_nil, List.cons_append, List.nil_append, List.mem_cons, List.not_mem_nil, or_false, CV.den] at hv
    rcases hv with rfl | rfl | rfl | rfl | rfl | rfl | rfl | rfl | rfl | rfl | rfl | rfl | rfl | rfl | rfl | rfl | rfl | rfl <;> first | rfl | assumption) cmpV1 swoN 38 #[] g o cap xs.toArray w eg (cmpN_lays g o _ w) hH hgs (by simp; omega)
  change Calls Tryz.prog 37 _ _ _ at hcon
  refine hcon.mono fun e w' ⟨he, d', n', os, hp, hs, hw⟩ => ⟨d'.toList, he, ?_, ?_, ?_, ?_⟩
  ·have hp3 := hp.2.2
   have e1 : d'.extract 0 xs.toArray.size = d' := by rw [← hp.1]; simp
   have e2 : xs.toArray.extract 0 xs.toArray.size = xs.toArray := by simp
   rw [e1, e2] at hp3
   simpa using hp3
  ·rw [List.pairwise_iff_getElem]
   intro i j hi hj hij hlt
   have := hs i j (Nat.zero_le _) hij (by rw [← hp.1]; simpa using hj)
   rw [getElem!_pos d' j (by simpa using hj), getElem!_pos d' i (by simpa using hi), ← Bool.not_eq_true, ltOf_cmpV1] at this
   exact this (by simpa using hlt)
  all_goals
   have hd : d'.size = xs.length := by rw [hp.1]; simp
   have hheap : w'.heap[g]? = some (.cells (Sort.putCells id o (Sort.flatK encVN 18 d') cur) 80 (0, 0)) := by
    rw [hw]
    simp only [sortWorldK, Sort.grow, Sort.putRowK, Sort.putRow, Sort.mapBlock, Sort.ahead]
    rw [Array.getElem?_append_left (by simpa using hgs), Array.getElem?_modify, if_pos rfl, hg]
    rfl
  ·have hrl : ∀ l ∈ d'.toList.map encV1, l.length = 18 := fun l hl => by obtain ⟨x, _, rfl⟩ := List.mem_map.1 hl; rfl
   have hdl : (dens (d'.toList.map encV1).flatten).length = xs.length * 18 := by simp only [dens, List.length_map]; rw [flatten_len hrl]; simp [hd]
   refine ⟨⟨by rw [hdl]; simp [hd], .inr ⟨g, o, cap, _, by simp [hd], hheap, by simp [hd]; omega, hcm, by simp [Sort.putCells]; exact hcs, ?_⟩⟩, hrl⟩
   apply List.ext_getElem?
   intro j
   by_cases hj : j < xs.length * 18
   ·have e := flatV_get d' (j := j) (by omega)
    rw [List.getElem?_take_of_lt (by simp [hd]; omega), List.getElem?_drop, e]
    have hlt : o + j < cur.size := by
     have : xs.length * 18 ≤ cap * 18 := Nat.mul_le_mul_right _ hnc
     omega
    simp [Sort.putCells, hlt, hd, hj]
   ·rw [List.getElem?_eq_none (by simp [hd]; omega), List.getElem?_eq_none (by omega)]
  ·rw [hw]
   refine ⟨rfl, rfl, rfl, by simp [sortWorldK, Sort.grow, Sort.putRowK], fun k hk hn => ?_⟩
   have hne : g ≠ k := fun e => hn (by simp [blkOf, e])
   simp only [sortWorldK, Sort.grow, Sort.putRowK, Sort.putRow, Sort.mapBlock, Sort.ahead]
   rw [Array.getElem?_append_left (by simpa using hk), Array.getElem?_modify, if_neg hne]
theorem sortN_c (xs : List NV1) (v : Value) (w : World) (h : (LO.row v 80 18 (xs.map encV1)).holds w) (hN : xs.length ≤ 1000000) :
  Calls Tryz.prog 37 #[v, .func (.func 38) #[] #[]] w (fun e w' => ∃ ys : List NV1, e = .returned (.tuple #[]) ∧ ys.Perm xs ∧ ys.Pairwise (fun a b => ¬ ltN b.1.1 a.1.1) ∧ (LO.row v 80 18 (ys.map encV1)).holds w' ∧ Fr (blkOf v) w w') := by
 have hcon := AnyF.slices_SortFunc_none Tryz.sortNd none 0 (.func (.func 38) #[] #[]) w
 change Calls Tryz.prog 37 _ _ _ at hcon
 exact sortN_c' xs v w h hN hcon
end Go.Proofs.YtgpgbiklefkjjaaGreatDoor
namespace Go.Proofs.YtgpgbiklefkjjaaGreatDoor
open Go.Vc Rt Go.Bs
set_option maxHeartbeats 1000000
def nvT : Ty NdV := flat 18 encM (fun _ => rfl)
theorem list_choice {α β : Type} : ∀ (xs : List α) (P : Nat → α → β → Prop), (∀ i x, xs[i]? = some x → ∃ y, P i x y) → ∃ ys : List β, ys.length = xs.length ∧ ∀ i x y, xs[i]? = some x → ys[i]? = some y → P i x y
 | [], P, _ => ⟨[], rfl, fun i x y hx => by simp at hx⟩
 | a :: xs, P, h => by
  obtain ⟨b, hb⟩ := h 0 a rfl
  obtain ⟨ys, hl, hy⟩ := list_choice xs (fun i => P (i + 1)) fun i x hx => h (i + 1) x (by simpa using hx)
  refine ⟨b :: ys, by simp [hl], fun i x y hx hy' => ?_⟩
  cases i with
  | zero => simp at hx hy'; subst hx; subst hy'; exact hb
  | succ i => exact hy i x y (by simpa using hx) (by simpa using hy')
theorem nv_of {S : List Nat} {w : World} {v : Value} {N : List Nd} (h : SlOf ndT S w v N) : ∃ VM : List NV1, ndsM (VM.map (·.1)) = N ∧ SlOf nvT S w v (VM.map (·.1)) := by
 obtain ⟨ys, hl, hy⟩ := list_choice (β := NV1) N (fun i x p => p.1.1 = x ∧ ECells w v 18 i 0 (encM p.1)) (fun i x hx => by
  obtain ⟨l, ⟨k, y, s, p, rfl, hin, hp⟩, hc⟩ := h.elem i x hx
  exact ⟨⟨(x, k, y, s, p), hin.k.one, hin.y.one, hin.s.one, hp.one⟩, rfl, hc⟩)
 refine ⟨ys, ?_, ⟨h.sl, ?_, ?_, ?_, ?_⟩⟩
 ·unfold ndsM
  rw [List.map_map]
  apply List.ext_getElem?
  intro i
  rw [List.getElem?_map]
  cases hx : N[i]? with
  | none => rw [List.getElem?_eq_none (by rw [hl]; exact List.getElem?_eq_none_iff.1 hx)]; rfl
  | some x =>
   have hi := (List.getElem?_eq_some_iff.1 hx).1
   rw [List.getElem?_eq_getElem (by omega)]
   simp only [Option.map_some, Function.comp_apply]
   rw [(hy i x _ hx (List.getElem?_eq_getElem (by omega))).1]
 ·rw [h.len, List.length_map, hl]
 ·rw [List.length_map, hl]; exact h.small
 ·intro a n c e hp
  exact h.av a n c e (by rw [List.length_map, hl] at hp; exact hp)
 ·intro i p hp
  rw [List.getElem?_map] at hp
  cases hq : ys[i]? with
  | none => rw [hq] at hp; cases hp
  | some q =>
   rw [hq] at hp
   simp only [Option.map_some, Option.some.injEq] at hp
   subst hp
   have hi := (List.getElem?_eq_some_iff.1 hq).1
   exact ⟨encM q.1, rfl, (hy i _ q (List.getElem?_eq_getElem (by omega)) hq).2⟩
theorem _root_.Go.Vc.SlOf.srcO {α : Type} {S : List Nat} {w : World} {v : Value} {xs : List α} {size : Nat} {enc : α → List CV} {hl : ∀ x, (enc x).length = size} (h : SlOf (flat size enc hl) S w v xs) (ho : ∀ x ∈ xs, ∀ c ∈ enc x, c.den.oneCell' = true) : SrcOk w v size (xs.map enc) := by
 refine ⟨fun l hl' => ?_, fun l hl' c hc => ?_, ?_⟩
 ·obtain ⟨x, _, rfl⟩ := List.mem_map.1 hl'; exact hl x
 ·obtain ⟨x, hx, rfl⟩ := List.mem_map.1 hl'; exact ho x hx c hc
 ·obtain ⟨a, n, c, rfl, hnil, hc⟩ := h.sl
  cases a with
  | none =>
   obtain ⟨rfl, rfl⟩ := hnil rfl
   have hl0 := h.len
   simp only [slen] at hl0
   have : xs = [] := List.eq_nil_of_length_eq_zero (by omega)
   subst this
   exact .inr ⟨rfl, rfl⟩
  | some a =>
   have hn : n = xs.length := by have := h.len; simp only [slen] at this; omega
   subst hn
   refine .inl ⟨a, c, by simp, fun j x hx => ?_⟩
   have hlr : ∀ l ∈ xs.map enc, l.length = size := fun l hl' => by obtain ⟨x, _, rfl⟩ := List.mem_map.1 hl'; exact hl x
   have hjl : j < xs.length * size := by
    rcases Nat.lt_or_ge j (xs.length * size) with h' | h'
    ·exact h'
    ·rw [List.getElem?_eq_none (by simp only [dens, List.length_map]; rw [flatten_len hlr, List.length_map]; exact h')] at hx; cases hx
   have hpos : 0 < size := Nat.pos_of_ne_zero fun h0 => by subst h0; simp at hjl
   have hq : j / size < xs.length := Nat.div_lt_of_lt_mul (by rw [Nat.mul_comm]; exact hjl)
   have hr := Nat.mod_lt j hpos
   have hj : j / size * size + j % size = j := by rw [Nat.mul_comm]; exact Nat.div_add_mod j size
   obtain ⟨l, h1, h2⟩ := h.elem (j / size) _ (List.getElem?_eq_getElem hq)
   cases h1
   have e := flatten_get hlr (k := j / size) (row := enc xs[j / size]) (by simp [hq]) (j % size) hr
   rw [hj] at e
   have e2 : (dens (enc xs[j / size]))[j % size]? = some x := by
    simp only [dens, List.getElem?_map] at hx ⊢
    rw [← e]; exact hx
   have := h2 a _ c rfl (j % size) x e2
   rw [← this]
   congr 1
   unfold elemAddr
   simp only [Int.toNat_natCast, add_add]
   show a.add j = a.add (j / size * size + 0 + j % size)
   rw [Nat.add_zero, hj]
theorem one_encM (q : NV1) : ∀ c ∈ encM q.1, c.den.oneCell' = true := by
 obtain ⟨⟨nd, k, y, s, p⟩, h1, h2, h3, h4⟩ := q
 intro c hc
 simp only [encM, encN, encE, List.cons_append, List.nil_append, List.mem_cons, List.not_mem_nil, or_false] at hc
 rcases hc with rfl | rfl | rfl | rfl | rfl | rfl | rfl | rfl | rfl | rfl | rfl | rfl | rfl | rfl | rfl | rfl | rfl | rfl <;> first | rfl | assumption
theorem nopV1 (xs : List NV1) : NoP (xs.map encV1) := NoP.map (fun _ => rfl) xs
theorem cloneN_c (VM : List NV1) (S : List Nat) (v : Value) (w : World) (h : SlOf nvT S w v (VM.map (·.1))) (hB : VM.length ≤ 1000000) : AnsR Tryz.prog 36 [v] [.row 80 18 (VM.map encV1)] w := by
 replace h := h.avoid (S' := []) (fun b hb => by cases hb)
 have hsrc : (VM.map (·.1)).map encM = VM.map encV1 := by rw [List.map_map]; rfl
 refine calls_plainB [.x v] Tryz.func36 rfl rfl (Nat.le_of_ble_eq_true rfl) rfl fun B hB => ?_
 repeat refine zq ?_
 refine zr ?_; conv => whnf
 repeat refine zq ?_
 refine zr ?_; conv => whnf
 refine ⟨h.sl, ?_⟩; conv => whnf
 repeat refine zq ?_
 refine At.cond rfl (fun hq => ?_) (fun hq => ?_)
 ·have hx : VM = [] := by
   obtain ⟨a, n, c, rfl, hnil, _⟩ := h.sl
   have hl := h.len
   rw [List.length_map] at hl
   cases a with
   | none => simp [slen] at hl; exact List.eq_nil_of_length_eq_zero (by omega)
   | some a => simp [isNilS] at hq
  subst hx
  repeat refine zq ?_
  refine zr ?_; conv => whnf
  repeat refine zq ?_
  refine At.ret (At.doneB tab_ok hB _ rfl fun w' hw => ansR_nil hw rfl rfl)
 ·refine At.skip ?_
  repeat refine zq ?_
  refine zr ?_; conv => whnf
  intro v1; conv => whnf
  refine ⟨VM.map encV1, ⟨fun w' hw => hsrc ▸ (h.fr hw.fr).srcO (fun p hp => by obtain ⟨q, _, rfl⟩ := List.mem_map.1 hp; exact one_encM q), nopV1 VM⟩, ?_⟩; conv => whnf
  refine ⟨⟨rfl, by simp; omega⟩, ?_⟩; conv => whnf
  intro v2; conv => whnf
  repeat refine zq ?_
  refine At.ret (At.doneB tab_ok hB _ rfl fun w' hw => ansR_row (id := 0) hw rfl rfl rfl)
def addAll (R : List SK) : List Nd → List Nd → List Nd × Int
 | N, [] => (N, 0)
 | N, n :: r => if (addB R N n.key n.text n.mark).2 = 0 then addAll R (addB R N n.key n.text n.mark).1 r else addB R N n.key n.text n.mark
theorem join_c (h rb : Nat) (B : List Nat) (N : List Nd) (hN : NOk N) (g rb2 : Nat) (N2 : List Nd) (hN2 : NOk N2) (R : List SK) (w : World) (hG : Gl w) (H : (histO h rb B N).holds w) (H2 : HR (nub B) w g rb2 N2) (hR : RgR B w rb R) :
  Calls Tryz.prog 13 #[ptr h, ptr g] w (fun e w' => ∃ L B', e = .returned (vI (addAll R N L).2) ∧ L.Perm N2 ∧ L.Pairwise (fun a b => ¬ ltN b a) ∧ (histO h rb B' (addAll R N L).1).holds w' ∧ Fr (nub B) w w' ∧ ∀ b ∈ nub B', b ∈ nub B ∨ w.heap.size ≤ b) := by
 have h8 := (histO_at H).1
 obtain ⟨v, m, hb, hv, hmp, _⟩ := H2.out
 obtain ⟨VM, hVM, hvm⟩ := nv_of hv
 have hVl : VM.length ≤ 4000 := by have := hN2.len; rw [← hVM] at this; simpa [ndsM] using this
 have hen := enter_objs (N := Tryz.f13.ntmps) (l := [.x (ptr h), .x (ptr g)]) (hp := [(0, histO h rb B N)]) (w := w) (fun o ho => by rw [List.mem_singleton.1 ho]; exact H) (by simp [histO, LO.blks, nub_nodup])
 have hS : ([(0, histO h rb B N)].flatMap fun o => o.2.blks) = nub B := by simp [histO, LO.blks]
 rw [hS] at hen
 refine calls_atB [.x (ptr h), .x (ptr g)] [(0, histO h rb B N)] (nub B) Tryz.func13 rfl rfl (Nat.le_of_ble_eq_true rfl) (WF.objs hen trivial trivial) hen fun B0 hB => ?_
 repeat refine zq ?_
 refine zr ?_; conv => whnf
 repeat refine zq ?_
 refine zr ?_; conv => whnf
 repeat refine zq ?_
 refine At.join (fun u : Unit => { N := Tryz.f13.ntmps, sl := [(0, some (.x ((ptr h)))), (1, some (.s (.c (.e (hs g) 3 0 0))))], gl := [], hp := [(0, histO h rb B N)], S := (nub B), ws := w }) (fun u : Unit => True) ?_ ?_
 ·refine At.cond (t := false) rfl (fun hq => by cases hq) (fun _ => At.skip ?_)
  refine At.meet fun w' hw => ⟨(), trivial, Le.of rfl rfl ⟨rfl, rfl, trivial⟩, hw.keep [0] rfl rfl rfl, ⟨⟨_, _, _, rfl⟩, trivial⟩, trivial⟩
 rintro ⟨⟩ _
 repeat refine zq ?_
 refine zr ?_; conv => whnf
 refine ⟨[.x v], fun w' hw => hb.load (n := 1) (i := 0) (off := 1) hw.fr rfl rfl, ?_⟩; conv => whnf
 refine ansR_call b36 (rd1 (nopV1 _)) (fun w' hw => cloneN_c VM (nub B) v w' (hvm.fr hw.fr) (by omega)) ?_
 intro vl; conv => whnf
 repeat refine zq ?_
 refine zr ?_; conv => whnf
 refine row_call (id := 1) b37 rfl (fun r v' L' => r = .tup [] ∧ v' = vl ∧ ∃ ys : List NV1, L' = ys.map encV1 ∧ ys.Perm VM ∧ ys.Pairwise (fun a b => ¬ ltN b.1.1 a.1.1)) (fun w' hw => ?_) ?_
 ·refine (sortN_c VM vl w' (hw.row (id := 1) rfl) (by omega)).mono ?_
  rintro e w'' ⟨ys, he, h1, h2, h3, h4⟩
  exact ⟨.tup [], vl, _, he, ⟨rfl, rfl, ys, rfl, h1, h2⟩, h3, h4, fun b hb => .inl hb⟩
 rintro r v3 L' ⟨rfl, rfl, ys, rfl, hperm, hsort⟩ hsl'
 refine ⟨fun v hv => (by cases hv), nopV1 _, ?_⟩; conv => whnf
 have hyl : ys.length = VM.length := hperm.length_eq
 generalize hL : ys.map (fun p => p.1.1) = L
 have hLl : L.length = ys.length := by rw [← hL, List.length_map]
 have hLp : L.Perm N2 := by rw [← hL, ← hVM]; unfold ndsM; rw [List.map_map]; exact hperm.map _
 have hLs : L.Pairwise (fun a b => ¬ ltN b a) := by rw [← hL, List.pairwise_map]; exact hsort
 repeat refine zq ?_
 refine zr ?_; conv => whnf
 refine ⟨rfl, ?_⟩; conv => whnf
 repeat refine zq ?_
 refine At.block ?_
 refine At.loopH (fun p' : Nat × List Nd × List Nat => { N := Tryz.f13.ntmps, sl := [(0, some (.x ((ptr h)))), (18, some (.s (.c (.o 1 v3)))), (19, some (.i ys.length)), (20, some (.i p'.1))], gl := [], hp := [(1, .row v3 80 18 (ys.map encV1)), (0, histO h rb p'.2.2 p'.2.1)], S := (nub B), ws := w }) (fun p' : Nat × List Nd × List Nat => p'.1 ≤ ys.length ∧ NOk p'.2.1 ∧ addAll R p'.2.1 (L.drop p'.1) = addAll R N L) (fun p' : Nat × List Nd × List Nat => ys.length - p'.1)
  (fun w' hw => ⟨(0, N, B), ⟨Nat.zero_le _, hN, rfl⟩, Le.of rfl rfl ⟨rfl, rfl, congrArg (Value.int .i64) (by simp), rfl, trivial⟩, hw.keep [1, 0] rfl rfl rfl, ⟨⟨_, _, _, rfl⟩, trivial⟩, ⟨(nopV1 _).okH, trivial⟩⟩) ?_
 rintro ⟨k, Na, BB⟩ ⟨hk, hNa, hinv⟩
 simp only at hk hNa hinv ⊢
 repeat refine zq ?_
 refine zr ?_; conv => whnf
 repeat refine zq ?_
 refine At.cond rfl (fun hc => At.skip ?_) (fun hc => At.exit ?_)
 ·have hlty : k < ys.length := by have := of_decide_eq_true hc; omega
  obtain ⟨y, hy⟩ : ∃ x, ys[k]? = some x := ⟨_, List.getElem?_eq_getElem hlty⟩
  have hlt : k < ys.length := by have := of_decide_eq_true hc; omega
  have hLk : L[k]? = some y.1.1 := by rw [← hL, List.getElem?_map, hy]; rfl
  have hdr : L.drop k = y.1.1 :: L.drop (k + 1) := by
   rw [List.drop_eq_getElem_cons (by omega)]
   rw [List.getElem?_eq_getElem (by omega)] at hLk
   rw [Option.some.inj hLk]
  obtain ⟨j, hj⟩ := List.getElem?_of_mem (hLp.mem_iff.1 (List.mem_of_getElem? hLk))
  obtain ⟨_, _, _, _, _, hsk, htl, hmr⟩ := hN2.nd j _ hj
  rw [hdr] at hinv
  have hone := y.2
  repeat refine zq ?_
  refine At.block ?_
  repeat refine zq ?_
  refine zr ?_; conv => whnf
  refine ⟨rfl, ?_⟩; conv => whnf
  refine ⟨by omega, ?_⟩; conv => whnf
  refine ⟨by (try simp only [List.length_map]); omega, ?_⟩; conv => whnf
  refine ⟨encV1 y, ⟨rfl, rfl, by omega, by rw [Int.toNat_natCast, List.getElem?_map, hy]; rfl⟩, ?_⟩; conv => whnf
  intro b7; conv => whnf
  refine ⟨hone.1, ?_⟩; conv => whnf
  refine ⟨hone.2.1, ?_⟩; conv => whnf
  refine ⟨hone.2.2.1, ?_⟩; conv => whnf
  refine ⟨hone.2.2.2, ?_⟩; conv => whnf
  repeat refine zq ?_
  refine zr ?_; conv => whnf
  refine add_call (id := 0) (h := h) (rb := rb) (B := BB) (N := Na) (R := R) (k := y.1.1.key) (mk := y.1.1.mark) (t := y.1.1.text) rfl hNa hsk htl (fun w' hw => hG.fr hw.fr fun b hb => h8 b (mem_nub.1 hb)) (fun w' hw => (hw.liftR (hR.avoid fun b hb => .inl (mem_nub.1 hb))).avoid fun b hb => .inl (List.mem_flatMap.2 ⟨_, look_mem (s := 0) rfl, mem_nub.2 hb⟩)) ?_
  intro B3; conv => whnf
  have hna := nok_add (R := R) (k := y.1.1.key) (mk := y.1.1.mark) (t := y.1.1.text) hNa hsk htl hmr
  repeat refine zq ?_
  refine zr ?_; conv => whnf
  repeat refine zq ?_
  refine At.cond rfl (fun hq => ?_) (fun hq => At.skip ?_)
  ·have hq1 : (addB R Na y.1.1.key y.1.1.text y.1.1.mark).2 ≠ 0 := by simpa using hq
   have hres : addAll R N L = addB R Na y.1.1.key y.1.1.text y.1.1.mark := by rw [← hinv]; unfold addAll; rw [if_neg hq1]
   repeat refine zq ?_
   refine zr ?_; conv => whnf
   repeat refine zq ?_
   refine At.ret (At.doneB tab_ok hB _ rfl fun w' hw => ?_)
   refine ⟨L, B3, ?_, hLp, hLs, ?_, hw.fr, fun b hb => hw.fresh (id := 0) rfl b hb⟩
   ·rw [hres]; rfl
   ·rw [hres]; exact hw.objs _ (look_mem (s := 0) rfl)
  ·have hq1 : (addB R Na y.1.1.key y.1.1.text y.1.1.mark).2 = 0 := by simpa using hq
   have hinv' : addAll R (addB R Na y.1.1.key y.1.1.text y.1.1.mark).1 (L.drop (k + 1)) = addAll R N L := by rw [← hinv]; conv => rhs; unfold addAll; rw [if_pos hq1]
   repeat refine zq ?_
   refine zr ?_; conv => whnf
   refine ⟨⟨by omega, by omega⟩, ?_⟩; conv => whnf
   refine At.nextH fun w' hw => ⟨(k + 1, (addB R Na y.1.1.key y.1.1.text y.1.1.mark).1, B3), ⟨by simp only; omega, hna, hinv'⟩, by simp only; omega, Le.of rfl rfl ⟨rfl, rfl, rfl, rfl, trivial⟩, hw.keep [1, 0] rfl rfl rfl, ⟨⟨_, _, _, rfl⟩, trivial⟩, ⟨(nopV1 _).okH, trivial⟩⟩
 ·have hge : k = ys.length := by have := of_decide_eq_false hc; omega
  subst hge
  rw [← hLl, List.drop_length] at hinv
  repeat refine zq ?_
  refine zr ?_; conv => whnf
  repeat refine zq ?_
  refine At.ret (At.doneB tab_ok hB _ rfl fun w' hw => ?_)
  refine ⟨L, BB, ?_, hLp, hLs, ?_, hw.fr, fun b hb => hw.fresh (id := 0) rfl b hb⟩
  ·rw [← hinv]; rfl
  ·rw [← hinv]; exact hw.objs _ (look_mem (s := 0) rfl)
end Go.Proofs.YtgpgbiklefkjjaaGreatDoor
namespace Go.Vc
theorem hpSet_split : ∀ {hp : List (Nat × LO)} {i : Nat} {o : LO}, look hp i = some o → ∃ l1 l2, hp = l1 ++ (i, o) :: l2 ∧ ∀ o', hpSet hp i o' = l1 ++ (i, o') :: l2
 | [], _, _, h => by cases h
 | (t, v) :: r, i, o, h => by
  simp only [look] at h
  split at h
  ·rename_i e
   cases h
   have := Nat.eq_of_beq_eq_true e
   subst this
   exact ⟨[], r, rfl, fun o' => by simp [hpSet]⟩
  ·rename_i e
   obtain ⟨l1, l2, e1, e2⟩ := hpSet_split h
   refine ⟨(t, v) :: l1, l2, by rw [e1]; rfl, fun o' => ?_⟩
   have : hpSet ((t, v) :: r) i o' = (t, v) :: hpSet r i o' := by simp [hpSet, e]
   rw [this, e2]; rfl
theorem LO.blks_nodup : ∀ o : LO, o.blks.Nodup
 | .box b _ _ => by simp [LO.blks]
 | .row v _ _ _ => by simp only [LO.blks]; unfold blkOf; split <;> simp
 | .ab B _ => nub_nodup B
theorem flat_perm {α β : Type} (f : α → List β) (l1 l2 : List α) (x : α) : (List.flatMap f (l1 ++ x :: l2)).Perm (f x ++ List.flatMap f (l1 ++ l2)) := by
 rw [List.flatMap_append, List.flatMap_cons, List.flatMap_append, ← List.append_assoc, ← List.append_assoc]
 exact List.perm_append_comm.append_right _
theorem hpSet_cons_eq {t i : Nat} {v o : LO} {r : List (Nat × LO)} : hpSet ((t, v) :: r) i o = if t = i then (t, o) :: r else (t, v) :: hpSet r i o := by
 by_cases h : t = i
 ·subst h; simp [hpSet]
 ·have hb : Nat.beq t i = false := by rw [← Bool.not_eq_true, Nat.beq_eq]; exact h
  simp [hpSet, h, hb]
theorem hpSet_comm {i j : Nat} {a b : LO} (hne : i ≠ j) : ∀ hp : List (Nat × LO), hpSet (hpSet hp i a) j b = hpSet (hpSet hp j b) i a
 | [] => rfl
 | (t, v) :: r => by
  by_cases h1 : t = i
  ·subst h1
   simp only [hpSet_cons_eq, if_true, if_neg hne]
  ·by_cases h2 : t = j
   ·subst h2; simp only [hpSet_cons_eq, if_true, if_neg h1]
   ·simp only [hpSet_cons_eq, if_neg h1, if_neg h2, hpSet_comm hne r]
theorem hpSet_idem {i : Nat} {a b : LO} : ∀ hp : List (Nat × LO), hpSet (hpSet hp i a) i b = hpSet hp i b
 | [] => rfl
 | (t, v) :: r => by
  by_cases h1 : t = i
  ·subst h1; simp only [hpSet_cons_eq, if_true]
  ·simp only [hpSet_cons_eq, if_neg h1, hpSet_idem r]
theorem mem_split {α : Type} {l1 l2 : List α} {x q : α} (h : q ∈ l1 ++ x :: l2) : q = x ∨ q ∈ l1 ++ l2 := by
 rcases List.mem_append.1 h with h | h
 ·exact .inr (List.mem_append.2 (.inl h))
 ·exact (List.mem_cons.1 h).imp id fun h => List.mem_append.2 (.inr h)
theorem mem_unsplit {α : Type} {l1 l2 : List α} {x q : α} (h : q ∈ l1 ++ l2) : q ∈ l1 ++ x :: l2 := by
 rcases List.mem_append.1 h with h | h
 ·exact List.mem_append.2 (.inl h)
 ·exact List.mem_append.2 (.inr (List.mem_cons_of_mem _ h))
theorem look_hpSet_same' {i : Nat} {o' : LO} : ∀ {hp : List (Nat × LO)} {o : LO}, look hp i = some o → look (hpSet hp i o') i = some o'
 | [], _, h => by cases h
 | (t, v) :: r, o, h => by
  by_cases h1 : t = i
  ·subst h1; simp [hpSet_cons_eq, look]
  ·rw [hpSet_cons_eq, if_neg h1]
   have hb : Nat.beq t i = false := by rw [← Bool.not_eq_true, Nat.beq_eq]; exact h1
   simp only [look, hb] at h ⊢
   exact look_hpSet_same' h
theorem Holds.set2F {st : St} {w w' : World} {i1 i2 : Nat} {o1 o1' o2 o2' : LO} (h : Holds st w) (hl1 : look st.hp i1 = some o1) (hl2 : look st.hp i2 = some o2) (hne : i2 ≠ i1) (hf : Fr (o1.blks ++ o2.blks) w w')
  (ho1 : o1'.holds w') (ho2 : o2'.holds w') (hb1 : ∀ b ∈ o1'.blks, b ∈ o1.blks ++ o2.blks ∨ w.heap.size ≤ b) (hb2 : ∀ b ∈ o2'.blks, b ∈ o1.blks ++ o2.blks ∨ w.heap.size ≤ b) (hd : ∀ b ∈ o1'.blks, b ∉ o2'.blks) :
  Holds (st.setHp (hpSet (hpSet st.hp i1 o1') i2 o2')) w' := by
 have lt := h.blk_lt
 let D : LO := .ab [] (fun _ => True)
 obtain ⟨a1, a2, e1, e1'⟩ := hpSet_split hl1
 have hl2' : look (hpSet st.hp i1 D) i2 = some o2 := by rw [look_hpSet_other hne]; exact hl2
 obtain ⟨b1, b2, e2, e2'⟩ := hpSet_split hl2'
 have hl1' : look (hpSet (hpSet st.hp i1 D) i2 o2') i1 = some D := by rw [look_hpSet_other (Ne.symm hne)]; exact look_hpSet_same' hl1
 obtain ⟨c1, c2, e3, e3'⟩ := hpSet_split hl1'
 have hfin : hpSet (hpSet st.hp i1 o1') i2 o2' = c1 ++ (i1, o1') :: c2 := by
  rw [← e3', hpSet_comm hne, hpSet_idem]
 let f : Nat × LO → List Nat := fun o => o.2.blks
 have hp0 : (List.flatMap f st.hp).Perm (o1.blks ++ List.flatMap f (a1 ++ a2)) := by rw [e1]; exact flat_perm f a1 a2 (i1, o1)
 have hpD : (List.flatMap f (hpSet st.hp i1 D)).Perm (List.flatMap f (a1 ++ a2)) := by rw [e1' D]; exact flat_perm f a1 a2 (i1, D)
 have hpD2 : (List.flatMap f (hpSet st.hp i1 D)).Perm (o2.blks ++ List.flatMap f (b1 ++ b2)) := by rw [e2]; exact flat_perm f b1 b2 (i2, o2)
 have hpX : (List.flatMap f (hpSet (hpSet st.hp i1 D) i2 o2')).Perm (o2'.blks ++ List.flatMap f (b1 ++ b2)) := by rw [e2' o2']; exact flat_perm f b1 b2 (i2, o2')
 have hpX2 : (List.flatMap f (hpSet (hpSet st.hp i1 D) i2 o2')).Perm (List.flatMap f (c1 ++ c2)) := by rw [e3]; exact flat_perm f c1 c2 (i1, D)
 have hpF : (List.flatMap f (hpSet (hpSet st.hp i1 o1') i2 o2')).Perm (o1'.blks ++ List.flatMap f (c1 ++ c2)) := by rw [hfin]; exact flat_perm f c1 c2 (i1, o1')
 have P0 : (List.flatMap f st.hp).Perm (o1.blks ++ (o2.blks ++ List.flatMap f (b1 ++ b2))) := hp0.trans ((hpD.symm.trans hpD2).append_left _)
 have P1 : (List.flatMap f (hpSet (hpSet st.hp i1 o1') i2 o2')).Perm (o1'.blks ++ (o2'.blks ++ List.flatMap f (b1 ++ b2))) := hpF.trans ((hpX2.symm.trans hpX).append_left _)
 have nd0 := P0.nodup_iff.1 h.nodup
 obtain ⟨n1, n2, n3⟩ := List.nodup_append.1 nd0
 obtain ⟨n4, n5, n6⟩ := List.nodup_append.1 n2
 have hR : ∀ x ∈ List.flatMap f (b1 ++ b2), x ∈ st.blks ∧ x ∉ o1.blks ++ o2.blks := fun x hx => ⟨P0.mem_iff.2 (List.mem_append.2 (.inr (List.mem_append.2 (.inr hx)))), fun hm => (List.mem_append.1 hm).elim (fun hm => n3 x hm x (List.mem_append.2 (.inr hx)) rfl) (fun hm => n6 x hm x hx rfl)⟩
 have ndn : (o1'.blks ++ (o2'.blks ++ List.flatMap f (b1 ++ b2))).Nodup := List.nodup_append.2 ⟨LO.blks_nodup _, List.nodup_append.2 ⟨LO.blks_nodup _, n5, fun x hx y hy e => by
   subst e
   rcases hb2 x hx with hx' | hx'
   ·exact (hR x hy).2 hx'
   ·have := lt x (hR x hy).1; omega⟩, fun x hx y hy e => by
   subst e
   rcases List.mem_append.1 hy with hy | hy
   ·exact hd x hx hy
   ·rcases hb1 x hx with hx' | hx'
    ·exact (hR x hy).2 hx'
    ·have := lt x (hR x hy).1; omega⟩
 have hsub : ∀ b ∈ o1.blks ++ o2.blks, b ∈ st.blks := fun b hb => (List.mem_append.1 hb).elim (fun hb' => List.mem_flatMap.2 ⟨_, look_mem hl1, hb'⟩) (fun hb' => List.mem_flatMap.2 ⟨_, look_mem hl2, hb'⟩)
 have hall : ∀ b ∈ List.flatMap f (hpSet (hpSet st.hp i1 o1') i2 o2'), b ∈ st.blks ∨ w.heap.size ≤ b := fun b hb => by
  rcases List.mem_append.1 (P1.mem_iff.1 hb) with hb | hb
  ·exact (hb1 b hb).imp (hsub b) id
  ·rcases List.mem_append.1 hb with hb | hb
   ·exact (hb2 b hb).imp (hsub b) id
   ·exact .inl (hR b hb).1
 refine ⟨fun q hq => ?_, P1.nodup_iff.2 ndn, h.fr.trans' hf (fun b hb' => h.own b (hsub b hb')), fun b hb' => (hall b hb').elim (h.own b) (fun hb => .inr (Nat.le_trans h.fr.size hb))⟩
 have hq' : q ∈ hpSet (hpSet st.hp i1 o1') i2 o2' := hq
 rw [hfin] at hq'
 rcases mem_split hq' with rfl | hq1
 ·exact ho1
 ·have hqX : q ∈ hpSet (hpSet st.hp i1 D) i2 o2' := by rw [e3]; exact mem_unsplit hq1
  rw [e2' o2'] at hqX
  rcases mem_split hqX with rfl | hq2
  ·exact ho2
  ·have hqD : q ∈ hpSet st.hp i1 D := by rw [e2]; exact mem_unsplit hq2
   rw [e1' D] at hqD
   rcases mem_split hqD with rfl | hq3
   ·exact ⟨fun b hb => (by cases hb), fun _ _ => trivial⟩
   ·have hqh : q ∈ st.hp := by rw [e1]; exact mem_unsplit hq3
    exact LO.frame hf (h.objs q hqh) fun b hb hm => (hR b (List.mem_flatMap.2 ⟨q, hq2, hb⟩)).2 hm
theorem two_callF {P : Program} {f : FuncId} {args : List Value} {st : St} {d : Option Nat} {K : St → Prop} {i1 i2 : Nat} {o1 o2 : LO} (hb : Body P f) (hl1 : look st.hp i1 = some o1) (hl2 : look st.hp i2 = some o2) (hne : i2 ≠ i1)
  (Good : RV → LO → LO → Prop)
  (h : ∀ w, Holds st w → Calls P f args.toArray w (fun e w' => ∃ r o1' o2', e = .returned (RV.den r) ∧ Good r o1' o2' ∧ o1'.holds w' ∧ o2'.holds w' ∧ Fr (o1.blks ++ o2.blks) w w' ∧ (∀ b ∈ o1'.blks, b ∈ o1.blks ++ o2.blks ∨ w.heap.size ≤ b) ∧ (∀ b ∈ o2'.blks, b ∈ o1.blks ++ o2.blks ∨ w.heap.size ≤ b) ∧ (∀ b ∈ o1'.blks, b ∉ o2'.blks)))
  (hk : ∀ r o1' o2', Good r o1' o2' → (Stays o1 o1' ∧ Stays o2 o2' ∧ LOok st.hp o1' ∧ LOok (hpSet st.hp i1 o1') o2' ∧ RVok (hpSet (hpSet st.hp i1 o1') i2 o2') r) ∧ hpSetK st.hp i1 o1' (fun hp1 => hpSetK hp1 i2 o2' (fun hp => st.withHp hp (fun st' => goPut st' d r K)))) : UCall P st f args d K :=
 .inl ⟨hb, fun hwf w hw => (h w hw).mono fun e w' ⟨r, o1', o2', he, hg, hh1, hh2, hf, hbl1, hbl2, hdd⟩ => by
  obtain ⟨⟨s1, s2, k1, k2, k3⟩, hK⟩ := hk r o1' o2' hg
  rw [hpSetK_eq, hpSetK_eq] at hK
  have wf1 : WF (st.setHp (hpSet st.hp i1 o1')) := hwf.setO hl1 s1 k1
  have hl2' : look (st.setHp (hpSet st.hp i1 o1')).hp i2 = some o2 := by show look (hpSet st.hp i1 o1') i2 = _; rw [look_hpSet_other hne]; exact hl2
  have wf2 := wf1.setO hl2' s2 k2
  exact ⟨r, st.setHp (hpSet (hpSet st.hp i1 o1') i2 o2'), he, ⟨rfl, rfl, rfl, rfl⟩, wf2, k3, hw.set2F hl1 hl2 hne hf hh1 hh2 hbl1 hbl2 hdd, hK⟩⟩
end Go.Vc
namespace Go.Proofs.YtgpgbiklefkjjaaGreatDoor
open Go.Vc Rt Go.Bs
set_option maxHeartbeats 1000000
def sgT (R : List SK) (k : Int) (t : List UInt8) : Int × List UInt8 × Int := if isKeyB k then (k, t, signM R k t) else (0, [], 0)
theorem signV_eq (R : List SK) (k : Int) (t : List UInt8) : signV R k t = vSg (sgT R k t).1 (sgT R k t).2.1 (sgT R k t).2.2 := by
 unfold signV sgT; split <;> rfl
theorem sign_call {st : St} {d : Option Nat} {K : St → Prop} {id rb : Nat} {B : List Nat} {R : List SK} {k : Int} {t : List UInt8} (hl : Vc.look st.hp id = some (ringO rb B R)) (hk : okSK (k, t)) (hRl : R.length ≤ 1000000) (h8 : ∀ w, Holds st w → 8 ≤ w.heap.size)
  (hK : ∀ B', hpSetK st.hp id (ringO rb B' (signL R k t)) (fun hp => st.withHp hp (fun st' => goPut st' d (.s (.agg [.i (sgT R k t).1, .s (sgT R k t).2.1, .i (sgT R k t).2.2])) K))) : UCall Tryz.prog st 30 [ptr rb, vI k, sv t] d K :=
 obj_call (id := id) (o := ringO rb B R) b30 hl (fun r o' => r = .s (.agg [.i (sgT R k t).1, .s (sgT R k t).2.1, .i (sgT R k t).2.2]) ∧ ∃ B', o' = ringO rb B' (signL R k t))
  (fun w hw => by
   obtain ⟨hB8, v, m, hat, hsub⟩ := ringO_at (hw.objs _ (look_mem hl))
   refine (sign_c rb v m R k t hk hRl w hat).mono ?_
   rintro e w' ⟨v', he, hat', hf, hnew⟩
   have hn : ∀ x ∈ partsR rb v' m, x ∈ B ∨ w.heap.size ≤ x := by
    intro x hx
    rcases List.mem_cons.1 hx with rfl | hx
    ·exact .inl (hsub _ (by simp [partsR]))
    ·rcases List.mem_append.1 hx with hx | hx
     ·exact (hnew x hx).imp (fun hx => hsub _ (by simp [partsR, hx])) _root_.id
     ·exact .inl (hsub _ (by rw [List.mem_singleton.1 hx]; simp [partsR]))
   refine ⟨.s (.agg [.i (sgT R k t).1, .s (sgT R k t).2.1, .i (sgT R k t).2.2]), ringO rb (partsR rb v' m) (signL R k t), ?_, ⟨rfl, _, rfl⟩, ringO_of hat' fun x hx => (hn x hx).elim (hB8 x) (fun h => Nat.le_trans (h8 w hw) h), hf.mono fun b hb => .inl (mem_nub.2 (hsub b hb)), fun b hb => (hn b (mem_nub.1 hb)).imp mem_nub.2 _root_.id⟩
   rw [he, signV_eq]; rfl)
  (fun r o' ⟨hr, B', ho⟩ => by
   subst hr; subst ho
   exact ⟨⟨fun b T cells e => (by unfold ringO at e; cases e), trivial, fun c hc => by simp only [List.mem_cons, List.not_mem_nil, or_false] at hc; rcases hc with rfl | rfl | rfl <;> trivial⟩, hK B'⟩)
def seqW (N : List Nd) (a : Int) (q : Int) (l : List Int) : Int := l.foldl (fun q x => if (entB N x).author = a then q + 1 else q) q
def entW (N : List Nd) (e : En) : En := { e with seq := seqW N e.author e.seq (marksB N), knows := headsB N }
def writeT (N : List Nd) (e : En) : List UInt8 := entryS (entW N e)
def writeR (R : List SK) (N : List Nd) (e : En) : List SK := signL R e.author (writeT N e)
def writeA (R : List SK) (N : List Nd) (e : En) : List Nd × Int := addB (writeR R N e) N (sgT R e.author (writeT N e)).1 (sgT R e.author (writeT N e)).2.1 (sgT R e.author (writeT N e)).2.2
def writeM (R : List SK) (N : List Nd) (e : En) : Int := if (writeA R N e).2 = 0 then (sgT R e.author (writeT N e)).2.2 else -1
theorem seqW_bd (N : List Nd) (a : Int) : ∀ (l : List Int) (q : Int), q ≤ seqW N a q l ∧ seqW N a q l ≤ q + l.length
 | [], q => ⟨Int.le_refl _, by simp [seqW]⟩
 | x :: r, q => by
  obtain ⟨h1, h2⟩ := seqW_bd N a r (if (entB N x).author = a then q + 1 else q)
  have e : seqW N a q (x :: r) = seqW N a (if (entB N x).author = a then q + 1 else q) r := rfl
  rw [e]
  simp only [List.length_cons]
  split at h1 <;> rename_i hq <;> simp only [hq, if_true, if_false] at h1 h2 ⊢ <;> omega
theorem headsB_mem {N : List Nd} {x : Int} (h : x ∈ headsB N) : ∃ n ∈ N, n.mark = x := by
 unfold headsB at h; rw [sortI_mem] at h
 obtain ⟨p, hp, e⟩ := List.mem_map.1 h
 exact ⟨p.1, List.fst_mem_of_mem_zipIdx (List.mem_filter.1 hp).1, e⟩
theorem entW_R {N : List Nd} (hN : NOk N) {e : En} (hE : EnR e) (hq : 0 ≤ e.seq ∧ e.seq ≤ 1000000) : EnR (entW N e) := by
  have hNl := hN.len
  obtain ⟨h1, h2⟩ := seqW_bd N e.author (marksB N) e.seq
  rw [marksB_len] at h2
  exact { author := hE.author, seq := ⟨by show _ ≤ seqW _ _ _ _; omega, by show seqW _ _ _ _ ≤ _; omega⟩, day := hE.day, kind := hE.kind, circle := hE.circle, who := hE.who, n := hE.n, m := hE.m, ref := hE.ref,
          knows := fun x hx => by
            obtain ⟨n, hn, rfl⟩ := headsB_mem hx
            obtain ⟨i, hi, rfl⟩ := List.getElem_of_mem hn
            exact (hN.nd i _ (List.getElem?_eq_getElem hi)).2.2.2.2.2.2.2
          keys := hE.keys, spans := hE.spans, lk := by show (headsB N).length ≤ _; have := headsB_len N; omega, ly := hE.ly, ls := hE.ls, lt := hE.lt }
theorem write_c (h rb : Nat) (B : List Nat) (N : List Nd) (hN : NOk N) (R : List SK) (BR : List Nat) (e : En) (k y s : Value) (w : World) (hRl : R.length ≤ 1000000) (hG : Gl w) (HH : (histO h rb B N).holds w) (HRg : (ringO rb BR R).holds w) (hd : ∀ b ∈ B, b ∉ BR)
  (he : EnIn (nub BR ++ nub B) w e k y s) (hER : EnR e) (hq0 : 0 ≤ e.seq ∧ e.seq ≤ 1000000) (ht : (writeT N e).length ≤ 900000) :
  Calls Tryz.prog 10 #[ptr h, vE e k y s] w (fun x w' => ∃ BR' B', x = .returned (vI (writeM R N e)) ∧ (ringO rb BR' (writeR R N e)).holds w' ∧ (histO h rb B' (writeA R N e).1).holds w' ∧ Fr (nub BR ++ nub B) w w' ∧ (∀ b ∈ nub BR', b ∈ nub BR ++ nub B ∨ w.heap.size ≤ b) ∧ (∀ b ∈ nub B', b ∈ nub BR ++ nub B ∨ w.heap.size ≤ b) ∧ ∀ b ∈ nub BR', b ∉ nub B') := by
 have hNl := hN.len
 have hml := marksB_len N
 have hhl := headsB_len N
 have h8 : ∀ b ∈ nub BR ++ nub B, 8 ≤ b := fun b hb => (List.mem_append.1 hb).elim (fun hb => (ringO_at HRg).1 b (mem_nub.1 hb)) (fun hb => (histO_at HH).1 b (mem_nub.1 hb))
 have hG' : ∀ w', Fr (nub BR ++ nub B) w w' → Gl w' := fun w' hf => hG.fr hf h8
 have hS : ([(0, ringO rb BR R), (1, histO h rb B N)].flatMap fun o => o.2.blks) = nub BR ++ nub B := by simp [histO, ringO, LO.blks]
 have hen := enter_objs (N := Tryz.f10.ntmps) (l := [.x (ptr h), .s (.agg (encE e k y s))]) (hp := [(0, ringO rb BR R), (1, histO h rb B N)]) (w := w) (fun o ho => by
  simp only [List.mem_cons, List.not_mem_nil, or_false] at ho
  rcases ho with rfl | rfl
  ·exact HRg
  ·exact HH) (by rw [hS]; exact List.nodup_append.2 ⟨nub_nodup _, nub_nodup _, fun x hx z hz e => hd z (mem_nub.1 hz) (e ▸ mem_nub.1 hx)⟩)
 rw [hS] at hen
 refine calls_atB [.x (ptr h), .s (.agg (encE e k y s))] [(0, ringO rb BR R), (1, histO h rb B N)] (nub BR ++ nub B) Tryz.func10 rfl rfl (Nat.le_of_ble_eq_true rfl) (WF.objs hen trivial trivial) hen fun B0 hB => ?_
 repeat refine zq ?_
 refine zr ?_; conv => whnf
 refine ⟨he.k.one, ?_⟩; conv => whnf
 refine ⟨he.y.one, ?_⟩; conv => whnf
 refine ⟨he.s.one, ?_⟩; conv => whnf
 intro b3; conv => whnf
 repeat refine zq ?_
 refine zr ?_; conv => whnf
 refine ansR_call b26 (rd1 (nopI _)) (fun w' hw => marks_r h rb N hN w' (histO_hr (hw.objs _ (look_mem (s := 1) rfl)) hN (fun b hb => by cases hb))) ?_
 intro vm; conv => whnf
 repeat refine zq ?_
 refine zr ?_; conv => whnf
 repeat refine zq ?_
 refine At.block ?_
 refine At.loopH (fun j : Nat => { N := Tryz.f10.ntmps, sl := [(0, some (.x ((ptr h)))), (3, some (.s (.c (.p 2 b3 0)))), (5, some (.s (.c (.o 3 vm)))), (6, some (.i j))], gl := [], hp := [(3, .row vm 3 1 ((marksB N).map encI)), (2, .box b3 39 [.i e.author, .i (seqW N e.author e.seq ((marksB N).take j)), .i e.day, .x k, .i e.kind, .i e.circle, .i e.who, .i e.n, .i e.m, .i e.ref, .x y, .x s, .s e.text]), (0, ringO rb BR R), (1, histO h rb B N)], S := (nub BR ++ nub B), ws := w }) (fun j : Nat => j ≤ (marksB N).length) (fun j : Nat => (marksB N).length - j)
  (fun w' hw => ⟨0, Nat.zero_le _, Le.of rfl rfl ⟨rfl, rfl, rfl, rfl, trivial⟩, hw.keep [3, 2, 0, 1] rfl rfl rfl, ⟨⟨_, _, rfl⟩, ⟨_, _, _, rfl⟩, trivial⟩, ⟨(nopI _).okH, trivial⟩⟩) ?_
 intro j hj
 repeat refine zq ?_
 refine zr ?_; conv => whnf
 refine ⟨rfl, ?_⟩; conv => whnf
 repeat refine zq ?_
 refine At.cond rfl (fun hc => At.skip ?_) (fun hc => At.exit ?_)
 ·have hlt : j < (marksB N).length := by have := of_decide_eq_true hc; simp only [List.length_map] at this; omega
  obtain ⟨x, hx⟩ : ∃ x, (marksB N)[j]? = some x := ⟨_, List.getElem?_eq_getElem hlt⟩
  obtain ⟨hs1, hs2⟩ := seqW_bd N e.author ((marksB N).take j) e.seq
  rw [List.length_take] at hs2
  have hsn : seqW N e.author e.seq ((marksB N).take (j + 1)) = if (entB N x).author = e.author then seqW N e.author e.seq ((marksB N).take j) + 1 else seqW N e.author e.seq ((marksB N).take j) := by
   rw [take_snoc hx]; unfold seqW; rw [List.foldl_append]; rfl
  generalize seqW N e.author e.seq ((marksB N).take j) = sq at hs1 hs2 hsn ⊢
  repeat refine zq ?_
  refine At.block ?_
  repeat refine zq ?_
  refine zr ?_; conv => whnf
  refine ⟨rfl, ?_⟩; conv => whnf
  refine ⟨by omega, ?_⟩; conv => whnf
  refine ⟨by (try simp only [List.length_map]); omega, ?_⟩; conv => whnf
  refine ⟨encI x, ⟨rfl, rfl, by omega, by rw [Int.toNat_natCast, List.getElem?_map, hx]; rfl⟩, ?_⟩; conv => whnf
  refine entry_call (h := h) (rb := rb) (N := N) (mk := x) hN (fun w' hw => histO_hr (hw.objs _ (look_mem (s := 1) rfl)) hN (fun b hb => by cases hb)) ?_
  intro k4 y5 s6; conv => whnf
  intro b7; conv => whnf
  repeat refine zq ?_
  refine zr ?_; conv => whnf
  repeat refine zq ?_
  refine At.cond rfl (fun hq => ?_) (fun hq => At.skip ?_)
  ·have hqa : (entB N x).author = e.author := of_decide_eq_true hq
   rw [if_pos hqa] at hsn
   repeat refine zq ?_
   refine zr ?_; conv => whnf
   refine ⟨⟨by omega, by omega⟩, ?_⟩; conv => whnf
   repeat refine zq ?_
   refine zr ?_; conv => whnf
   refine ⟨⟨by omega, by omega⟩, ?_⟩; conv => whnf
   refine At.nextH fun w' hw => ⟨j + 1, by omega, by omega, Le.of rfl rfl ⟨rfl, rfl, rfl, rfl, trivial⟩, hw.keep [3, 2, 0, 1] (by simp only [hsn]; rfl) rfl rfl, ⟨⟨_, _, rfl⟩, ⟨_, _, _, rfl⟩, trivial⟩, ⟨(nopI _).okH, trivial⟩⟩
  ·have hqa : ¬ (entB N x).author = e.author := of_decide_eq_false hq
   rw [if_neg hqa] at hsn
   repeat refine zq ?_
   refine zr ?_; conv => whnf
   refine ⟨⟨by omega, by omega⟩, ?_⟩; conv => whnf
   refine At.nextH fun w' hw => ⟨j + 1, by omega, by omega, Le.of rfl rfl ⟨rfl, rfl, rfl, rfl, trivial⟩, hw.keep [3, 2, 0, 1] (by simp only [hsn]; rfl) rfl rfl, ⟨⟨_, _, rfl⟩, ⟨_, _, _, rfl⟩, trivial⟩, ⟨(nopI _).okH, trivial⟩⟩
 ·have hge : j = (marksB N).length := by have := of_decide_eq_false hc; simp only [List.length_map] at this; omega
  subst hge
  rw [List.take_length]
  have hWR := entW_R hN hER hq0
  repeat refine zq ?_
  refine zr ?_; conv => whnf
  refine ansR_call b28 (rd1 (nopI _)) (fun w' hw => heads_r h rb N hN w' (histO_hr (hw.objs _ (look_mem (s := 1) rfl)) hN (fun b hb => by cases hb))) ?_
  intro vh; conv => whnf
  have hok : okSK (e.author, writeT N e) := ⟨hER.author, by show (writeT N e).length ≤ _; omega⟩
  have hok2 : okSK ((sgT R e.author (writeT N e)).1, (sgT R e.author (writeT N e)).2.1) ∧ (sgT R e.author (writeT N e)).2.1.length ≤ 900000 := by
   unfold sgT
   split
   ·exact ⟨hok, ht⟩
   ·exact ⟨⟨by simp [iR], by simp⟩, by simp⟩
  repeat refine zq ?_
  refine At.join (fun p' : Nat × List Nat => { N := Tryz.f10.ntmps, sl := [(0, some (.x ((ptr h)))), (9, some (.s (.c (.p 5 p'.1 0))))], gl := [], hp := [(5, .box p'.1 71 [.i (sgT R e.author (writeT N e)).1, .s (sgT R e.author (writeT N e)).2.1, .i (sgT R e.author (writeT N e)).2.2]), (0, ringO rb p'.2 (writeR R N e)), (1, histO h rb B N)], S := (nub BR ++ nub B), ws := w }) (fun p' : Nat × List Nat => True) ?_ ?_
  ·repeat refine zq ?_
   refine At.planG tab_ok mixed [(2, LO.box b3 39 [.i e.author, .i (seqW N e.author e.seq (marksB N)), .i e.day, .o 4 vh, .i e.kind, .i e.circle, .i e.who, .i e.n, .i e.m, .i e.ref, .x y, .x s, .s e.text])] (.take 0 (.take 2 (.take 3 (.take 4 (.br 1 (.br 5 (.br 6 (.br 7 (.br 8 (.done) (.nob)) (.nob)) (.br 7 (.br 6 (.br 8 (.done) (.nob)) (.nob)) (.nob))) (.br 7 (.br 5 (.br 6 (.br 8 (.done) (.nob)) (.nob)) (.nob)) (.nob))) (.br 7 (.br 1 (.br 5 (.br 6 (.br 8 (.done) (.nob)) (.nob)) (.nob)) (.nob)) (.nob))))))) (by kernel_rfl) (by kernel_rfl) ⟨rfl, trivial⟩ ?_; conv => whnf
   refine ⟨?_, ?_, trivial⟩
   ·conv => whnf
    refine ans_call (r := .x (ptr rb)) b29 rfl (fun w' hw => hring_r h rb N w' (histO_hr (hw.objs _ (look_mem (s := 1) rfl)) hN (fun b hb => by cases hb))) ?_; conv => whnf
    refine ⟨⟨⟨rfl, trivial⟩, fun w' hw => hw.fr⟩, ?_⟩; conv => whnf
    refine ⟨?_, ?_, trivial⟩
    ·conv => whnf
     refine ans_call (r := rS (writeT N e)) b31 rfl (fun w' hw => etext_c (entW N e) vh y s [] w' ⟨slI _ (hw.row (id := 4) rfl) (by show (headsB N).length ≤ _; omega), (he.y.fr hw.fr).avoid (fun b hb => by cases hb), (he.s.fr hw.fr).avoid (fun b hb => by cases hb)⟩ hWR (hG' w' hw.fr)) ?_; conv => whnf
     refine ⟨⟨⟨rfl, trivial⟩, fun w' hw => hw.fr⟩, ?_⟩; conv => whnf
     refine ⟨?_, ?_, trivial⟩
     ·conv => whnf
      refine sign_call (id := 0) (rb := rb) (B := BR) (R := R) (k := e.author) (t := writeT N e) rfl hok hRl (fun w' hw => (hG' w' hw.fr).size) ?_
      intro BR2; conv => whnf
      refine ⟨⟨⟨rfl, trivial⟩, fun w' hw => hw.fr⟩, ?_⟩; conv => whnf
      refine ⟨?_, trivial⟩; conv => whnf
      intro b9; conv => whnf
      refine ⟨⟨⟨rfl, trivial⟩, fun w' hw => hw.fr⟩, ?_⟩; conv => whnf
      refine ⟨?_, trivial⟩; conv => whnf
      refine ⟨⟨⟨rfl, trivial⟩, fun w' hw => hw.fr⟩, ?_⟩; conv => whnf
      refine At.meet fun w' hw => ⟨(b9, BR2), trivial, Le.of rfl rfl ⟨rfl, rfl, trivial⟩, hw.keep [5, 0, 1] rfl rfl rfl, ⟨⟨_, _, rfl⟩, trivial⟩, trivial⟩
     ·conv => whnf
      intro b9; conv => whnf
      refine ⟨⟨⟨rfl, trivial⟩, fun w' hw => hw.fr⟩, ?_⟩; conv => whnf
      refine ⟨?_, trivial⟩; conv => whnf
      refine sign_call (id := 0) (rb := rb) (B := BR) (R := R) (k := e.author) (t := writeT N e) rfl hok hRl (fun w' hw => (hG' w' hw.fr).size) ?_
      intro BR2; conv => whnf
      refine ⟨⟨⟨rfl, trivial⟩, fun w' hw => hw.fr⟩, ?_⟩; conv => whnf
      refine ⟨?_, trivial⟩; conv => whnf
      refine ⟨⟨⟨rfl, trivial⟩, fun w' hw => hw.fr⟩, ?_⟩; conv => whnf
      refine At.meet fun w' hw => ⟨(b9, BR2), trivial, Le.of rfl rfl ⟨rfl, rfl, trivial⟩, hw.keep [5, 0, 1] rfl rfl rfl, ⟨⟨_, _, rfl⟩, trivial⟩, trivial⟩
    ·conv => whnf
     intro b9; conv => whnf
     refine ⟨⟨⟨rfl, trivial⟩, fun w' hw => hw.fr⟩, ?_⟩; conv => whnf
     refine ⟨?_, trivial⟩; conv => whnf
     refine ans_call (r := rS (writeT N e)) b31 rfl (fun w' hw => etext_c (entW N e) vh y s [] w' ⟨slI _ (hw.row (id := 4) rfl) (by show (headsB N).length ≤ _; omega), (he.y.fr hw.fr).avoid (fun b hb => by cases hb), (he.s.fr hw.fr).avoid (fun b hb => by cases hb)⟩ hWR (hG' w' hw.fr)) ?_; conv => whnf
     refine ⟨⟨⟨rfl, trivial⟩, fun w' hw => hw.fr⟩, ?_⟩; conv => whnf
     refine ⟨?_, trivial⟩; conv => whnf
     refine sign_call (id := 0) (rb := rb) (B := BR) (R := R) (k := e.author) (t := writeT N e) rfl hok hRl (fun w' hw => (hG' w' hw.fr).size) ?_
     intro BR2; conv => whnf
     refine ⟨⟨⟨rfl, trivial⟩, fun w' hw => hw.fr⟩, ?_⟩; conv => whnf
     refine ⟨?_, trivial⟩; conv => whnf
     refine ⟨⟨⟨rfl, trivial⟩, fun w' hw => hw.fr⟩, ?_⟩; conv => whnf
     refine At.meet fun w' hw => ⟨(b9, BR2), trivial, Le.of rfl rfl ⟨rfl, rfl, trivial⟩, hw.keep [5, 0, 1] rfl rfl rfl, ⟨⟨_, _, rfl⟩, trivial⟩, trivial⟩
   ·conv => whnf
    intro b9; conv => whnf
    refine ⟨⟨⟨rfl, trivial⟩, fun w' hw => hw.fr⟩, ?_⟩; conv => whnf
    refine ⟨?_, trivial⟩; conv => whnf
    refine ans_call (r := .x (ptr rb)) b29 rfl (fun w' hw => hring_r h rb N w' (histO_hr (hw.objs _ (look_mem (s := 1) rfl)) hN (fun b hb => by cases hb))) ?_; conv => whnf
    refine ⟨⟨⟨rfl, trivial⟩, fun w' hw => hw.fr⟩, ?_⟩; conv => whnf
    refine ⟨?_, trivial⟩; conv => whnf
    refine ans_call (r := rS (writeT N e)) b31 rfl (fun w' hw => etext_c (entW N e) vh y s [] w' ⟨slI _ (hw.row (id := 4) rfl) (by show (headsB N).length ≤ _; omega), (he.y.fr hw.fr).avoid (fun b hb => by cases hb), (he.s.fr hw.fr).avoid (fun b hb => by cases hb)⟩ hWR (hG' w' hw.fr)) ?_; conv => whnf
    refine ⟨⟨⟨rfl, trivial⟩, fun w' hw => hw.fr⟩, ?_⟩; conv => whnf
    refine ⟨?_, trivial⟩; conv => whnf
    refine sign_call (id := 0) (rb := rb) (B := BR) (R := R) (k := e.author) (t := writeT N e) rfl hok hRl (fun w' hw => (hG' w' hw.fr).size) ?_
    intro BR2; conv => whnf
    refine ⟨⟨⟨rfl, trivial⟩, fun w' hw => hw.fr⟩, ?_⟩; conv => whnf
    refine ⟨?_, trivial⟩; conv => whnf
    refine ⟨⟨⟨rfl, trivial⟩, fun w' hw => hw.fr⟩, ?_⟩; conv => whnf
    refine At.meet fun w' hw => ⟨(b9, BR2), trivial, Le.of rfl rfl ⟨rfl, rfl, trivial⟩, hw.keep [5, 0, 1] rfl rfl rfl, ⟨⟨_, _, rfl⟩, trivial⟩, trivial⟩
  rintro ⟨b9, BR2⟩ _
  simp only
  repeat refine zq ?_
  refine zr ?_; conv => whnf
  refine add_call (id := 1) (h := h) (rb := rb) (B := B) (N := N) (R := writeR R N e) (k := (sgT R e.author (writeT N e)).1) (mk := (sgT R e.author (writeT N e)).2.2) (t := (sgT R e.author (writeT N e)).2.1) rfl hN hok2.1 hok2.2 (fun w' hw => hG' w' hw.fr) (fun w' hw => ringO_rr (hw.objs _ (look_mem (s := 0) rfl)) (fun b hb hm => hw.apart (i := 1) (j := 0) rfl rfl (by decide) b (mem_nub.2 hb) (mem_nub.2 hm))) ?_
  intro B4; conv => whnf
  repeat refine zq ?_
  refine At.cond rfl (fun hq => ?_) (fun hq => At.skip ?_)
  ·have hne : (writeA R N e).2 ≠ 0 := by simpa [writeA] using hq
   repeat refine zq ?_
   refine zr ?_; conv => whnf
   repeat refine zq ?_
   refine At.ret (At.doneB tab_ok hB _ rfl fun w' hw => ?_)
   refine ⟨BR2, B4, ?_, hw.objs _ (look_mem (s := 0) rfl), hw.objs _ (look_mem (s := 1) rfl), hw.fr, fun b hb => hw.fresh (id := 0) rfl b hb, fun b hb => hw.fresh (id := 1) rfl b hb, hw.apart (i := 0) (j := 1) rfl rfl (by decide)⟩
   ·unfold writeM; rw [if_neg hne]; rfl
  ·have hne : (writeA R N e).2 = 0 := by simpa [writeA] using hq
   repeat refine zq ?_
   refine zr ?_; conv => whnf
   repeat refine zq ?_
   refine At.ret (At.doneB tab_ok hB _ rfl fun w' hw => ?_)
   refine ⟨BR2, B4, ?_, hw.objs _ (look_mem (s := 0) rfl), hw.objs _ (look_mem (s := 1) rfl), hw.fr, fun b hb => hw.fresh (id := 0) rfl b hb, fun b hb => hw.fresh (id := 1) rfl b hb, hw.apart (i := 0) (j := 1) rfl rfl (by decide)⟩
   ·unfold writeM; rw [if_pos hne]; rfl
end Go.Proofs.YtgpgbiklefkjjaaGreatDoor
namespace Go.Proofs.YtgpgbiklefkjjaaGreatDoor
open Go.Vc Rt Go.Bs
theorem keep_storeI {xs F : List Int} {x : Int} (hF : F.length < xs.length) : ((F ++ xs.drop F.length).map encI).set F.length (encI x) = ((F ++ [x]) ++ xs.drop (F ++ [x]).length).map encI := by
 rw [List.drop_eq_getElem_cons hF, List.map_append, List.map_cons, List.set_append_right _ _ (by simp)]
 simp only [List.length_map, Nat.sub_self, List.set_cons_zero, List.map_append, List.length_append, List.length_cons, List.length_nil, List.append_assoc, List.map_cons, List.map_nil, List.cons_append, List.nil_append, Nat.zero_add]
theorem filter_takeI {p : Int → Bool} {xs : List Int} {j : Nat} {x : Int} (hx : xs[j]? = some x) : (xs.take (j + 1)).filter p = (xs.take j).filter p ++ (if p x then [x] else []) := by
 rw [List.take_add_one, hx, List.filter_append]
 simp [List.filter_cons]
theorem deleteI_c (xs : List Int) (v : Value) (w : World) (h : (LO.row v 3 1 (xs.map encI)).holds w) (hN : xs.length ≤ 1000000) (g : Nat) (caps : Array Value) (p : Int → Bool) (hg : Body Tryz.prog g)
  (hf : ∀ x ∈ xs, ∀ w', Fr (blkOf v) w w' → Ans Tryz.prog g (vI x :: caps.toList) (.b (p x)) w') : RowC 88 [v, .func (.func g) #[] caps] 3 1 v ((xs.filter (fun x => !p x)).map encI) w := by
 refine calls_atB [.s (.c (.o 0 v)), .x (.func (.func g) #[] caps)] [(0, .row v 3 1 (xs.map encI))] (blkOf v) Tryz.func88 rfl rfl (Nat.le_of_ble_eq_true rfl) (WF.objs (enter_row h) ⟨⟨_, _, _, rfl⟩, trivial⟩ ⟨(nopI xs).okH, trivial⟩) (enter_row h) fun B hB => ?_
 repeat refine zq ?_
 refine zr ?_; conv => whnf
 repeat refine zq ?_
 refine zr ?_; conv => whnf
 refine ans_call b61 rfl (fun w' hw => indexF_c xs [] v w' (SlOf.of_row (enc := fun n => [.i n]) (hw.row (id := 0) rfl) (fun b hb hb' => by cases hb') (by omega)) g caps p hg (fun x hx w'' hx' => hf x hx w'' (hw.fr.trans (hx'.fr _)))) ?_; conv => whnf
 repeat refine zq ?_
 refine zr ?_; conv => whnf
 repeat refine zq ?_
 refine At.cond rfl (fun hq => ?_) (fun hq => ?_)
 ·have hn : xs.findIdx? p = none := by
   have := of_decide_eq_true hq
   unfold idxOf at this
   split at this
   ·omega
   ·rename_i e; exact e
  repeat refine zq ?_
  refine zr ?_; conv => whnf
  repeat refine zq ?_
  refine At.ret (At.doneB tab_ok hB _ rfl fun w' hw => ⟨_, rfl, by rw [part_none hn]; exact hw.row (id := 0) rfl, hw.fr, fun b hb => hb⟩)
 ·obtain ⟨k0, hk0⟩ : ∃ k, xs.findIdx? p = some k := by
   have := of_decide_eq_false hq
   unfold idxOf at this
   split at this
   ·rename_i i e; exact ⟨i, e⟩
   ·exact absurd rfl this
  have hi0 : idxOf p xs = k0 := by unfold idxOf; rw [hk0]
  obtain ⟨hF0, hk0l⟩ := part_some hk0
  refine At.skip ?_
  repeat refine zq ?_
  refine zr ?_; conv => whnf
  refine ⟨by rw [hi0]; exact ⟨by omega, by omega⟩, ?_⟩; conv => whnf
  repeat refine zq ?_
  refine At.block ?_
  refine At.loopH (fun j : Nat => { N := Tryz.f88.ntmps, sl := [(0, some (.s (.c (.o 0 v)))), (1, some (.x (.func (.func g) #[] caps))), (5, some (.i ((xs.take j).filter (fun x => !p x)).length)), (6, some (.i j))], gl := [], hp := [(0, .row v 3 1 (((xs.take j).filter (fun x => !p x) ++ xs.drop ((xs.take j).filter (fun x => !p x)).length).map encI))], S := blkOf v, ws := w }) (fun j => j ≤ xs.length ∧ ((xs.take j).filter (fun x => !p x)).length < j) (fun j => xs.length - j)
   (fun w' hw => ⟨k0 + 1, ⟨by omega, by rw [hF0]; simp; omega⟩, Le.of rfl rfl ⟨rfl, rfl, congrArg (Value.int .i64) (by rw [hi0, hF0]; simp; omega), congrArg (Value.int .i64) (by rw [hi0]; rfl), trivial⟩, ?_, ⟨⟨_, _, _, rfl⟩, trivial⟩, ⟨(nopI _).okH, trivial⟩⟩) ?_
  ·refine hw.same ?_ rfl rfl
   show [(0, LO.row v 3 1 _)] = [(0, LO.row v 3 1 _)]
   rw [hF0, show (xs.take k0).length = k0 by simp; omega, List.take_append_drop]
  intro j ⟨hj, hFl⟩
  generalize hFd : (xs.take j).filter (fun x => !p x) = F at hFl
  have hFx : F.length < xs.length := by omega
  repeat refine zq ?_
  refine zr ?_; conv => whnf
  refine ⟨rfl, ?_⟩; conv => whnf
  repeat refine zq ?_
  refine At.cond rfl (fun hc => At.skip ?_) (fun hc => At.exit ?_)
  ·have hlt : j < xs.length := by have := of_decide_eq_true hc; simp at this; omega
   obtain ⟨x, hx⟩ : ∃ x, xs[j]? = some x := ⟨_, List.getElem?_eq_getElem hlt⟩
   have hrow : ((F ++ xs.drop F.length).map encI)[j]? = some (encI x) := by
    rw [List.getElem?_map, List.getElem?_append_right (by omega), List.getElem?_drop, show F.length + (j - F.length) = j by omega, hx]; rfl
   have hrow' : ((F ++ xs.drop F.length).map encI)[F.length]? = some (encI xs[F.length]) := by
    rw [List.getElem?_map, List.getElem?_append_right (by omega), List.getElem?_drop, List.getElem?_eq_getElem (by omega)]; simp
   repeat refine zq ?_
   refine At.block ?_
   repeat refine zq ?_
   refine zr ?_; conv => whnf
   refine ⟨rfl, ?_⟩; conv => whnf
   refine ⟨by omega, ?_⟩; conv => whnf
   refine ⟨by simp; omega, ?_⟩; conv => whnf
   refine ⟨encI x, ⟨rfl, rfl, by omega, hrow⟩, ?_⟩; conv => whnf
   repeat refine zq ?_
   refine zr ?_; conv => whnf
   refine ans_call hg rfl (fun w' hw => hf x (List.mem_of_getElem? hx) w' hw.fr) ?_; conv => whnf
   repeat refine zq ?_
   refine At.cond rfl (fun hq => ?_) (fun hq => ?_)
   ·repeat refine zq ?_
    refine zr ?_; conv => whnf
    refine ⟨rfl, ?_⟩; conv => whnf
    refine ⟨by omega, ?_⟩; conv => whnf
    refine ⟨by simp; omega, ?_⟩; conv => whnf
    refine ⟨_, ⟨rfl, rfl, by omega, hrow'⟩, ?_⟩; conv => whnf
    repeat refine zq ?_
    refine zr ?_; conv => whnf
    refine ⟨⟨by omega, by omega⟩, ?_⟩; conv => whnf
    repeat refine zq ?_
    refine zr ?_; conv => whnf
    refine ⟨⟨by omega, by omega⟩, ?_⟩; conv => whnf
    have hnx : (xs.take (j + 1)).filter (fun x => !p x) = F ++ [x] := by rw [filter_takeI hx, hFd, if_pos hq]
    refine At.nextH fun w' hw => ⟨j + 1, ⟨by omega, by rw [hnx]; simp; omega⟩, by omega, Le.of rfl rfl ⟨rfl, rfl, congrArg (Value.int .i64) (by rw [hnx]; simp), rfl, trivial⟩, hw.keep [0] ?_ rfl rfl, ⟨⟨_, _, _, rfl⟩, trivial⟩, ⟨(nopI _).okH, trivial⟩⟩
    show [(0, LO.row v 3 1 _)] = [(0, LO.row v 3 1 _)]
    rw [hnx]
    congr 3
    exact (keep_storeI hFx).symm
   ·refine At.skip ?_
    repeat refine zq ?_
    refine zr ?_; conv => whnf
    refine ⟨⟨by omega, by omega⟩, ?_⟩; conv => whnf
    have hnx : (xs.take (j + 1)).filter (fun x => !p x) = F := by rw [filter_takeI hx, hFd]; simp [hq]
    refine At.nextH fun w' hw => ⟨j + 1, ⟨by omega, by rw [hnx]; omega⟩, by omega, Le.of rfl rfl ⟨rfl, rfl, congrArg (Value.int .i64) (by rw [hnx]), rfl, trivial⟩, hw.keep [0] ?_ rfl rfl, ⟨⟨_, _, _, rfl⟩, trivial⟩, ⟨(nopI _).okH, trivial⟩⟩
    show [(0, LO.row v 3 1 _)] = [(0, LO.row v 3 1 _)]
    rw [hnx]
  ·have hge : j = xs.length := by have := of_decide_eq_false hc; simp at this; omega
   subst hge
   have hFe : xs.filter (fun x => !p x) = F := by rw [← hFd, List.take_length]
   have hll : ((F ++ xs.drop F.length).map encI).length = xs.length := by simp; omega
   repeat refine zq ?_
   refine zr ?_; conv => whnf
   refine ⟨rfl, ?_⟩; conv => whnf
   refine ⟨by omega, ?_⟩; conv => whnf
   refine ⟨by omega, ?_⟩; conv => whnf
   refine ⟨Or.inl (by omega), ?_⟩; conv => whnf
   refine ⟨0, F.length, ?_⟩; conv => whnf
   refine ⟨⟨by rw [hll], by rw [hll]; omega⟩, ?_⟩; conv => whnf
   repeat refine zq ?_
   refine zr ?_; conv => whnf
   refine ⟨rfl, ?_⟩; conv => whnf
   refine ⟨by omega, ?_⟩; conv => whnf
   refine ⟨by omega, ?_⟩; conv => whnf
   refine ⟨Or.inl (by rw [spliceR_length (by simp <;> omega), hll]; omega), ?_⟩; conv => whnf
   repeat refine zq ?_
   refine At.ret (At.doneB tab_ok hB _ rfl fun w' hw => ⟨_, rfl, ?_, hw.fr, blkOf_sub⟩)
   have hr := row_prefix (hw.row (id := 0) rfl) (n := F.length) (by rw [spliceR_length (by simp <;> omega), hll]; omega)
   rw [splice_all (by rw [hll]; omega) _ (by simp)] at hr
   rw [hFe]
   have e : ((F ++ xs.drop F.length).map encI).take F.length = F.map encI := by rw [← List.map_take]; simp
   rw [e] at hr
   exact hr
def apartB (N : List Nd) (a b : Int) : Bool := (decide (a ≠ b) && !beforeB N a b) && !beforeB N b a
theorem apart_r (h rb : Nat) (N : List Nd) (hN : NOk N) (a b : Int) (w : World) (H : HR [] w h rb N) : Ans Tryz.prog 46 [ptr h, vI a, vI b] (.b (apartB N a b)) w := by
 refine calls_e [.x (ptr h), .i a, .i b] Tryz.func46 rfl rfl (Nat.le_of_ble_eq_true rfl) trivial fun B hB => ?_
 repeat refine zq ?_
 refine zr ?_; conv => whnf
 repeat refine zq ?_
 refine zr ?_; conv => whnf
 refine ⟨.b (beforeB N a b), gimp_of (ans_quiet b90 (fun w' hw => before_r h rb N hN a b w' (H.ext hw.fr))), ?_⟩; conv => whnf
 refine ⟨.b (beforeB N b a), gimp_of (ans_quiet b90 (fun w' hw => before_r h rb N hN b a w' (H.ext hw.fr))), ?_⟩; conv => whnf
 repeat refine zq ?_
 refine At.ret (At.doneB tab_ok hB _ rfl fun w' hw => ⟨?_, hw.fr⟩)
 simp only [RV.den, SV.den, CV.den, band, apartB, decide_not]
theorem spans_r (h rb : Nat) (N : List Nd) (hN : NOk N) (mk : Int) (w : World) (H : HR [] w h rb N) : AnsR Tryz.prog 48 [ptr h, vI mk] [.row 43 3 ((entB N mk).spans.map encS)] w := by
 refine calls_e [.x (ptr h), .i mk] Tryz.func48 rfl rfl (Nat.le_of_ble_eq_true rfl) trivial fun B hB => ?_
 repeat refine zq ?_
 refine zr ?_; conv => whnf
 repeat refine zq ?_
 refine zr ?_; conv => whnf
 refine entry_call (h := h) (rb := rb) (N := N) (mk := mk) hN (fun w' hw => H.ext hw.fr) ?_
 intro k y s; conv => whnf
 intro b5; conv => whnf
 repeat refine zq ?_
 refine zr ?_; conv => whnf
 repeat refine zq ?_
 refine At.ret (At.doneB tab_ok hB _ rfl fun w' hw => ansR_row (id := 2) hw rfl rfl rfl)
def pT : Ty Nat := flat 1 (fun h => [.x (ptr h)]) (fun _ => rfl)
theorem box_p {w : World} {b h : Nat} {T : TypeId} {S : List Nat} (hb : w.heap[b]? = some (.cells #[ptr h] T (0, 0))) (hS : b ∉ S) : SlOf pT S w (hs b) [h] := by
 have hrow : (LO.row (hs b) T 1 ([h].map fun h => [CV.x (ptr h)])).holds w := ⟨⟨rfl, .inr ⟨b, 0, 1, _, rfl, hb, Nat.le_refl 1, by unfold maxLen; omega, by simp, rfl⟩⟩, fun l hl => by rw [List.mem_singleton.1 hl]; rfl⟩
 exact SlOf.of_row (enc := fun h => [.x (ptr h)]) hrow (fun b' hb' => by simp only [hs, blkOf, List.mem_singleton] at hb'; rw [hb']; exact hS) (by simp)
def spendsB (N : List Nd) : List Int := (marksB N).filter fun m => decide ((entB N m).kind = 7)
theorem spends1_r (b h rb : Nat) (N : List Nd) (hN : NOk N) (mk : Int) (w : World) (hb : SlOf pT [] w (hs b) [h]) (H : HR [] w h rb N) : Ans Tryz.prog 89 [vI mk, ptr b] (.b (!decide ((entB N mk).kind = 7))) w := by
 refine calls_e [.i mk, .s (.c (.e (hs b) 1 0 0))] Tryz.func89 rfl rfl (Nat.le_of_ble_eq_true rfl) ⟨⟨_, _, _, rfl⟩, trivial⟩ fun B hB => ?_
 repeat refine zq ?_
 refine zr ?_; conv => whnf
 repeat refine zq ?_
 refine zr ?_; conv => whnf
 refine ⟨[.x (ptr h)], fun w' hw => hb.load (n := 1) (i := 0) (off := 0) hw.fr rfl rfl, ?_⟩; conv => whnf
 refine entry_call (h := h) (rb := rb) (N := N) (mk := mk) hN (fun w' hw => H.ext hw.fr) ?_
 intro k y s; conv => whnf
 intro b4; conv => whnf
 repeat refine zq ?_
 refine zr ?_; conv => whnf
 repeat refine zq ?_
 refine At.ret (At.doneB tab_ok hB _ rfl fun w' hw => ⟨rfl, hw.fr⟩)
theorem spendsB_len (N : List Nd) : (spendsB N).length ≤ N.length := by rw [← marksB_len N]; exact List.length_filter_le _ _
theorem spends_r (h rb : Nat) (N : List Nd) (hN : NOk N) (w : World) (H : HR [] w h rb N) : AnsR Tryz.prog 45 [ptr h] [.row 3 1 ((spendsB N).map encI)] w := by
 have hNl := hN.len
 have hml := marksB_len N
 refine calls_e [.x (ptr h)] Tryz.func45 rfl rfl (Nat.le_of_ble_eq_true rfl) trivial fun B hB => ?_
 repeat refine zq ?_
 refine zr ?_; conv => whnf
 refine ⟨rfl, ?_⟩; conv => whnf
 intro b1; conv => whnf
 repeat refine zq ?_
 refine zr ?_; conv => whnf
 refine ansR_call b26 (rd1 (nopI _)) (fun w' hw => marks_r h rb N hN w' (H.ext hw.fr)) ?_
 intro vm; conv => whnf
 refine row_call (id := 1) b88 rfl (fun r v' L' => r = .s (.c (.o 1 v')) ∧ L' = (spendsB N).map encI) (fun w' hw => ?_) ?_
 ·have hap := hw.apart (i := 0) (j := 1) rfl rfl (by decide)
  refine (deleteI_c (marksB N) vm w' (hw.row (id := 1) rfl) (by omega) 89 #[ptr b1] (fun m => !decide ((entB N m).kind = 7)) b89 (fun x _ w'' hf => ?_)).mono ?_
  ·refine spends1_r b1 h rb N hN x w'' (box_p (T := 30) ((hf.block b1 (Array.getElem?_eq_some_iff.1 (hw.box (id := 0) rfl)).1 (hap b1 (by simp [LO.blks]))).trans (hw.box (id := 0) rfl)) nilS) ?_
   exact ((hw.liftH (H.avoid fun b hb => by cases hb)).avoid (S' := blkOf vm) (fun b hb => .inl (List.mem_flatMap.2 ⟨_, look_mem (s := 1) rfl, hb⟩))).fr hf |>.nilS
  ·rintro e w'' ⟨v', he, hh, hf, hb⟩
   refine ⟨.s (.c (.o 1 v')), v', _, he, ⟨rfl, rfl⟩, ?_, hf, fun b hb' => .inl (hb b hb')⟩
   unfold spendsB
   have e : (fun x => !(!decide ((entB N x).kind = 7))) = (fun m => decide ((entB N m).kind = 7)) := by funext x; simp
   rw [e] at hh
   exact hh
 rintro r v2 L' ⟨rfl, rfl⟩ hsl
 refine ⟨hsl, nopI _, ?_⟩; conv => whnf
 repeat refine zq ?_
 refine At.ret (At.doneB tab_ok hB _ rfl fun w' hw => ansR_row (id := 1) hw rfl rfl rfl)
end Go.Proofs.YtgpgbiklefkjjaaGreatDoor
namespace Go.Proofs.YtgpgbiklefkjjaaGreatDoor
open Go.Vc Rt Go.Bs
set_option maxHeartbeats 1000000
theorem box_s {w : World} {b : Nat} {T : TypeId} {S : List Nat} {x : Span} (hb : w.heap[b]? = some (.cells (dens (encS x)).toArray T (0, 0))) (hS : b ∉ S) : SlOf spT S w (hs b) [x] := by
 have hrow : (LO.row (hs b) T 3 ([x].map encS)).holds w := ⟨⟨rfl, .inr ⟨b, 0, 1, _, rfl, hb, Nat.le_refl 1, by unfold maxLen; omega, by simp [dens, encS], rfl⟩⟩, fun l hl => by rw [List.mem_singleton.1 hl]; rfl⟩
 exact SlOf.of_row hrow (fun b' hb' => by simp only [hs, blkOf, List.mem_singleton] at hb'; rw [hb']; exact hS) (by simp)
theorem ent_sz {N : List Nd} (hN : NOk N) (mk : Int) : (entB N mk).spans.length ≤ 1000000 := by
 unfold entB
 split
 ·simp [zeroE]
 ·rename_i i hi
  obtain ⟨j, n, rfl, hj, _, hnj⟩ := hidx_spec hi
  rw [hnj]
  exact (hN.nd j n hj).2.2.2.2.1.ls
theorem with1_r (b3 b5 h rb : Nat) (N : List Nd) (hN : NOk N) (c : Span) (mk : Int) (w : World) (hb3 : SlOf pT [] w (hs b3) [h]) (hb5 : SlOf spT [] w (hs b5) [c]) (H : HR [] w h rb N) : Ans Tryz.prog 96 [vI mk, ptr b3, ptr b5] (.b (!hasS (entB N mk).spans c.m c.f)) w := by
 refine calls_e [.i mk, .s (.c (.e (hs b3) 1 0 0)), .s (.c (.e (hs b5) 3 0 0))] Tryz.func96 rfl rfl (Nat.le_of_ble_eq_true rfl) ⟨⟨_, _, _, rfl⟩, ⟨_, _, _, rfl⟩, trivial⟩ fun B hB => ?_
 repeat refine zq ?_
 refine zr ?_; conv => whnf
 repeat refine zq ?_
 refine At.planG tab_ok mixed [] (.take 0 (.take 1 (.take 3 (.take 4 (.take 5 (.take 6 (.br 2 (.br 7 (.take 8 (.take 9 (.done))) (.nob)) (.nob)))))))) (by kernel_rfl) (by kernel_rfl) trivial ?_; conv => whnf
 refine ⟨[.x (ptr h)], fun w' hw => hb3.load (n := 1) (i := 0) (off := 0) hw rfl rfl, ?_⟩; conv => whnf
 refine ⟨[.i c.m], fun w' hw => hb5.load (n := 1) (i := 0) (off := 0) hw rfl rfl, ?_⟩; conv => whnf
 refine ⟨[.i c.f], fun w' hw => hb5.load (n := 1) (i := 0) (off := 1) hw rfl rfl, ?_⟩; conv => whnf
 refine ⟨?_, trivial⟩; conv => whnf
 refine ansR_call b48 (rd1 (nopS _)) (fun w' hw => spans_r h rb N hN mk w' (H.ext hw.fr)) ?_
 intro vs; conv => whnf
 refine ⟨⟨trivial, fun w' hw => hw.fr⟩, ?_⟩; conv => whnf
 refine ⟨?_, trivial⟩; conv => whnf
 refine ans_call (r := .b (hasS (entB N mk).spans c.m c.f)) b54 rfl (fun w' hw => has_c (entB N mk).spans c.m c.f [] vs w' (SlOf.of_row (hw.row (id := 0) rfl) (fun _ _ => nilS) (big (ent_sz hN mk)))) ?_; conv => whnf
 refine ⟨⟨trivial, fun w' hw => hw.fr⟩, ?_⟩; conv => whnf
 repeat refine zq ?_
 refine At.ret (At.doneB tab_ok hB _ rfl fun w' hw => ⟨rfl, hw.fr⟩)
def withB (N : List Nd) (marks : List Int) (c : Span) : List Int := marks.filter fun m => hasS (entB N m).spans c.m c.f
theorem with_r (h rb : Nat) (N : List Nd) (hN : NOk N) (marks : List Int) (c : Span) (mv : Value) (S : List Nat) (w : World) (hm : SlOf intT S w mv marks) (hml : marks.length ≤ 1000000) (H : HR [] w h rb N) : AnsR Tryz.prog 50 [ptr h, mv, vS c] [.row 3 1 ((withB N marks c).map encI)] w := by
 have hNl := hN.len
 replace hm := hm.avoid (S' := []) (fun b hb => by cases hb)
 refine calls_e [.x (ptr h), .x mv, .s (.agg (encS c))] Tryz.func50 rfl rfl (Nat.le_of_ble_eq_true rfl) trivial fun B hB => ?_
 repeat refine zq ?_
 refine zr ?_; conv => whnf
 refine ⟨rfl, ?_⟩; conv => whnf
 intro b3; conv => whnf
 intro b5; conv => whnf
 repeat refine zq ?_
 refine zr ?_; conv => whnf
 refine ansR_call b65 (rd1 (nopI _)) (fun w' hw => cloneI_c marks [] mv w' (hm.fr hw.fr) hml) ?_
 intro vm; conv => whnf
 refine row_call (id := 2) b88 rfl (fun r v' L' => r = .s (.c (.o 2 v')) ∧ L' = (withB N marks c).map encI) (fun w' hw => ?_) ?_
 ·have hap := hw.apart (i := 0) (j := 2) rfl rfl (by decide)
  have hap1 := hw.apart (i := 1) (j := 2) rfl rfl (by decide)
  refine (deleteI_c marks vm w' (hw.row (id := 2) rfl) (by omega) 96 #[ptr b3, ptr b5] (fun m => !hasS (entB N m).spans c.m c.f) b96 (fun x _ w'' hf => ?_)).mono ?_
  ·refine with1_r b3 b5 h rb N hN c x w'' (box_p (T := 30) ((hf.block b3 (Array.getElem?_eq_some_iff.1 (hw.box (id := 0) rfl)).1 (hap b3 (by simp [LO.blks]))).trans (hw.box (id := 0) rfl)) nilS) (box_s (T := 43) ((hf.block b5 (Array.getElem?_eq_some_iff.1 (hw.box (id := 1) rfl)).1 (hap1 b5 (by simp [LO.blks]))).trans (hw.box (id := 1) rfl)) nilS) ?_
   exact ((hw.liftH (H.avoid fun b hb => by cases hb)).avoid (S' := blkOf vm) (fun b hb => .inl (List.mem_flatMap.2 ⟨_, look_mem (s := 2) rfl, hb⟩))).fr hf |>.nilS
  ·rintro e w'' ⟨v', he, hh, hf, hb⟩
   refine ⟨.s (.c (.o 2 v')), v', _, he, ⟨rfl, rfl⟩, ?_, hf, fun b hb' => .inl (hb b hb')⟩
   unfold withB
   have e : (fun x => !(!hasS (entB N x).spans c.m c.f)) = (fun m => hasS (entB N m).spans c.m c.f) := by funext x; simp
   rw [e] at hh
   exact hh
 rintro r v2 L' ⟨rfl, rfl⟩ hsl
 refine ⟨hsl, nopI _, ?_⟩; conv => whnf
 repeat refine zq ?_
 refine At.ret (At.doneB tab_ok hB _ rfl fun w' hw => ansR_row (id := 2) hw rfl rfl rfl)
def spentB (N : List Nd) (c : Span) : List Int := withB N (spendsB N) c
theorem spentB_len (N : List Nd) (c : Span) : (spentB N c).length ≤ N.length := Nat.le_trans (List.length_filter_le _ _) (spendsB_len N)
theorem spent_r (h rb : Nat) (N : List Nd) (hN : NOk N) (c : Span) (w : World) (H : HR [] w h rb N) : AnsR Tryz.prog 19 [ptr h, vS c] [.row 3 1 ((spentB N c).map encI)] w := by
 have hNl := hN.len
 have hsl := spendsB_len N
 refine calls_e [.x (ptr h), .s (.agg (encS c))] Tryz.func19 rfl rfl (Nat.le_of_ble_eq_true rfl) trivial fun B hB => ?_
 repeat refine zq ?_
 refine zr ?_; conv => whnf
 intro b3; conv => whnf
 repeat refine zq ?_
 refine At.planG tab_ok mixed [(0, LO.box b3 43 (encS c))] (.take 0 (.take 1 (.take 3 (.br 2 (.br 4 (.take 5 (.done)) (.nob)) (.nob))))) (by kernel_rfl) (by kernel_rfl) ⟨rfl, trivial⟩ ?_; conv => whnf
 refine ⟨?_, trivial⟩; conv => whnf
 refine ansR_call b45 (rd1 (nopI _)) (fun w' hw => spends_r h rb N hN w' (H.ext hw.fr)) ?_
 intro vm; conv => whnf
 refine ⟨⟨⟨rfl, trivial⟩, fun w' hw => hw.fr⟩, ?_⟩; conv => whnf
 refine ⟨?_, trivial⟩; conv => whnf
 refine ansR_call b50 (rd1 (nopI _)) (fun w' hw => with_r h rb N hN (spendsB N) c vm [] w' (slI _ (hw.row (id := 1) rfl) (by omega)) (by omega) (H.ext hw.fr)) ?_
 intro vo; conv => whnf
 refine ⟨⟨⟨rfl, trivial⟩, fun w' hw => hw.fr⟩, ?_⟩; conv => whnf
 repeat refine zq ?_
 refine At.ret (At.doneB tab_ok hB _ rfl fun w' hw => ansR_row (id := 2) hw rfl rfl rfl)
end Go.Proofs.YtgpgbiklefkjjaaGreatDoor
namespace Go.Proofs.YtgpgbiklefkjjaaGreatDoor
open Go.Vc Rt Go.Bs
set_option maxHeartbeats 1000000
def okP (N : List Nd) (one : Bool) (a b : Int) : Bool := (!one || decide ((entB N a).author = (entB N b).author)) && apartB N a b
def pairB (N : List Nd) (one : Bool) : List Int → List Int
 | [] => []
 | a :: r => match r.find? (okP N one a) with
  | some b => [a, b]
  | none => pairB N one r
theorem find_first {α : Type} {p : α → Bool} : ∀ {xs : List α} {j : Nat} {b : α}, (∀ i y, i < j → xs[i]? = some y → p y = false) → xs[j]? = some b → p b = true → xs.find? p = some b
 | [], j, b, _, hb, _ => by simp at hb
 | x :: xs, 0, b, _, hb, hp => by simp at hb; subst hb; simp [hp]
 | x :: xs, j + 1, b, h, hb, hp => by
  have hx := h 0 x (by omega) rfl
  rw [List.find?_cons_of_neg (by simp [hx])]
  exact find_first (j := j) (fun i y hi hy => h (i + 1) y (by omega) (by simpa using hy)) (by simpa using hb) hp
theorem find_none {α : Type} {p : α → Bool} {xs : List α} (h : ∀ (i : Nat) y, xs[i]? = some y → p y = false) : xs.find? p = none := by
 rw [List.find?_eq_none]
 intro x hx
 obtain ⟨i, hi⟩ := List.getElem?_of_mem hx
 simp [h i x hi]
theorem drop_cons' {α : Type} {xs : List α} {k : Nat} {x : α} (hx : xs[k]? = some x) : xs.drop k = x :: xs.drop (k + 1) := by
 have hlt := (List.getElem?_eq_some_iff.1 hx).1
 rw [List.drop_eq_getElem_cons hlt]
 rw [List.getElem?_eq_getElem hlt] at hx
 rw [Option.some.inj hx]
theorem pair_r (h rb : Nat) (N : List Nd) (hN : NOk N) (l : List Int) (one : Bool) (lv : Value) (S : List Nat) (w : World) (hl : SlOf intT S w lv l) (hll : l.length ≤ 1000000) (H : HR [] w h rb N) : AnsR Tryz.prog 51 [ptr h, lv, .bool one] [.row 3 1 ((pairB N one l).map encI)] w := by
 replace hl := hl.avoid (S' := []) (fun b hb => by cases hb)
 have hln := hl.len
 refine calls_e [.x (ptr h), .x lv, .b one] Tryz.func51 rfl rfl (Nat.le_of_ble_eq_true rfl) trivial fun B hB => ?_
 repeat refine zq ?_
 refine zr ?_; conv => whnf
 repeat refine zq ?_
 refine zr ?_; conv => whnf
 refine ⟨hl.sl, ?_⟩; conv => whnf
 repeat refine zq ?_
 refine At.block ?_
 refine At.loopH (fun k : Nat => { N := Tryz.f51.ntmps, sl := [(0, some (.x ((ptr h)))), (1, some (.x lv)), (2, some (.b one)), (15, some (.x lv)), (16, some (.i l.length)), (17, some (.i k))], gl := [], hp := [], S := [], ws := w }) (fun k : Nat => k ≤ l.length ∧ pairB N one (l.drop k) = pairB N one l) (fun k : Nat => l.length - k)
  (fun w' hw => ⟨0, ⟨Nat.zero_le _, rfl⟩, Le.of rfl rfl ⟨rfl, rfl, rfl, rfl, congrArg (Value.int .i64) hln, rfl, trivial⟩, hw.same rfl rfl rfl, trivial, trivial⟩) ?_
 rintro k ⟨hk, hinv⟩
 repeat refine zq ?_
 refine zr ?_; conv => whnf
 repeat refine zq ?_
 refine At.cond rfl (fun hc => At.skip ?_) (fun hc => At.exit ?_)
 ·have hlta : k < l.length := by have := of_decide_eq_true hc; omega
  obtain ⟨a, ha⟩ : ∃ x, l[k]? = some x := ⟨_, List.getElem?_eq_getElem hlta⟩
  have hlt : k < l.length := by have := of_decide_eq_true hc; omega
  have hdr := drop_cons' ha
  have hsub := hl.part (lo := ((k : Int) + 1)) (hi := (l.length : Int)) (by omega) (by omega) (by omega)
  have hL : (l.take (l.length : Int).toNat).drop ((k : Int) + 1).toNat = l.drop (k + 1) := by rw [Int.toNat_natCast, List.take_length]; congr 1
  rw [hL] at hsub
  replace hsub : SlOf intT [] w (subV lv 1 ((k : Int) + 1) (slen lv)) (l.drop (k + 1)) := by rw [hln]; exact hsub
  have hsl := hsub.len
  rw [List.length_drop] at hsl
  rw [hdr] at hinv
  repeat refine zq ?_
  refine At.block ?_
  repeat refine zq ?_
  refine zr ?_; conv => whnf
  refine ⟨by omega, ?_⟩; conv => whnf
  refine ⟨by omega, ?_⟩; conv => whnf
  refine ⟨[.i a], fun w' hw => hl.load (n := 1) hw.fr ha rfl, ?_⟩; conv => whnf
  repeat refine zq ?_
  refine zr ?_; conv => whnf
  refine entry_call (h := h) (rb := rb) (N := N) (mk := a) hN (fun w' hw => H.ext hw.fr) ?_
  intro ka ya sa; conv => whnf
  intro b9; conv => whnf
  repeat refine zq ?_
  refine zr ?_; conv => whnf
  refine ⟨⟨by omega, by omega⟩, ?_⟩; conv => whnf
  refine ⟨hl.sl, ?_⟩; conv => whnf
  refine ⟨by omega, ?_⟩; conv => whnf
  refine ⟨by omega, ?_⟩; conv => whnf
  refine ⟨by omega, ?_⟩; conv => whnf
  refine ⟨hsub.sl, ?_⟩; conv => whnf
  repeat refine zq ?_
  refine At.block ?_
  refine At.loopH (fun j : Nat => { N := Tryz.f51.ntmps, sl := [(0, some (.x ((ptr h)))), (1, some (.x lv)), (2, some (.b one)), (8, some (.i a)), (9, some (.s (.c (.p 3 b9 0)))), (15, some (.x lv)), (16, some (.i l.length)), (17, some (.i k)), (31, some (.x ((subV lv 1 ((k : Int) + 1) (slen lv))))), (32, some (.i ((l.length - (k + 1) : Nat)))), (33, some (.i j))], gl := [], hp := [(3, LO.box b9 39 (encO (entB N a) 0 ka 1 ya 2 sa)), (2, .row sa 43 3 ((entB N a).spans.map encS)), (1, .row ya 3 1 ((entB N a).keys.map encI)), (0, .row ka 3 1 ((entB N a).knows.map encI))], S := [], ws := w }) (fun j : Nat => j ≤ l.length - (k + 1) ∧ ∀ i y, i < j → (l.drop (k + 1))[i]? = some y → okP N one a y = false) (fun j : Nat => l.length - (k + 1) - j)
   (fun w' hw => ⟨0, ⟨Nat.zero_le _, fun i y hi => by omega⟩, Le.of rfl rfl ⟨rfl, rfl, rfl, rfl, rfl, rfl, rfl, rfl, rfl, congrArg (Value.int .i64) hsl, rfl, trivial⟩, hw.keep [3, 2, 1, 0] rfl rfl rfl, ⟨⟨_, _, rfl⟩, trivial⟩, ⟨encO_ok ⟨_, _, _, rfl⟩ ⟨_, _, _, rfl⟩ ⟨_, _, _, rfl⟩, (nopS _).okH, (nopI _).okH, (nopI _).okH, trivial⟩⟩) ?_
  rintro j ⟨hj, hall⟩
  repeat refine zq ?_
  refine zr ?_; conv => whnf
  repeat refine zq ?_
  refine At.cond rfl (fun hc => At.skip ?_) (fun hc => At.exit ?_)
  ·have hjl : j < l.length - (k + 1) := by have := of_decide_eq_true hc; omega
   obtain ⟨b, hb⟩ : ∃ b, (l.drop (k + 1))[j]? = some b := ⟨_, List.getElem?_eq_getElem (by rw [List.length_drop]; exact hjl)⟩
   repeat refine zq ?_
   refine At.block ?_
   repeat refine zq ?_
   refine zr ?_; conv => whnf
   refine ⟨by omega, ?_⟩; conv => whnf
   refine ⟨by omega, ?_⟩; conv => whnf
   refine ⟨[.i b], fun w' hw => hsub.load (n := 1) hw.fr hb rfl, ?_⟩; conv => whnf
   repeat refine zq ?_
   refine zr ?_; conv => whnf
   refine entry_call (h := h) (rb := rb) (N := N) (mk := b) hN (fun w' hw => H.ext hw.fr) ?_
   intro kb yb sb; conv => whnf
   intro b13; conv => whnf
   repeat refine zq ?_
   refine zr ?_; conv => whnf
   refine ⟨.b (apartB N a b), gimp_of (ans_quiet b46 (fun w' hw => apart_r h rb N hN a b w' (H.ext hw.fr))), ?_⟩; conv => whnf
   repeat refine zq ?_
   refine At.cond rfl (fun hq => ?_) (fun hq => At.skip ?_)
   ·have hok : okP N one a b = true := by simpa [okP, band, bor] using hq
    have hres : pairB N one l = [a, b] := by
     rw [← hinv]
     show (match (l.drop (k + 1)).find? (okP N one a) with | some b => [a, b] | none => pairB N one (l.drop (k + 1))) = _
     rw [find_first hall hb hok]
    repeat refine zq ?_
    refine zr ?_; conv => whnf
    intro vr; conv => whnf
    repeat refine zq ?_
    refine At.ret (At.doneB tab_ok hB _ rfl fun w' hw => ?_)
    rw [hres]
    exact ansR_row (id := 8) hw rfl rfl rfl
   ·have hok : okP N one a b = false := by simpa [okP, band, bor] using hq
    repeat refine zq ?_
    refine zr ?_; conv => whnf
    refine ⟨⟨by omega, by omega⟩, ?_⟩; conv => whnf
    refine At.nextH fun w' hw => ⟨j + 1, ⟨by omega, fun i y hi hy => by rcases Nat.lt_or_ge i j with hi' | hi'; exact hall i y hi' hy; obtain rfl : i = j := (by omega); rw [hb] at hy; cases hy; exact hok⟩, by omega, Le.of rfl rfl ⟨rfl, rfl, rfl, rfl, rfl, rfl, rfl, rfl, rfl, rfl, rfl, trivial⟩, hw.keep [3, 2, 1, 0] rfl rfl rfl, ⟨⟨_, _, rfl⟩, trivial⟩, ⟨encO_ok ⟨_, _, _, rfl⟩ ⟨_, _, _, rfl⟩ ⟨_, _, _, rfl⟩, (nopS _).okH, (nopI _).okH, (nopI _).okH, trivial⟩⟩
  ·have hge : j = l.length - (k + 1) := by have := of_decide_eq_false hc; omega
   subst hge
   have hres : pairB N one (l.drop (k + 1)) = pairB N one l := by
    rw [← hinv]
    show _ = (match (l.drop (k + 1)).find? (okP N one a) with | some b => [a, b] | none => pairB N one (l.drop (k + 1)))
    rw [find_none (p := okP N one a) (fun i y hy => hall i y (by have := (List.getElem?_eq_some_iff.1 hy).1; rw [List.length_drop] at this; exact this) hy)]
   repeat refine zq ?_
   refine zr ?_; conv => whnf
   refine ⟨⟨by omega, by omega⟩, ?_⟩; conv => whnf
   refine At.nextH fun w' hw => ⟨k + 1, ⟨by omega, hres⟩, by omega, Le.of rfl rfl ⟨rfl, rfl, rfl, rfl, rfl, rfl, trivial⟩, hw.keep [] rfl rfl rfl, trivial, trivial⟩
 ·have hge : k = l.length := by have := of_decide_eq_false hc; omega
  subst hge
  rw [List.drop_length] at hinv
  repeat refine zq ?_
  refine zr ?_; conv => whnf
  repeat refine zq ?_
  refine At.ret (At.doneB tab_ok hB _ rfl fun w' hw => ?_)
  rw [← hinv]
  exact ansR_nil hw rfl rfl
end Go.Proofs.YtgpgbiklefkjjaaGreatDoor
namespace Go.Proofs.YtgpgbiklefkjjaaGreatDoor
open Go.Vc Rt Go.Bs
set_option maxHeartbeats 1000000
theorem ansD_row {f : FuncId} {args : List Value} {E size : Nat} {α : Type} {enc : α → List CV} {hl : ∀ x, (enc x).length = size} {xs : List α} {w : World} (h : AnsR Tryz.prog f args [.row E size (xs.map enc)] w) (hs : xs.length ≤ 9223372036854775807) : AnsD Tryz.prog f args (flat size enc hl) xs w :=
 h.mono fun e w' ⟨vs, he, ho, hx⟩ => by
  cases vs with
  | nil => exact ho.elim
  | cons v vs =>
   obtain ⟨h1, h2, h3, h4⟩ := ho
   have : vs = [] := h4
   subst this
   exact ⟨v, he, fun S hS => SlOf.of_row h1 (fun b hb hm => by have := h2 b hb; have := hS b hm; omega) hs, hx⟩
def lackRow (N : List Nd) (a : Int) (pre : List Int) : List Span := pre.flatMap fun b => if apartB N a b then common (entB N a).spans (entB N b).spans else []
def lackTo (N : List Nd) (l : List Int) (k : Nat) : List Span := (List.range k).flatMap fun i => lackRow N (l.getD i 0) (l.take i)
def lacksB (N : List Nd) : List Span := norm (lackTo N (spendsB N) (spendsB N).length)
structure Sm (N : List Nd) : Prop where
 len : N.length ≤ 24
 sp : ∀ n ∈ N, n.e.spans.length ≤ 40
theorem ent_sp {N : List Nd} (hS : Sm N) (mk : Int) : (entB N mk).spans.length ≤ 40 := by
 unfold entB
 split
 ·simp [zeroE]
 ·rename_i i hi
  obtain ⟨j, n, rfl, hj, _, hnj⟩ := hidx_spec hi
  rw [hnj]
  exact hS.sp n (List.mem_of_getElem? hj)
theorem comRow_len (x : Span) : ∀ ys : List Span, (comRow x ys).length ≤ ys.length := by
 intro ys
 unfold comRow
 induction ys with
 | nil => simp
 | cons y r ih =>
  simp only [List.filterMap_cons, List.flatMap_cons, List.length_append, List.length_cons] at ih ⊢
  split <;> simp at * <;> omega
theorem flatMap_len {α β : Type} (f : α → List β) (c : Nat) : ∀ (l : List α), (∀ x ∈ l, (f x).length ≤ c) → (l.flatMap f).length ≤ c * l.length
 | [], _ => by simp
 | x :: r, h => by
  have h1 := h x (by simp)
  have h2 := flatMap_len f c r fun y hy => h y (List.mem_cons_of_mem _ hy)
  rw [List.flatMap_cons, List.length_append, List.length_cons, Nat.mul_add, Nat.mul_one]; omega
theorem common_len {a b : List Span} (ha : a.length ≤ 40) (hb : b.length ≤ 40) : (common a b).length ≤ 1600 := by
 have h1 := norm_len a
 have h2 := norm_len b
 have h3 := norm_len (comAll (norm a) (norm b))
 have h4 : (comAll (norm a) (norm b)).length ≤ 40 * (norm a).length := flatMap_len _ 40 _ fun x _ => by have := comRow_len x (norm b); omega
 unfold common; omega
theorem lackRow_len {N : List Nd} (hS : Sm N) (a : Int) (pre : List Int) : (lackRow N a pre).length ≤ 1600 * pre.length := flatMap_len _ 1600 _ fun b _ => by
 split
 ·exact common_len (ent_sp hS _) (ent_sp hS _)
 ·simp
theorem lackTo_len {N : List Nd} (hS : Sm N) (l : List Int) : ∀ k, k ≤ 24 → (lackTo N l k).length ≤ 1600 * (k * k)
 | 0, _ => by simp [lackTo]
 | k + 1, hk => by
  have ih := lackTo_len hS l k (by omega)
  have h2 := lackRow_len hS (l.getD k 0) (l.take k)
  have h3 : (l.take k).length ≤ k := by rw [List.length_take]; omega
  have e : lackTo N l (k + 1) = lackTo N l k ++ lackRow N (l.getD k 0) (l.take k) := by unfold lackTo; rw [List.range_succ, List.flatMap_append]; simp
  rw [e, List.length_append]
  have h4 : 1600 * (l.take k).length ≤ 1600 * k := Nat.mul_le_mul_left _ h3
  have h5 : (k + 1) * (k + 1) = k * k + (2 * k + 1) := by rw [Nat.add_mul, Nat.mul_add]; omega
  rw [h5, Nat.mul_add]; omega
theorem lackRow_snoc {N : List Nd} {a : Int} {pre : List Int} {j : Nat} {b : Int} (hb : pre[j]? = some b) : lackRow N a (pre.take (j + 1)) = lackRow N a (pre.take j) ++ if apartB N a b then common (entB N a).spans (entB N b).spans else [] := by
 rw [take_snoc hb]; unfold lackRow; rw [List.flatMap_append]; simp
theorem lacks_r (h rb : Nat) (N : List Nd) (hN : NOk N) (hS : Sm N) (w : World) (H : HR [] w h rb N) : AnsR Tryz.prog 17 [ptr h] [.row 43 3 ((lacksB N).map encS)] w := by
 have hN30 := hS.len
 have hsl := spendsB_len N
 refine calls_e [.x (ptr h)] Tryz.func17 rfl rfl (Nat.le_of_ble_eq_true rfl) trivial fun B hB => ?_
 repeat refine zq ?_
 refine zr ?_; conv => whnf
 repeat refine zq ?_
 refine zr ?_; conv => whnf
 refine fresh_call b45 (fun w' hw => ansD_row (enc := fun n : Int => [.i n]) (hl := fun _ => rfl) (spends_r h rb N hN w' (H.ext hw.fr)) (by omega)) ?_
 intro lv w1 w2 hw1 hx12 hl; conv => whnf
 replace H : HR [] w2 h rb N := (H.ext hw1.fr).ext hx12
 have hx : Ext w w2 := hw1.fr.trans hx12
 clear hw1
 replace hl : SlOf intT [] w2 lv (spendsB N) := hl
 have hln := hl.len
 generalize hll : spendsB N = l at hsl hl hln
 repeat refine zq ?_
 refine zr ?_; conv => whnf
 repeat refine zq ?_
 refine zr ?_; conv => whnf
 refine ⟨hl.sl, ?_⟩; conv => whnf
 repeat refine zq ?_
 refine At.block ?_
 refine At.loopH (fun p' : Nat × Value => { N := Tryz.f17.ntmps, sl := [(0, some (.x ((ptr h)))), (3, some (.x lv)), (4, some (.s (.c (.o 0 p'.2)))), (11, some (.x lv)), (12, some (.i l.length)), (13, some (.i p'.1))], gl := [], hp := [(0, .row p'.2 43 3 ((lackTo N l p'.1).map encS))], S := [], ws := w2 }) (fun p' : Nat × Value => p'.1 ≤ l.length) (fun p' : Nat × Value => l.length - p'.1)
  (fun w' hw => ⟨(0, .slice none 0 0), Nat.zero_le _, Le.of rfl rfl ⟨rfl, rfl, rfl, rfl, congrArg (Value.int .i64) hln, rfl, trivial⟩, hw.nil rfl rfl rfl, ⟨⟨_, _, _, rfl⟩, trivial⟩, ⟨(nopS _).okH, trivial⟩⟩) ?_
 rintro ⟨k, vo⟩ hk
 simp only at hk ⊢
 repeat refine zq ?_
 refine zr ?_; conv => whnf
 repeat refine zq ?_
 refine At.cond rfl (fun hc => At.skip ?_) (fun hc => At.exit ?_)
 ·have hlta : k < l.length := by have := of_decide_eq_true hc; omega
  obtain ⟨a, ha⟩ : ∃ x, l[k]? = some x := ⟨_, List.getElem?_eq_getElem hlta⟩
  have hlt : k < l.length := by have := of_decide_eq_true hc; omega
  have hsub := hl.begin (hi := (k : Int)) (k := k) rfl (by omega)
  replace hsub : SlOf intT [] w2 (subV lv 1 0 k) (l.take k) := hsub
  have hsln := hsub.len
  rw [List.length_take, Nat.min_eq_left (by omega)] at hsln
  have htl := lackTo_len hS l k (by omega)
  have hkk : k * k ≤ 24 * 24 := Nat.mul_le_mul (by omega) (by omega)
  have hto : lackTo N l (k + 1) = lackTo N l k ++ lackRow N a (l.take k) := by
   unfold lackTo; rw [List.range_succ, List.flatMap_append]; simp [List.getD_eq_getElem?_getD, ha]
  repeat refine zq ?_
  refine At.block ?_
  repeat refine zq ?_
  refine zr ?_; conv => whnf
  refine ⟨by omega, ?_⟩; conv => whnf
  refine ⟨by omega, ?_⟩; conv => whnf
  refine ⟨[.i a], fun w' hw => hl.load (n := 1) hw.fr ha rfl, ?_⟩; conv => whnf
  repeat refine zq ?_
  refine zr ?_; conv => whnf
  refine ⟨hl.sl, ?_⟩; conv => whnf
  refine ⟨by omega, ?_⟩; conv => whnf
  refine ⟨by omega, ?_⟩; conv => whnf
  refine ⟨by omega, ?_⟩; conv => whnf
  refine ⟨hsub.sl, ?_⟩; conv => whnf
  repeat refine zq ?_
  refine At.block ?_
  refine At.loopH (fun p' : Nat × Value => { N := Tryz.f17.ntmps, sl := [(0, some (.x ((ptr h)))), (3, some (.x lv)), (4, some (.s (.c (.o 0 p'.2)))), (6, some (.i a)), (11, some (.x lv)), (12, some (.i l.length)), (13, some (.i k)), (20, some (.x ((subV lv 1 0 k)))), (21, some (.i k)), (22, some (.i p'.1))], gl := [], hp := [(0, .row p'.2 43 3 ((lackTo N l k ++ lackRow N a ((l.take k).take p'.1)).map encS))], S := [], ws := w2 }) (fun p' : Nat × Value => p'.1 ≤ k) (fun p' : Nat × Value => k - p'.1)
   (fun w' hw => ⟨(0, vo), Nat.zero_le _, Le.of rfl rfl ⟨rfl, rfl, rfl, rfl, rfl, rfl, rfl, rfl, congrArg (Value.int .i64) hsln, rfl, trivial⟩, hw.keep [0] ?_ rfl rfl, ⟨⟨_, _, _, rfl⟩, trivial⟩, ⟨(nopS _).okH, trivial⟩⟩) ?_
  ·show [(0, LO.row vo 43 3 _)] = [(0, LO.row vo 43 3 _)]
   simp [lackRow]
  rintro ⟨j, vq⟩ hj
  simp only at hj ⊢
  repeat refine zq ?_
  refine zr ?_; conv => whnf
  repeat refine zq ?_
  refine At.cond rfl (fun hc => At.skip ?_) (fun hc => At.exit ?_)
  ·have hjl : j < k := by have := of_decide_eq_true hc; omega
   obtain ⟨b, hb⟩ : ∃ b, (l.take k)[j]? = some b := ⟨_, List.getElem?_eq_getElem (by rw [List.length_take]; omega)⟩
   have hsn := lackRow_snoc (N := N) (a := a) hb
   have hrl := lackRow_len hS a ((l.take k).take j)
   have hrl2 : ((l.take k).take j).length ≤ 24 := by rw [List.length_take]; omega
   have hcl := common_len (ent_sp hS a) (ent_sp hS b)
   repeat refine zq ?_
   refine At.block ?_
   repeat refine zq ?_
   refine zr ?_; conv => whnf
   refine ⟨by omega, ?_⟩; conv => whnf
   refine ⟨by omega, ?_⟩; conv => whnf
   refine ⟨[.i b], fun w' hw => hsub.load (n := 1) hw.fr hb rfl, ?_⟩; conv => whnf
   repeat refine zq ?_
   refine zr ?_; conv => whnf
   refine ans_call b46 rfl (fun w' hw => apart_r h rb N hN a b w' (H.ext hw.fr)) ?_; conv => whnf
   repeat refine zq ?_
   cases hab : apartB N a b with
   | false =>
    rw [hab, if_neg (by decide), List.append_nil] at hsn
    refine At.cond (t := false) rfl (fun hq => by cases hq) (fun _ => At.skip ?_)
    repeat refine zq ?_
    refine zr ?_; conv => whnf
    refine ⟨⟨by omega, by omega⟩, ?_⟩; conv => whnf
    refine At.nextH fun w' hw => ⟨(j + 1, vq), by simp only; omega, by simp only; omega, Le.of rfl rfl ⟨rfl, rfl, rfl, rfl, rfl, rfl, rfl, rfl, rfl, rfl, trivial⟩, hw.keep [0] (by simp only [hsn]; rfl) rfl rfl, ⟨⟨_, _, _, rfl⟩, trivial⟩, ⟨(nopS _).okH, trivial⟩⟩
   | true =>
    rw [hab, if_pos rfl] at hsn
    refine At.cond (t := true) rfl (fun _ => ?_) (fun hq => by cases hq)
    repeat refine zq ?_
    refine zr ?_; conv => whnf
    refine ansR_call b48 (rd1 (nopS _)) (fun w' hw => spans_r h rb N hN a w' (H.ext hw.fr)) ?_
    intro va; conv => whnf
    refine ansR_call b48 (rd1 (nopS _)) (fun w' hw => spans_r h rb N hN b w' (H.ext hw.fr)) ?_
    intro vb; conv => whnf
    have hsa := ent_sp hS a
    have hsb := ent_sp hS b
    refine ansR_call b47 (rd1 (nopS _)) (fun w' hw => common_c (entB N a).spans (entB N b).spans [] [] va vb w' (slS _ (hw.row (id := 1) rfl) (by omega)) (slS _ (hw.row (id := 2) rfl) (by omega)) (by omega) (by omega)) ?_
    intro vc; conv => whnf
    refine ⟨rfl, ?_⟩
    refine obl_map encS_ints ?_; conv => whnf
    refine ⟨⟨rfl, by simp only [List.length_map, List.length_append]; omega⟩, ?_⟩; conv => whnf
    intro vq2; conv => whnf
    repeat refine zq ?_
    refine zr ?_; conv => whnf
    refine ⟨⟨by omega, by omega⟩, ?_⟩; conv => whnf
    refine At.nextH fun w' hw => ⟨(j + 1, vq2), by simp only; omega, by simp only; omega, Le.of rfl rfl ⟨rfl, rfl, rfl, rfl, rfl, rfl, rfl, rfl, rfl, rfl, trivial⟩, hw.keep [0] ?_ rfl rfl, ⟨⟨_, _, _, rfl⟩, trivial⟩, ⟨(nopS _).okH, trivial⟩⟩
    show [(0, LO.row vq2 43 3 _)] = [(0, LO.row vq2 43 3 _)]
    rw [hsn, ← List.append_assoc, List.map_append (l₁ := lackTo N l k ++ lackRow N a ((l.take k).take j))]
  ·have hge : j = k := by have := of_decide_eq_false hc; omega
   subst hge
   rw [List.take_take, Nat.min_self]
   repeat refine zq ?_
   refine zr ?_; conv => whnf
   refine ⟨⟨by omega, by omega⟩, ?_⟩; conv => whnf
   refine At.nextH fun w' hw => ⟨(j + 1, vq), by simp only; omega, by simp only; omega, Le.of rfl rfl ⟨rfl, rfl, rfl, rfl, rfl, rfl, trivial⟩, hw.keep [0] (by simp only [hto]; rfl) rfl rfl, ⟨⟨_, _, _, rfl⟩, trivial⟩, ⟨(nopS _).okH, trivial⟩⟩
 ·have hge : k = l.length := by have := of_decide_eq_false hc; omega
  subst hge
  have htl := lackTo_len hS l l.length (by omega)
  have hkk : l.length * l.length ≤ 24 * 24 := Nat.mul_le_mul (by omega) (by omega)
  repeat refine zq ?_
  refine zr ?_; conv => whnf
  refine ansR_call b49 (rd1 (nopS _)) (fun w' hw => norm_c (lackTo N l l.length) [] vo w' (slS _ (hw.row (id := 0) rfl) (by omega)) (by omega)) ?_
  intro vn; conv => whnf
  repeat refine zq ?_
  refine At.ret (At.doneB tab_ok hB _ rfl fun w' hw => ?_)
  unfold lacksB
  rw [hll]
  exact ⟨[vn], rfl, ⟨hw.row (id := 1) rfl, fun b hb => (hw.fresh (id := 1) rfl b hb).elim (fun h => by cases h) (fun h => Nat.le_trans hx.size h), fun u hu => (by cases hu), rfl⟩, hx.trans hw.fr⟩
theorem lacksB_len {N : List Nd} (hS : Sm N) : (lacksB N).length ≤ 1000000 := by
 have h1 := spendsB_len N
 have h2 := hS.len
 have h3 := lackTo_len hS (spendsB N) (spendsB N).length (by omega)
 have h4 := norm_len (lackTo N (spendsB N) (spendsB N).length)
 have hkk : (spendsB N).length * (spendsB N).length ≤ 24 * 24 := Nat.mul_le_mul (by omega) (by omega)
 unfold lacksB; omega
theorem lack_r (h rb : Nat) (N : List Nd) (hN : NOk N) (hS : Sm N) (w : World) (H : HR [] w h rb N) : Ans Tryz.prog 15 [ptr h] (.i (count (lacksB N))) w := by
 have hl := lacksB_len hS
 refine calls_e [.x (ptr h)] Tryz.func15 rfl rfl (Nat.le_of_ble_eq_true rfl) trivial fun B hB => ?_
 repeat refine zq ?_
 refine zr ?_; conv => whnf
 repeat refine zq ?_
 refine zr ?_; conv => whnf
 refine ansR_call b17 (rd1 (nopS _)) (fun w' hw => lacks_r h rb N hN hS w' (H.ext hw.fr)) ?_
 intro vl; conv => whnf
 refine ans_call b44 rfl (fun w' hw => count_c (lacksB N) [] vl w' (slS _ (hw.row (id := 0) rfl) hl) hl) ?_; conv => whnf
 repeat refine zq ?_
 refine At.ret (At.doneB tab_ok hB _ rfl fun w' hw => ⟨rfl, hw.fr⟩)
end Go.Proofs.YtgpgbiklefkjjaaGreatDoor
namespace Go.Proofs.YtgpgbiklefkjjaaGreatDoor
open Go.Vc Rt Go.Bs
theorem eq_of_upto {α : Type} {a b : List α} (hl : a.length = b.length) (h : ∀ (i : Nat) x y, i < a.length → a[i]? = some x → b[i]? = some y → x = y) : a = b := by
 apply List.ext_getElem?
 intro i
 by_cases hi : i < a.length
 ·rw [List.getElem?_eq_getElem hi, List.getElem?_eq_getElem (by omega)]
  rw [h i _ _ hi (List.getElem?_eq_getElem hi) (List.getElem?_eq_getElem (by omega))]
 ·rw [List.getElem?_eq_none (by omega), List.getElem?_eq_none (by omega)]
theorem ints_r (a b : List Int) (v u : Value) (w : World) (h : SlOf intT [] w v a) (h' : SlOf intT [] w u b) : Ans Tryz.prog 18 [v, u] (.b (decide (a = b))) w := by
 have hsm := h.small
 have hln := h.len
 have hln' := h'.len
 refine calls_plainB [.x v, .x u] Tryz.func18 rfl rfl (Nat.le_of_ble_eq_true rfl) rfl fun B hB => ?_
 repeat refine zq ?_
 refine zr ?_; conv => whnf
 repeat refine zq ?_
 refine zr ?_; conv => whnf
 refine ⟨h.sl, ?_⟩; conv => whnf
 refine ⟨h'.sl, ?_⟩; conv => whnf
 repeat refine zq ?_
 refine At.cond rfl (fun hq => ?_) (fun hq => At.skip ?_)
 ·have hne : a.length ≠ b.length := by simp at hq; omega
  repeat refine zq ?_
  refine zr ?_; conv => whnf
  repeat refine zq ?_
  refine At.ret (At.doneB tab_ok hB _ rfl fun w' hw => ⟨?_, hw.fr⟩)
  rw [decide_eq_false (fun e => hne (by rw [e]))]
 have hne : a.length = b.length := by simp at hq; omega
 clear hq
 repeat refine zq ?_
 refine zr ?_; conv => whnf
 repeat refine zq ?_
 refine At.block ?_
 refine At.loopH (fun k : Nat => { N := Tryz.f18.ntmps, sl := [(0, some (.x v)), (1, some (.x u)), (5, some (.i k))], gl := [], hp := [], S := [], ws := w }) (fun k : Nat => k ≤ a.length ∧ ∀ (j : Nat) x y, j < k → a[j]? = some x → b[j]? = some y → x = y) (fun k : Nat => a.length - k)
  (fun w' hw => ⟨0, ⟨Nat.zero_le _, fun j x y hj => by omega⟩, Le.of rfl rfl ⟨rfl, rfl, rfl, trivial⟩, hw.same rfl rfl rfl, trivial, trivial⟩) ?_
 rintro k ⟨hk, hall⟩
 repeat refine zq ?_
 refine zr ?_; conv => whnf
 refine ⟨h.sl, ?_⟩; conv => whnf
 repeat refine zq ?_
 refine At.cond rfl (fun hc => At.skip ?_) (fun hc => At.exit ?_)
 ·have hlt : k < a.length := by have := of_decide_eq_true hc; omega
  obtain ⟨x, hx⟩ : ∃ x, a[k]? = some x := ⟨_, List.getElem?_eq_getElem hlt⟩
  have hlt : k < a.length := by have := of_decide_eq_true hc; omega
  obtain ⟨y, hy⟩ : ∃ y, b[k]? = some y := ⟨_, List.getElem?_eq_getElem (by omega)⟩
  repeat refine zq ?_
  refine At.block ?_
  repeat refine zq ?_
  refine At.planG tab_ok mixed [] (.take 0 (.take 1 (.take 2 (.take 3 (.take 4 (.take 5 (.take 6 (.take 7 (.take 8 (.done)))))))))) (by kernel_rfl) (by kernel_rfl) trivial ?_; conv => whnf
  refine ⟨by omega, ?_⟩; conv => whnf
  refine ⟨by omega, ?_⟩; conv => whnf
  refine ⟨[.i x], fun w' hw => h.load (n := 1) hw hx rfl, ?_⟩; conv => whnf
  refine ⟨by omega, ?_⟩; conv => whnf
  refine ⟨by omega, ?_⟩; conv => whnf
  refine ⟨[.i y], fun w' hw => h'.load (n := 1) hw hy rfl, ?_⟩; conv => whnf
  repeat refine zq ?_
  refine At.cond rfl (fun hq => ?_) (fun hq => At.skip ?_)
  ·have hxy : x ≠ y := by simpa using hq
   repeat refine zq ?_
   refine zr ?_; conv => whnf
   repeat refine zq ?_
   refine At.ret (At.doneB tab_ok hB _ rfl fun w' hw => ⟨?_, hw.fr⟩)
   rw [decide_eq_false (fun e => hxy (by subst e; rw [hx] at hy; exact Option.some.inj hy))]
  ·have hxy : x = y := by simpa using hq
   repeat refine zq ?_
   refine zr ?_; conv => whnf
   refine ⟨⟨by omega, by omega⟩, ?_⟩; conv => whnf
   refine At.nextH fun w' hw => ⟨k + 1, ⟨by omega, fun j x' y' hj hx' hy' => by rcases Nat.lt_or_ge j k with hj' | hj'; exact hall j x' y' hj' hx' hy'; obtain rfl : j = k := (by omega); rw [hx] at hx'; rw [hy] at hy'; cases hx'; cases hy'; exact hxy⟩, by omega, Le.of rfl rfl ⟨rfl, rfl, rfl, trivial⟩, hw.keep [] rfl rfl rfl, trivial, trivial⟩
 ·have hge : k = a.length := by have := of_decide_eq_false hc; omega
  subst hge
  repeat refine zq ?_
  refine zr ?_; conv => whnf
  repeat refine zq ?_
  refine At.ret (At.doneB tab_ok hB _ rfl fun w' hw => ⟨?_, hw.fr⟩)
  rw [decide_eq_true (eq_of_upto hne fun i x y hi => hall i x y hi)]
theorem spansEq_r (a b : List Span) (v u : Value) (w : World) (h : SlOf spT [] w v a) (h' : SlOf spT [] w u b) : Ans Tryz.prog 16 [v, u] (.b (decide (a = b))) w := by
 have hsm := h.small
 have hln := h.len
 have hln' := h'.len
 refine calls_plainB [.x v, .x u] Tryz.func16 rfl rfl (Nat.le_of_ble_eq_true rfl) rfl fun B hB => ?_
 repeat refine zq ?_
 refine zr ?_; conv => whnf
 repeat refine zq ?_
 refine zr ?_; conv => whnf
 refine ⟨h.sl, ?_⟩; conv => whnf
 refine ⟨h'.sl, ?_⟩; conv => whnf
 repeat refine zq ?_
 refine At.cond rfl (fun hq => ?_) (fun hq => At.skip ?_)
 ·have hne : a.length ≠ b.length := by simp at hq; omega
  repeat refine zq ?_
  refine zr ?_; conv => whnf
  repeat refine zq ?_
  refine At.ret (At.doneB tab_ok hB _ rfl fun w' hw => ⟨?_, hw.fr⟩)
  rw [decide_eq_false (fun e => hne (by rw [e]))]
 have hne : a.length = b.length := by simp at hq; omega
 clear hq
 repeat refine zq ?_
 refine zr ?_; conv => whnf
 repeat refine zq ?_
 refine At.block ?_
 refine At.loopH (fun k : Nat => { N := Tryz.f16.ntmps, sl := [(0, some (.x v)), (1, some (.x u)), (5, some (.i k))], gl := [], hp := [], S := [], ws := w }) (fun k : Nat => k ≤ a.length ∧ ∀ (j : Nat) x y, j < k → a[j]? = some x → b[j]? = some y → x = y) (fun k : Nat => a.length - k)
  (fun w' hw => ⟨0, ⟨Nat.zero_le _, fun j x y hj => by omega⟩, Le.of rfl rfl ⟨rfl, rfl, rfl, trivial⟩, hw.same rfl rfl rfl, trivial, trivial⟩) ?_
 rintro k ⟨hk, hall⟩
 repeat refine zq ?_
 refine zr ?_; conv => whnf
 refine ⟨h.sl, ?_⟩; conv => whnf
 repeat refine zq ?_
 refine At.cond rfl (fun hc => At.skip ?_) (fun hc => At.exit ?_)
 ·have hlt : k < a.length := by have := of_decide_eq_true hc; omega
  obtain ⟨x, hx⟩ : ∃ x, a[k]? = some x := ⟨_, List.getElem?_eq_getElem hlt⟩
  have hlt : k < a.length := by have := of_decide_eq_true hc; omega
  obtain ⟨y, hy⟩ : ∃ y, b[k]? = some y := ⟨_, List.getElem?_eq_getElem (by omega)⟩
  repeat refine zq ?_
  refine At.block ?_
  repeat refine zq ?_
  refine At.planG tab_ok mixed [] (.take 0 (.take 1 (.take 2 (.take 3 (.take 4 (.take 5 (.take 6 (.take 7 (.take 8 (.done)))))))))) (by kernel_rfl) (by kernel_rfl) trivial ?_; conv => whnf
  refine ⟨by omega, ?_⟩; conv => whnf
  refine ⟨by omega, ?_⟩; conv => whnf
  refine ⟨encS x, fun w' hw => h.load (n := 3) hw hx rfl, ?_⟩; conv => whnf
  refine ⟨by omega, ?_⟩; conv => whnf
  refine ⟨by omega, ?_⟩; conv => whnf
  refine ⟨encS y, fun w' hw => h'.load (n := 3) hw hy rfl, ?_⟩; conv => whnf
  repeat refine zq ?_
  refine At.cond rfl (fun hq => ?_) (fun hq => At.skip ?_)
  ·have hxy : x ≠ y := fun e => by subst e; simp at hq
   repeat refine zq ?_
   refine zr ?_; conv => whnf
   repeat refine zq ?_
   refine At.ret (At.doneB tab_ok hB _ rfl fun w' hw => ⟨?_, hw.fr⟩)
   rw [decide_eq_false (fun e => hxy (by subst e; rw [hx] at hy; exact Option.some.inj hy))]
  ·have hxy : x = y := by
    have h3 : x.m = y.m ∧ x.f = y.f ∧ x.t = y.t := by simpa using hq
    obtain ⟨h1, h2, h3⟩ := h3
    cases x; cases y; simp only at h1 h2 h3; subst h1; subst h2; subst h3; rfl
   repeat refine zq ?_
   refine zr ?_; conv => whnf
   refine ⟨⟨by omega, by omega⟩, ?_⟩; conv => whnf
   refine At.nextH fun w' hw => ⟨k + 1, ⟨by omega, fun j x' y' hj hx' hy' => by rcases Nat.lt_or_ge j k with hj' | hj'; exact hall j x' y' hj' hx' hy'; obtain rfl : j = k := (by omega); rw [hx] at hx'; rw [hy] at hy'; cases hx'; cases hy'; exact hxy⟩, by omega, Le.of rfl rfl ⟨rfl, rfl, rfl, trivial⟩, hw.keep [] rfl rfl rfl, trivial, trivial⟩
 ·have hge : k = a.length := by have := of_decide_eq_false hc; omega
  subst hge
  repeat refine zq ?_
  refine zr ?_; conv => whnf
  repeat refine zq ?_
  refine At.ret (At.doneB tab_ok hB _ rfl fun w' hw => ⟨?_, hw.fr⟩)
  rw [decide_eq_true (eq_of_upto hne fun i x y hi => hall i x y hi)]
end Go.Proofs.YtgpgbiklefkjjaaGreatDoor
namespace Go.Proofs.YtgpgbiklefkjjaaGreatDoor
open Go.RowKit
def pp1 (x : Int) : Int := IntKind.u64.wrap (bits .and .u64 (x / 2) 6148914691236517205 + bits .and .u64 x 6148914691236517205)
def pp2 (x : Int) : Int := IntKind.u64.wrap (bits .and .u64 (x / 4) 3689348814741910323 + bits .and .u64 x 3689348814741910323)
def pp3 (x : Int) : Int := bits .and .u64 (IntKind.u64.wrap (x / 16 + x)) 1085102592571150095
def pp4 (x : Int) : Int := IntKind.u64.wrap (x + x / 256)
def pp5 (x : Int) : Int := IntKind.u64.wrap (x + x / 65536)
def pp6 (x : Int) : Int := IntKind.u64.wrap (x + x / 4294967296)
def pop64 (x : Int) : Int := bits .and .i64 (wrap64 (pp6 (pp5 (pp4 (pp3 (pp2 (pp1 x))))))) 127
def popN (n : Nat) : Nat := ((List.range 12).filter fun k => n.testBit k).length
theorem pop_fin2 : ∀ a b : Fin 64, pop64 ((a.val * 64 + b.val : Nat) : Int) = (popN (a.val * 64 + b.val) : Int) := by decide +kernel
theorem pop_fin (n : Nat) (h : n < 4096) : pop64 (n : Int) = (popN n : Int) := by
 have := pop_fin2 ⟨n / 64, by omega⟩ ⟨n % 64, by omega⟩
 rwa [show (⟨n / 64, by omega⟩ : Fin 64).val * 64 + (⟨n % 64, by omega⟩ : Fin 64).val = n by show n / 64 * 64 + n % 64 = n; omega] at this
theorem ones64_w (x : Int) (h0 : 0 ≤ x) (h1 : x < 4096) (w : World) : Calls Tryz.prog 60 #[.int .u64 x] w (fun e w' => e = .returned (.int .i64 (pop64 x)) ∧ w' = w) := by
 go_enter Tryz.func60, Tryz.ntmps60
 go_wp2
 go_ret
 refine ⟨?_, rfl⟩
 rfl
end Go.Proofs.YtgpgbiklefkjjaaGreatDoor
namespace Go.Proofs.YtgpgbiklefkjjaaGreatDoor
open Go.Vc Rt Go.Bs
theorem ones64_c (n : Nat) (hn : n < 4096) (w : World) : Ans Tryz.prog 60 [.int .u64 n] (.i (popN n)) w :=
 (ones64_w n (by omega) (by omega) w).mono fun e w' ⟨he, hw⟩ => ⟨by rw [he, pop_fin n hn]; rfl, by rw [hw]; exact Fr.refl _ _⟩
theorem ones_c (n : Nat) (hn : n < 4096) (w : World) : Ans Tryz.prog 21 [.int .u64 n] (.i (popN n)) w := by
 refine calls_plainB [.x (.int .u64 n)] Tryz.func21 rfl rfl (Nat.le_of_ble_eq_true rfl) rfl fun B hB => ?_
 repeat refine zq ?_
 refine zr ?_; conv => whnf
 repeat refine zq ?_
 refine At.cond (t := false) rfl (fun hq => by cases hq) (fun _ => At.skip ?_)
 repeat refine zq ?_
 refine zr ?_; conv => whnf
 refine ans_call b60 rfl (fun w' _ => ones64_c n hn w') ?_; conv => whnf
 repeat refine zq ?_
 refine At.ret (At.doneB tab_ok hB _ rfl fun w' hw => ⟨rfl, hw.fr⟩)
end Go.Proofs.YtgpgbiklefkjjaaGreatDoor
