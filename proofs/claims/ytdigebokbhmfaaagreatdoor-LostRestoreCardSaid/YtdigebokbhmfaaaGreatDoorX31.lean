/- Texts that the law leans on. -/
import Derived.Test.YtdigebokbhmfaaaGreatDoorX30
import Derived.Test.YtdigebokbhmfaaaGreatDoorX29
import Derived.Test.YtdigebokbhmfaaaGreatDoorX18
import Derived.Deep.Slices
import Derived.ProofKit
import Derived.OpenShut
import Derived.ChangeSame
import Derived.Carry
import Derived.Test.YtdigebokbhmfaaaGreatDoorRows
import Derived.LaidMore
import Derived.MakeChecks
import Derived.Lib.LaidTab
import Derived.ChangeArms
set_option linter.unusedVariables false
set_option linter.unusedSimpArgs false
namespace Go.Proofs.YtdigebokbhmfaaaGreatDoor.Ap
open Go.Vc Rt Go.Bs
set_option maxHeartbeats 2000000
theorem cnt_eq {l : List Int} (h : l.Nodup) (x : Int) (b : Bool) : (l.filter fun o => decide (o = x) && b).length = if x ∈ l ∧ b = true then 1 else 0 := by
 induction l with
 | nil => simp
 | cons y r ih =>
  obtain ⟨h1, h2⟩ := List.nodup_cons.1 h
  have ih := ih h2
  rw [List.filter_cons]
  by_cases e : y = x
  ·subst e
   rw [if_neg (fun q => h1 q.1)] at ih
   cases b with
   | false => simp at ih ⊢
   | true =>
    rw [decide_eq_true rfl, Bool.true_and, if_pos rfl, List.length_cons, ih, if_pos ⟨List.mem_cons_self .., rfl⟩]
  ·rw [decide_eq_false e, Bool.false_and, if_neg (by decide), ih]
   have : (x ∈ y :: r) ↔ x ∈ r := ⟨fun q => (List.mem_cons.1 q).resolve_left fun q => e q.symm, List.mem_cons_of_mem _⟩
   simp only [this]
def keptC (N : List Nd) (a n : Int) (l : List Int) : Nat := (l.filter fun m => decide ((entB N m).author = a) && !lostQ N a n m).length
theorem keptC_snoc {N : List Nd} {a n : Int} {l : List Int} {k : Nat} {x : Int} (hx : l[k]? = some x) : keptC N a n (l.take (k + 1)) = keptC N a n (l.take k) + if (entB N x).author = a ∧ (!lostQ N a n x) = true then 1 else 0 := by
 unfold keptC
 rw [take_snoc hx, List.filter_append, List.length_append, List.filter_cons, List.filter_nil]
 congr 1
 by_cases h : (entB N x).author = a
 ·rw [decide_eq_true h, Bool.true_and]
  cases lostQ N a n x <;> simp [h]
 ·rw [decide_eq_false h, Bool.false_and, if_neg (by decide), if_neg (fun q => h q.1)]; rfl
theorem keptC_le {N : List Nd} {a n : Int} {l : List Int} {k : Nat} : keptC N a n (l.take k) ≤ k := by
 unfold keptC; exact Nat.le_trans (List.length_filter_le _ _) (by rw [List.length_take]; omega)
theorem keptC_all {R : List SK} {N : List Nd} (h : GN R N) (hRl : R.length ≤ 4000) (a n : Int) : keptC N a n (sortedB N) = cutO N a n := by
 have e : (ownOf (beforeH R N a n) a).length = cutO N a n := by
  rw [own_before h hRl, List.length_take]; unfold cutO; omega
 rw [← e, own_sub h (before_good h hRl a n) (fun m hm => ((before_mem h hRl a n).1 hm).1)]
 unfold keptC ownOf
 rw [List.filter_filter]
 congr 1
 refine List.filter_congr fun m hm => ?_
 rw [Bool.and_comm]
 congr 1
 have := before_mem h hRl a n (m := m)
 rw [← has_iff] at this
 have hmN := sor_mem.1 hm
 cases hq : lostQ N a n m with
 | true =>
  cases hs : (alook (hidx (beforeH R N a n)) m).isSome with
  | false => rfl
  | true => have := (this.1 hs).2; rw [hq] at this; cases this
 | false => rw [this.2 ⟨hmN, hq⟩]; rfl
def hitB (N : List Nd) (x g : Int) : Bool := decide (g = x) || beforeB N g x
theorem has_eq {N A B C X : List Nd} {m : Int} (h : m ∈ mksN C ↔ m ∈ mksN A ∨ m ∈ mksN B ∨ m ∈ mksN X) : (alook (hidx C) m).isSome = ((alook (hidx A) m).isSome || (alook (hidx B) m).isSome || (alook (hidx X) m).isSome) := by
 rw [← has_iff, ← has_iff, ← has_iff, ← has_iff] at h
 rw [Bool.eq_iff_iff, h, Bool.or_eq_true, Bool.or_eq_true, or_assoc]
theorem restore_law (xs : List Post) (one two : List Int) (a n : Int) (v v1 v2 : Value) (w : World) (hG : Gl w) (h : SlOf postT [] w v xs) (h1 : SlOf intT [] w v1 one) (h2 : SlOf intT [] w v2 two) : Ans Tryz.prog 3 [v, v1, v2, vI a, vI n] (.b true) w := by
 have hl1 := h1.len
 have hl2 := h2.len
 refine calls_e [.x v, .x v1, .x v2, .i a, .i n] Tryz.func3 rfl rfl (Nat.le_of_ble_eq_true rfl) trivial fun B hB => ?_
 repeat refine zq ?_
 refine zr ?_; conv => whnf
 repeat refine zq ?_
 refine zr ?_; conv => whnf
 refine ans_call (r := .b true) b5 rfl (fun w' hw => small_c w' (hG.ext hw.fr)) ?_; conv => whnf
 repeat refine zq ?_
 refine zr ?_; conv => whnf
 refine ans_call (r := .b (few08 xs 18)) b6 rfl (fun w' hw => few08_c xs 18 v w' (h.ext hw.fr)) ?_; conv => whnf
 refine ⟨gimp_of h1.sl, ?_⟩; conv => whnf
 refine ⟨gimp_of h2.sl, ?_⟩; conv => whnf
 repeat refine zq ?_
 refine At.cond rfl (fun hq => ?_) (fun hq => At.skip ?_)
 ·repeat refine zq ?_
  refine zr ?_; conv => whnf
  repeat refine zq ?_
  refine At.ret (At.doneB tab_ok hB _ rfl fun w' hw => ⟨rfl, hw.fr⟩)
 have hfew : few08 xs 18 = true ∧ one.length ≤ 20 ∧ two.length ≤ 20 := by
  simp only [bor, Bool.or_eq_false_iff, Bool.not_eq_false', decide_eq_false_iff_not] at hq
  exact ⟨hq.1.1, by omega, by omega⟩
 clear hq
 obtain ⟨hf0, ho1, ho2⟩ := hfew
 obtain ⟨hxl, hP⟩ := few8_spec hf0
 have hkeys : ∀ p ∈ xs, iR p.key := fun p hp => by
  obtain ⟨i, hi, rfl⟩ := List.getElem_of_mem hp
  obtain ⟨l, ⟨_, _, _, _, _, _, hk⟩, _⟩ := h.elem i _ (List.getElem?_eq_getElem hi)
  exact hk
 have hRo := (play_ok xs (by omega) (fun p hp => ⟨hP p hp, hkeys p hp⟩) xs.length (Nat.le_refl _)).1
 rw [List.take_length] at hRo
 have hg := plH_good (plL xs).1 (plL xs).2
 repeat refine zq ?_
 refine zr ?_; conv => whnf
 refine newAb_call (fun i : Value × Nat × Nat × List Nat × List Nat => .tup [.c (.x i.1), .c (.x (ptr i.2.1))]) (fun i => i.2.2.2.1 ++ i.2.2.2.2) (fun i => PlayQ i.2.1 i.2.2.1 i.2.2.2.1 i.2.2.2.2 (plH (plL xs).1 (plL xs).2) (plL xs).1) b7 (fun _ => rfl) (fun w' hw => play_c xs v w' (hG.ext hw.fr) (h.ext hw.fr) (by omega) hP) ?_
 rintro ⟨sv0, hp, rb, BH, BR⟩
 simp only
 generalize hN' : plH (plL xs).1 (plL xs).2 = N at hg ⊢
 generalize (plL xs).1 = R at hg hRo ⊢
 have hN := nok_good hRo hg
 have hNl := hN.len
 have hml := marksB_len N
 have hsl := sortedB_len N
 have hgx := before_good hg hRo.len a n
 obtain ⟨hga, hma⟩ := restrict_good hg hRo.len one
 obtain ⟨hgb, hmb⟩ := restrict_good hg hRo.len two
 have hPQ : ∀ {st : St} {w' : World}, Holds st w' → Vc.look st.hp 0 = some (.ab (BH ++ BR) (PlayQ hp rb BH BR N R)) → HR [] w' hp rb N ∧ RgR [] w' rb R := fun hw hl => by
  have ho := (hw.objs _ (look_mem hl)).2 _ fun _ _ => rfl
  exact ⟨histQ_hr ho.1 hN, ringQ_rr ho.2⟩
 conv => whnf
 repeat refine zq ?_
 refine zr ?_; conv => whnf
 repeat refine zq ?_
 refine At.cond (t := false) rfl (fun hq => by cases hq) (fun _ => At.skip ?_)
 repeat refine zq ?_
 refine zr ?_; conv => whnf
 refine newAb_call (fun i : Nat × List Nat => .x (ptr i.1)) (fun i => i.2) (fun i => HistQ i.1 rb i.2 (restrictB R N one)) b8 (fun _ => rfl) (fun w' hw => restrict_r hp rb N hN R one v1 w' (hG.ext hw.fr) (hPQ hw rfl).1 (hPQ hw rfl).2 (h1.ext hw.fr) (by omega)) ?_
 rintro ⟨pa, BA⟩
 conv => whnf
 repeat refine zq ?_
 refine zr ?_; conv => whnf
 refine newAb_call (fun i : Nat × List Nat => .x (ptr i.1)) (fun i => i.2) (fun i => HistQ i.1 rb i.2 (restrictB R N two)) b8 (fun _ => rfl) (fun w' hw => restrict_r hp rb N hN R two v2 w' (hG.ext hw.fr) (hPQ hw rfl).1 (hPQ hw rfl).2 (h2.ext hw.fr) (by omega)) ?_
 rintro ⟨pb, BB⟩
 conv => whnf
 repeat refine zq ?_
 refine zr ?_; conv => whnf
 refine newAb_call (fun i : Nat × List Nat => .x (ptr i.1)) (fun i => i.2) (fun i => HistQ i.1 rb i.2 (beforeH R N a n)) b9 (fun _ => rfl) (fun w' hw => before_h hp rb N hN R a n w' (hG.ext hw.fr) (hPQ hw rfl).1 (hPQ hw rfl).2) ?_
 rintro ⟨px, BX⟩
 conv => whnf
 repeat refine zq ?_
 refine At.regionG tab_ok ?_; conv => whnf
 repeat refine zq ?_
 refine At.cond (t := false) rfl (fun hq => by cases hq) (fun _ => At.skip ?_)
 have hmx : ∀ {m : Int}, m ∈ mksN (beforeH R N a n) ↔ m ∈ mksN N ∧ lostQ N a n m = false := fun {m} => before_mem hg hRo.len a n
 have hlx := @lost_iff R N hg a n
 have hnx : n ≤ 0 → marksB (beforeH R N a n) = marksB N := fun hn => before_none hg hRo.len a hn
 have hsx := straight_before hg hRo.len a n
 have hkc := keptC_all hg hRo.len a n
 generalize hA' : restrictB R N one = A at hga hma ⊢
 generalize hB' : restrictB R N two = Bq at hgb hmb ⊢
 generalize hX' : beforeH R N a n = X at hgx hmx hnx hsx ⊢
 have hAo := nok_good hRo hga
 have hBo := nok_good hRo hgb
 have hXo := nok_good hRo hgx
 have hHA : ∀ {st : St} {w' : World}, Holds st w' → Vc.look st.hp 1 = some (histO pa rb BA A) → HR [] w' pa rb A := fun hw hl => histO_hr (hw.objs _ (look_mem hl)) hAo (fun b hb => by cases hb)
 have hHB : ∀ {st : St} {w' : World}, Holds st w' → Vc.look st.hp 2 = some (histO pb rb BB Bq) → HR [] w' pb rb Bq := fun hw hl => histO_hr (hw.objs _ (look_mem hl)) hBo (fun b hb => by cases hb)
 have hHX : ∀ {st : St} {w' : World}, Holds st w' → Vc.look st.hp 3 = some (histO px rb BX X) → HR [] w' px rb X := fun hw hl => histO_hr (hw.objs _ (look_mem hl)) hXo (fun b hb => by cases hb)
 repeat refine zq ?_
 refine zr ?_; conv => whnf
 repeat (first | (refine ⟨rfl, ?_⟩; conv => whnf))
 intro v4; conv => whnf
 refine newAbG_call (fun i : Nat × List Nat × List Nd => .tup [.c (.x (ptr i.1)), .c (.i 0)]) (fun i => i.2.1) (fun i => HistQ i.1 rb i.2.1 i.2.2) (fun i => GN R i.2.2 ∧ ∀ m, m ∈ mksN i.2.2 ↔ m ∈ mksN A ∨ ∃ x ∈ [(pb, rb, Bq), (px, rb, X)], m ∈ mksN x.2.2) b10 (fun _ => rfl) (fun w' hw => restore_r pa rb A R hRo hga [(pb, rb, Bq), (px, rb, X)] (fun x hx => by
   simp only [List.mem_cons, List.not_mem_nil, or_false] at hx
   rcases hx with rfl | rfl
   ·exact hgb
   ·exact hgx) v4 w' (hG.ext hw.fr) (hHA hw rfl) (hPQ hw rfl).2 (fun x hx => by
   simp only [List.mem_cons, List.not_mem_nil, or_false] at hx
   rcases hx with rfl | rfl
   ·exact hHB hw rfl
   ·exact hHX hw rfl) (SlOf.of_row (enc := fun v => [.x v]) (xs := [ptr pb, ptr px]) (hw.row (id := 4) rfl) (fun b hb => nilS) (by simp))) ?_
 rintro ⟨pc, BC, C⟩ ⟨hgc, hmc⟩
 simp only at hgc hmc
 conv => whnf
 repeat refine zq ?_
 refine zr ?_; conv => whnf
 repeat (first | (refine ⟨rfl, ?_⟩; conv => whnf))
 intro v6; conv => whnf
 refine newAbG_call (fun i : Nat × List Nat × List Nd => .tup [.c (.x (ptr i.1)), .c (.i 0)]) (fun i => i.2.1) (fun i => HistQ i.1 rb i.2.1 i.2.2) (fun i => GN R i.2.2 ∧ ∀ m, m ∈ mksN i.2.2 ↔ m ∈ mksN X ∨ ∃ x ∈ [(pa, rb, A), (pb, rb, Bq)], m ∈ mksN x.2.2) b10 (fun _ => rfl) (fun w' hw => restore_r px rb X R hRo hgx [(pa, rb, A), (pb, rb, Bq)] (fun x hx => by
   simp only [List.mem_cons, List.not_mem_nil, or_false] at hx
   rcases hx with rfl | rfl
   ·exact hga
   ·exact hgb) v6 w' (hG.ext hw.fr) (hHX hw rfl) (hPQ hw rfl).2 (fun x hx => by
   simp only [List.mem_cons, List.not_mem_nil, or_false] at hx
   rcases hx with rfl | rfl
   ·exact hHA hw rfl
   ·exact hHB hw rfl) (SlOf.of_row (enc := fun v => [.x v]) (xs := [ptr pa, ptr pb]) (hw.row (id := 6) rfl) (fun b hb => nilS) (by simp))) ?_
 rintro ⟨pd, BD, D⟩ ⟨hgd, hmd⟩
 simp only at hgd hmd
 conv => whnf
 have hCo := nok_good hRo hgc
 have hDo := nok_good hRo hgd
 have hc3 : ∀ m, m ∈ mksN C ↔ m ∈ mksN A ∨ m ∈ mksN Bq ∨ m ∈ mksN X := fun m => by rw [hmc]; simp
 have hd3 : ∀ m, m ∈ mksN D ↔ m ∈ mksN A ∨ m ∈ mksN Bq ∨ m ∈ mksN X := fun m => by
  rw [hmd]
  simp only [List.mem_cons, List.not_mem_nil, or_false, exists_eq_or_imp, exists_eq_left]
  constructor
  ·rintro (h | h | h)
   ·exact .inr (.inr h)
   ·exact .inl h
   ·exact .inr (.inl h)
  ·rintro (h | h | h)
   ·exact .inr (.inl h)
   ·exact .inr (.inr h)
   ·exact .inl h
 have hcd : marksB C = marksB D := marks_eq hgc hgd fun m => by rw [hc3, hd3]
 have hHC : ∀ {st : St} {w' : World}, Holds st w' → Vc.look st.hp 5 = some (histO pc rb BC C) → HR [] w' pc rb C := fun hw hl => histO_hr (hw.objs _ (look_mem hl)) hCo (fun b hb => by cases hb)
 have hHD : ∀ {st : St} {w' : World}, Holds st w' → Vc.look st.hp 7 = some (histO pd rb BD D) → HR [] w' pd rb D := fun hw hl => histO_hr (hw.objs _ (look_mem hl)) hDo (fun b hb => by cases hb)
 repeat refine zq ?_
 refine At.regionG tab_ok ?_; conv => whnf
 repeat refine zq ?_
 refine At.cond (t := false) rfl (fun hq => by cases hq) (fun _ => At.skip ?_)
 repeat refine zq ?_
 refine zr ?_; conv => whnf
 repeat refine zq ?_
 refine zr ?_; conv => whnf
 refine ansR_call b12 (rd1 (nopI _)) (fun w' hw => marks_r hp rb N hN w' (hPQ hw rfl).1) ?_
 intro vm; conv => whnf
 refine ansR_call b11 (rd1 (nopI _)) (fun w' hw => sorted_r hp rb N hN vm w' (hPQ hw rfl).1 (slI _ (hw.row (id := 8) rfl) (by omega))) ?_
 intro vs; conv => whnf
 repeat refine zq ?_
 refine zr ?_; conv => whnf
 repeat refine zq ?_
 refine At.block ?_
 refine At.loopH (fun p' : Nat × Value => { N := Tryz.f3.ntmps, sl := [(3, some (.i a)), (4, some (.i n)), (11, some (.b true)), (13, some (.x ((ptr hp)))), (14, some (.x ((ptr pa)))), (15, some (.x ((ptr pb)))), (16, some (.x ((ptr px)))), (17, some (.x ((ptr pc)))), (19, some (.x ((ptr pd)))), (21, some (.s (.c (.o 10 p'.2)))), (22, some (.s (.c (.o 9 vs)))), (23, some (.i p'.1))], gl := [], hp := [(10, .row p'.2 3 1 ((ownT N a ((sortedB N).take p'.1)).map encI)), (9, .row vs 3 1 ((sortedB N).map encI)), (7, histO pd rb BD D), (5, histO pc rb BC C), (3, histO px rb BX X), (2, histO pb rb BB Bq), (1, histO pa rb BA A), (0, LO.ab (BH ++ BR) (PlayQ hp rb BH BR N R))], S := [], ws := w }) (fun p' : Nat × Value => p'.1 ≤ (sortedB N).length) (fun p' : Nat × Value => (sortedB N).length - p'.1)
  (fun w' hw => ⟨(0, .slice none 0 0), Nat.zero_le _, Le.of rfl rfl ⟨rfl, rfl, rfl, rfl, rfl, rfl, rfl, rfl, rfl, rfl, rfl, rfl, trivial⟩, Holds.nilK hw [9, 7, 5, 3, 2, 1, 0] rfl rfl rfl, ⟨⟨_, _, _, rfl⟩, ⟨_, _, _, rfl⟩, trivial⟩, ⟨(nopI _).okH, (nopI _).okH, trivial⟩⟩) ?_
 rintro ⟨k, vo⟩ hk
 simp only at hk ⊢
 repeat refine zq ?_
 refine zr ?_; conv => whnf
 refine ⟨rfl, ?_⟩; conv => whnf
 repeat refine zq ?_
 refine At.cond rfl (fun hc => At.skip ?_) (fun hc => At.exit ?_)
 ·have hlt : k < (sortedB N).length := by have := of_decide_eq_true hc; simp only [List.length_map] at this; omega
  obtain ⟨x, hx⟩ : ∃ x, (sortedB N)[k]? = some x := ⟨_, List.getElem?_eq_getElem hlt⟩
  have hsn := ownT_snoc (N := N) (a := a) hx
  have hol := ownT_len (N := N) (a := a) (l := sortedB N) (k := k)
  repeat refine zq ?_
  refine At.block ?_
  repeat refine zq ?_
  refine zr ?_; conv => whnf
  refine ⟨rfl, ?_⟩; conv => whnf
  refine ⟨by omega, ?_⟩; conv => whnf
  refine ⟨by (try simp only [List.length_map]); omega, ?_⟩; conv => whnf
  refine ⟨encI x, ⟨rfl, rfl, by omega, by rw [Int.toNat_natCast, List.getElem?_map, hx]; rfl⟩, ?_⟩; conv => whnf
  refine entry_call (h := hp) (rb := rb) (N := N) (mk := x) hN (fun w' hw => (hPQ hw rfl).1) ?_
  intro k4 y5 s6; conv => whnf
  intro b11; conv => whnf
  repeat refine zq ?_
  refine zr ?_; conv => whnf
  repeat refine zq ?_
  refine At.cond rfl (fun hq => ?_) (fun hq => At.skip ?_)
  ·have hqa : (entB N x).author = a := of_decide_eq_true hq
   rw [if_pos hqa] at hsn
   repeat refine zq ?_
   refine zr ?_; conv => whnf
   refine ⟨rfl, ?_⟩; conv => whnf
   refine ⟨by omega, ?_⟩; conv => whnf
   refine ⟨by (try simp only [List.length_map]); omega, ?_⟩; conv => whnf
   refine ⟨encI x, ⟨rfl, rfl, by omega, by rw [Int.toNat_natCast, List.getElem?_map, hx]; rfl⟩, ?_⟩; conv => whnf
   intro v8; conv => whnf
   refine ⟨rfl, ?_⟩; conv => whnf
   refine ⟨⟨rfl, by simp; omega⟩, ?_⟩; conv => whnf
   intro v9; conv => whnf
   repeat refine zq ?_
   refine zr ?_; conv => whnf
   refine ⟨⟨by omega, by omega⟩, ?_⟩; conv => whnf
   refine At.nextH fun w' hw => ⟨(k + 1, v9), by simp only; omega, by simp only; omega, Le.of rfl rfl ⟨rfl, rfl, rfl, rfl, rfl, rfl, rfl, rfl, rfl, rfl, rfl, rfl, trivial⟩, hw.keep [10, 9, 7, 5, 3, 2, 1, 0] (by simp only [hsn, List.map_append]; rfl) rfl rfl, ⟨⟨_, _, _, rfl⟩, ⟨_, _, _, rfl⟩, trivial⟩, ⟨(nopI _).okH, (nopI _).okH, trivial⟩⟩
  ·have hqa : ¬ (entB N x).author = a := of_decide_eq_false hq
   rw [if_neg hqa, List.append_nil] at hsn
   repeat refine zq ?_
   refine zr ?_; conv => whnf
   refine ⟨⟨by omega, by omega⟩, ?_⟩; conv => whnf
   refine At.nextH fun w' hw => ⟨(k + 1, vo), by simp only; omega, by simp only; omega, Le.of rfl rfl ⟨rfl, rfl, rfl, rfl, rfl, rfl, rfl, rfl, rfl, rfl, rfl, rfl, trivial⟩, hw.keep [10, 9, 7, 5, 3, 2, 1, 0] (by simp only [hsn]; rfl) rfl rfl, ⟨⟨_, _, _, rfl⟩, ⟨_, _, _, rfl⟩, trivial⟩, ⟨(nopI _).okH, (nopI _).okH, trivial⟩⟩
 have hge : k = (sortedB N).length := by have := of_decide_eq_false hc; simp only [List.length_map] at this; omega
 subst hge
 rw [List.take_length]
 have hoe : ownT N a (sortedB N) = ownOf N a := rfl
 have hol : (ownOf N a).length ≤ (sortedB N).length := List.length_filter_le _ _
 rw [hoe]
 have hcut : (((ownOf N a).length : Int) - min (max n 0) ((ownOf N a).length : Int)) = (cutO N a n : Int) := by unfold cutO; omega
 have hcl : cutO N a n ≤ (ownOf N a).length := by unfold cutO; omega
 have hgl : (goneB N a n).length = (ownOf N a).length - cutO N a n := by unfold goneB; rw [List.length_drop]
 have hond := hg.own_nodup a
 have hgS : ∀ {st : St} {w' : World}, Holds st w' → Vc.look st.hp 10 = some (.row vo 3 1 ((ownOf N a).map encI)) → SlOf intT [] w' (subV vo 1 (cutO N a n) (ownOf N a).length) (goneB N a n) := fun hw hl => by
  have hp := SlOf.part (slI (ownOf N a) (hw.row hl) (by omega)) (lo := (cutO N a n : Int)) (hi := ((ownOf N a).length : Int)) (by omega) (by omega) (by omega)
  rw [Int.toNat_natCast, Int.toNat_natCast, List.take_length] at hp
  exact hp
 repeat refine zq ?_
 refine zr ?_; conv => whnf
 refine ⟨rfl, ?_⟩; conv => whnf
 refine ⟨rfl, ?_⟩; conv => whnf
 refine ⟨by simp only [List.length_map]; exact ⟨by omega, by omega⟩, ?_⟩; conv => whnf
 refine ⟨rfl, ?_⟩; conv => whnf
 refine ⟨by simp only [List.length_map]; omega, ?_⟩; conv => whnf
 refine ⟨by simp only [List.length_map]; omega, ?_⟩; conv => whnf
 refine ⟨.inl (by simp only [List.length_map]; omega), ?_⟩; conv => whnf
 repeat refine zq ?_
 refine zr ?_; conv => whnf
 repeat refine zq ?_
 refine zr ?_; conv => whnf
 repeat refine zq ?_
 refine At.block ?_
 refine At.loopH (fun k : Nat => { N := Tryz.f3.ntmps, sl := [(3, some (.i a)), (4, some (.i n)), (11, some (.b true)), (13, some (.x ((ptr hp)))), (14, some (.x ((ptr pa)))), (15, some (.x ((ptr pb)))), (16, some (.x ((ptr px)))), (17, some (.x ((ptr pc)))), (19, some (.x ((ptr pd)))), (21, some (.s (.c (.o 10 vo)))), (22, some (.s (.c (.o 9 vs)))), (26, some (.x ((subV vo 1 (cutO N a n) (ownOf N a).length)))), (27, some (.i ((keptC N a n ((sortedB N).take k))))), (28, some (.i k))], gl := [], hp := [(10, .row vo 3 1 ((ownOf N a).map encI)), (9, .row vs 3 1 ((sortedB N).map encI)), (7, histO pd rb BD D), (5, histO pc rb BC C), (3, histO px rb BX X), (2, histO pb rb BB Bq), (1, histO pa rb BA A), (0, LO.ab (BH ++ BR) (PlayQ hp rb BH BR N R))], S := [], ws := w }) (fun k : Nat => k ≤ (sortedB N).length ∧ isSl (subV vo 1 (cutO N a n) (ownOf N a).length) ∧ slen (subV vo 1 (cutO N a n) (ownOf N a).length) = (goneB N a n).length) (fun k : Nat => (sortedB N).length - k)
  (fun w' hw => ⟨0, ⟨Nat.zero_le _, (hgS hw rfl).sl, (hgS hw rfl).len⟩, Le.of rfl rfl ⟨rfl, rfl, rfl, rfl, rfl, rfl, rfl, rfl, rfl, rfl, rfl, by simp only [List.length_map, hcut]; rfl, rfl, rfl, trivial⟩, hw.keep [10, 9, 7, 5, 3, 2, 1, 0] rfl rfl rfl, ⟨⟨_, _, _, rfl⟩, ⟨_, _, _, rfl⟩, trivial⟩, ⟨(nopI _).okH, (nopI _).okH, trivial⟩⟩) ?_
 rintro k ⟨hk, hgsl, hgsn⟩
 repeat refine zq ?_
 refine zr ?_; conv => whnf
 refine ⟨rfl, ?_⟩; conv => whnf
 repeat refine zq ?_
 refine At.cond rfl (fun hc => At.skip ?_) (fun hc => At.exit ?_)
 ·have hlt : k < (sortedB N).length := by have := of_decide_eq_true hc; simp only [List.length_map] at this; omega
  obtain ⟨x, hx⟩ : ∃ x, (sortedB N)[k]? = some x := ⟨_, List.getElem?_eq_getElem hlt⟩
  have hxs := List.mem_of_getElem? hx
  have hxN := sor_mem.1 hxs
  have hks := keptC_snoc (N := N) (a := a) (n := n) hx
  have hkl := keptC_le (N := N) (a := a) (n := n) (l := sortedB N) (k := k)
  generalize keptC N a n ((sortedB N).take k) = K at hks hkl ⊢
  repeat refine zq ?_
  refine At.block ?_
  repeat refine zq ?_
  refine zr ?_; conv => whnf
  refine ⟨rfl, ?_⟩; conv => whnf
  refine ⟨by omega, ?_⟩; conv => whnf
  refine ⟨by (try simp only [List.length_map]); omega, ?_⟩; conv => whnf
  refine ⟨encI x, ⟨rfl, rfl, by omega, by rw [Int.toNat_natCast, List.getElem?_map, hx]; rfl⟩, ?_⟩; conv => whnf
  repeat refine zq ?_
  refine zr ?_; conv => whnf
  repeat refine zq ?_
  refine zr ?_; conv => whnf
  repeat refine zq ?_
  refine At.block ?_
  refine At.loopH (fun j : Nat => { N := Tryz.f3.ntmps, sl := [(3, some (.i a)), (4, some (.i n)), (11, some (.b true)), (13, some (.x ((ptr hp)))), (14, some (.x ((ptr pa)))), (15, some (.x ((ptr pb)))), (16, some (.x ((ptr px)))), (17, some (.x ((ptr pc)))), (19, some (.x ((ptr pd)))), (21, some (.s (.c (.o 10 vo)))), (22, some (.s (.c (.o 9 vs)))), (26, some (.x ((subV vo 1 (cutO N a n) (ownOf N a).length)))), (27, some (.i K)), (28, some (.i k)), (29, some (.i x)), (30, some (.b ((((goneB N a n).take j).any (hitB N x))))), (31, some (.i j))], gl := [], hp := [(10, .row vo 3 1 ((ownOf N a).map encI)), (9, .row vs 3 1 ((sortedB N).map encI)), (7, histO pd rb BD D), (5, histO pc rb BC C), (3, histO px rb BX X), (2, histO pb rb BB Bq), (1, histO pa rb BA A), (0, LO.ab (BH ++ BR) (PlayQ hp rb BH BR N R))], S := [], ws := w }) (fun j : Nat => j ≤ (goneB N a n).length) (fun j : Nat => (goneB N a n).length - j)
   (fun w' hw => ⟨0, Nat.zero_le _, Le.of rfl rfl ⟨rfl, rfl, rfl, rfl, rfl, rfl, rfl, rfl, rfl, rfl, rfl, rfl, rfl, rfl, rfl, rfl, rfl, trivial⟩, hw.keep [10, 9, 7, 5, 3, 2, 1, 0] rfl rfl rfl, ⟨⟨_, _, _, rfl⟩, ⟨_, _, _, rfl⟩, trivial⟩, ⟨(nopI _).okH, (nopI _).okH, trivial⟩⟩) ?_
  intro j hj
  repeat refine zq ?_
  refine zr ?_; conv => whnf
  refine ⟨hgsl, ?_⟩; conv => whnf
  repeat refine zq ?_
  refine At.cond rfl (fun hc => At.skip ?_) (fun hc => At.exit ?_)
  ·have hltj : j < (goneB N a n).length := by have := of_decide_eq_true hc; omega
   obtain ⟨g, hgj⟩ : ∃ g, (goneB N a n)[j]? = some g := ⟨_, List.getElem?_eq_getElem hltj⟩
   have hany : ((goneB N a n).take (j + 1)).any (hitB N x) = (((goneB N a n).take j).any (hitB N x) || (decide (g = x) || beforeB N g x)) := by
    rw [take_snoc hgj, List.any_append]; simp [hitB]
   generalize ((goneB N a n).take j).any (hitB N x) = ou at hany ⊢
   repeat refine zq ?_
   refine At.block ?_
   repeat refine zq ?_
   refine zr ?_; conv => whnf
   refine ⟨gimp_of (by omega), ?_⟩; conv => whnf
   refine ⟨gimp_of (by omega), ?_⟩; conv => whnf
   refine ⟨[.i g], gimp_of (fun w' hw => (hgS hw rfl).load (n := 1) (ext_refl w') hgj rfl), ?_⟩; conv => whnf
   refine ⟨gimp_of (by omega), ?_⟩; conv => whnf
   refine ⟨gimp_of (by omega), ?_⟩; conv => whnf
   refine ⟨[.i g], gimp_of (fun w' hw => (hgS hw rfl).load (n := 1) (ext_refl w') hgj rfl), ?_⟩; conv => whnf
   refine ⟨.b (beforeB N g x), gimp_of (ans_quiet b14 (fun w' hw => before_r hp rb N hN g x w' (hPQ hw rfl).1)), ?_⟩; conv => whnf
   repeat refine zq ?_
   refine zr ?_; conv => whnf
   refine ⟨⟨by omega, by omega⟩, ?_⟩; conv => whnf
   refine At.nextH fun w' hw => ⟨j + 1, by omega, by omega, Le.of rfl rfl ⟨rfl, rfl, rfl, rfl, rfl, rfl, rfl, rfl, rfl, rfl, rfl, rfl, rfl, rfl, rfl, congrArg Value.bool (by rw [hany, bor, bor, Bool.or_assoc]), rfl, trivial⟩, hw.keep [10, 9, 7, 5, 3, 2, 1, 0] rfl rfl rfl, ⟨⟨_, _, _, rfl⟩, ⟨_, _, _, rfl⟩, trivial⟩, ⟨(nopI _).okH, (nopI _).okH, trivial⟩⟩
  have hge : j = (goneB N a n).length := by have := of_decide_eq_false hc; omega
  subst hge
  rw [List.take_length]
  have hlq : (goneB N a n).any (hitB N x) = lostQ N a n x := rfl
  rw [hlq]
  have e1 := has_eq (N := N) (hc3 x)
  have e2 : (alook (hidx X) x).isSome = !lostQ N a n x := by
   have := hmx (m := x)
   rw [← has_iff] at this
   cases hq : lostQ N a n x with
   | true =>
    cases hs : (alook (hidx X) x).isSome with
    | false => rfl
    | true => have := (this.1 hs).2; rw [hq] at this; cases this
   | false => rw [this.2 ⟨hxN, hq⟩]; rfl
  repeat refine zq ?_
  refine zr ?_; conv => whnf
  refine ans_call (r := .b (alook (hidx C) x).isSome) b15 rfl (fun w' hw => has_r pc rb C x w' (hHC hw rfl)) ?_; conv => whnf
  refine ans_call (r := .b (alook (hidx A) x).isSome) b15 rfl (fun w' hw => has_r pa rb A x w' (hHA hw rfl)) ?_; conv => whnf
  refine ⟨.b (alook (hidx Bq) x).isSome, gimp_of (ans_quiet b15 (fun w' hw => has_r pb rb Bq x w' (hHB hw rfl))), ?_⟩; conv => whnf
  refine ⟨.b (alook (hidx X) x).isSome, gimp_of (ans_quiet b15 (fun w' hw => has_r px rb X x w' (hHX hw rfl))), ?_⟩; conv => whnf
  refine ⟨.b (alook (hidx X) x).isSome, gimp_of (ans_quiet b15 (fun w' hw => has_r px rb X x w' (hHX hw rfl))), ?_⟩; conv => whnf
  repeat refine zq ?_
  refine At.cond rfl (fun hq => ?_) (fun _ => At.skip ?_)
  ·exfalso
   rw [e1, e2] at hq
   revert hq
   cases (alook (hidx A) x).isSome <;> cases (alook (hidx Bq) x).isSome <;> cases lostQ N a n x <;> simp
  have hcn := cnt_eq hond x (!lostQ N a n x)
  have hxo : x ∈ ownOf N a ↔ (entB N x).author = a := by rw [own_mem]; exact ⟨fun q => q.2, fun q => ⟨hxN, q⟩⟩
  simp only [hxo] at hcn
  rw [← hcn] at hks
  clear hcn e1 e2
  generalize lostQ N a n x = ou at hks ⊢
  repeat refine zq ?_
  refine zr ?_; conv => whnf
  repeat refine zq ?_
  refine At.block ?_
  refine At.loopH (fun j : Nat => { N := Tryz.f3.ntmps, sl := [(3, some (.i a)), (4, some (.i n)), (11, some (.b true)), (13, some (.x ((ptr hp)))), (14, some (.x ((ptr pa)))), (15, some (.x ((ptr pb)))), (16, some (.x ((ptr px)))), (17, some (.x ((ptr pc)))), (19, some (.x ((ptr pd)))), (21, some (.s (.c (.o 10 vo)))), (22, some (.s (.c (.o 9 vs)))), (26, some (.x ((subV vo 1 (cutO N a n) (ownOf N a).length)))), (27, some (.i (((K + (((ownOf N a).take j).filter fun o => decide (o = x) && !ou).length : Nat) : Int)))), (28, some (.i k)), (29, some (.i x)), (30, some (.b ou)), (32, some (.i j))], gl := [], hp := [(10, .row vo 3 1 ((ownOf N a).map encI)), (9, .row vs 3 1 ((sortedB N).map encI)), (7, histO pd rb BD D), (5, histO pc rb BC C), (3, histO px rb BX X), (2, histO pb rb BB Bq), (1, histO pa rb BA A), (0, LO.ab (BH ++ BR) (PlayQ hp rb BH BR N R))], S := [], ws := w }) (fun j : Nat => j ≤ (ownOf N a).length) (fun j : Nat => (ownOf N a).length - j)
   (fun w' hw => ⟨0, Nat.zero_le _, Le.of rfl rfl ⟨rfl, rfl, rfl, rfl, rfl, rfl, rfl, rfl, rfl, rfl, rfl, rfl, congrArg (Value.int .i64) (by simp), rfl, rfl, rfl, rfl, trivial⟩, hw.keep [10, 9, 7, 5, 3, 2, 1, 0] rfl rfl rfl, ⟨⟨_, _, _, rfl⟩, ⟨_, _, _, rfl⟩, trivial⟩, ⟨(nopI _).okH, (nopI _).okH, trivial⟩⟩) ?_
  intro j hj
  repeat refine zq ?_
  refine zr ?_; conv => whnf
  refine ⟨rfl, ?_⟩; conv => whnf
  repeat refine zq ?_
  refine At.cond rfl (fun hc => At.skip ?_) (fun hc => At.exit ?_)
  ·have hltj : j < (ownOf N a).length := by have := of_decide_eq_true hc; simp only [List.length_map] at this; omega
   obtain ⟨o, hoj⟩ : ∃ o, (ownOf N a)[j]? = some o := ⟨_, List.getElem?_eq_getElem hltj⟩
   have hfs : (((ownOf N a).take (j + 1)).filter fun o => decide (o = x) && !ou).length = (((ownOf N a).take j).filter fun o => decide (o = x) && !ou).length + if (decide (o = x) && !ou) = true then 1 else 0 := by
    rw [take_snoc hoj, List.filter_append, List.length_append, List.filter_cons, List.filter_nil]
    congr 1
    split <;> rfl
   have hfl : (((ownOf N a).take j).filter fun o => decide (o = x) && !ou).length ≤ j := Nat.le_trans (List.length_filter_le _ _) (by rw [List.length_take]; omega)
   generalize (((ownOf N a).take j).filter fun o => decide (o = x) && !ou).length = F at hfs hfl ⊢
   repeat refine zq ?_
   refine At.block ?_
   repeat refine zq ?_
   refine zr ?_; conv => whnf
   refine ⟨rfl, ?_⟩; conv => whnf
   refine ⟨by omega, ?_⟩; conv => whnf
   refine ⟨by (try simp only [List.length_map]); omega, ?_⟩; conv => whnf
   refine ⟨encI o, ⟨rfl, rfl, by omega, by rw [Int.toNat_natCast, List.getElem?_map, hoj]; rfl⟩, ?_⟩; conv => whnf
   repeat refine zq ?_
   refine At.cond rfl (fun hq => ?_) (fun hq => At.skip ?_)
   ·have hq' : (decide (o = x) && !ou) = true := by simpa only [band] using hq
    rw [hq', if_pos rfl] at hfs
    repeat refine zq ?_
    refine zr ?_; conv => whnf
    refine ⟨⟨by omega, by omega⟩, ?_⟩; conv => whnf
    repeat refine zq ?_
    refine zr ?_; conv => whnf
    refine ⟨⟨by omega, by omega⟩, ?_⟩; conv => whnf
    refine At.nextH fun w' hw => ⟨j + 1, by omega, by omega, Le.of rfl rfl ⟨rfl, rfl, rfl, rfl, rfl, rfl, rfl, rfl, rfl, rfl, rfl, rfl, congrArg (Value.int .i64) (by rw [hfs]; omega), rfl, rfl, rfl, rfl, trivial⟩, hw.keep [10, 9, 7, 5, 3, 2, 1, 0] rfl rfl rfl, ⟨⟨_, _, _, rfl⟩, ⟨_, _, _, rfl⟩, trivial⟩, ⟨(nopI _).okH, (nopI _).okH, trivial⟩⟩
   ·have hq' : (decide (o = x) && !ou) = false := by simpa only [band] using hq
    rw [hq', if_neg (by decide)] at hfs
    repeat refine zq ?_
    refine zr ?_; conv => whnf
    refine ⟨⟨by omega, by omega⟩, ?_⟩; conv => whnf
    refine At.nextH fun w' hw => ⟨j + 1, by omega, by omega, Le.of rfl rfl ⟨rfl, rfl, rfl, rfl, rfl, rfl, rfl, rfl, rfl, rfl, rfl, rfl, congrArg (Value.int .i64) (by rw [hfs]; rfl), rfl, rfl, rfl, rfl, trivial⟩, hw.keep [10, 9, 7, 5, 3, 2, 1, 0] rfl rfl rfl, ⟨⟨_, _, _, rfl⟩, ⟨_, _, _, rfl⟩, trivial⟩, ⟨(nopI _).okH, (nopI _).okH, trivial⟩⟩
  have hge : j = (ownOf N a).length := by have := of_decide_eq_false hc; simp only [List.length_map] at this; omega
  subst hge
  rw [List.take_length]
  repeat refine zq ?_
  refine zr ?_; conv => whnf
  refine ⟨⟨by omega, by omega⟩, ?_⟩; conv => whnf
  refine At.nextH fun w' hw => ⟨k + 1, ⟨by omega, hgsl, hgsn⟩, by omega, Le.of rfl rfl ⟨rfl, rfl, rfl, rfl, rfl, rfl, rfl, rfl, rfl, rfl, rfl, rfl, congrArg (Value.int .i64) (by rw [hks]), rfl, trivial⟩, hw.keep [10, 9, 7, 5, 3, 2, 1, 0] rfl rfl rfl, ⟨⟨_, _, _, rfl⟩, ⟨_, _, _, rfl⟩, trivial⟩, ⟨(nopI _).okH, (nopI _).okH, trivial⟩⟩
 have hge : k = (sortedB N).length := by have := of_decide_eq_false hc; simp only [List.length_map] at this; omega
 subst hge
 rw [List.take_length, hkc]
 have hend : ∀ {st : St} {w' : World}, Holds st w' → Vc.look st.hp 3 = some (histO px rb BX X) → Vc.look st.hp 0 = some (.ab (BH ++ BR) (PlayQ hp rb BH BR N R)) → n ≤ 0 → Ans Tryz.prog 16 [ptr px, ptr hp] (.b true) w' := fun hw l3 l0 hn => by
  have := same_r px rb hp rb X N hXo hN _ (hHX hw l3) (hPQ hw l0).1
  rw [hnx hn, decide_eq_true rfl] at this
  exact this
 repeat refine zq ?_
 refine At.regionG tab_ok ?_; conv => whnf
 refine ans_call (r := .b true) b16 rfl (fun w' hw => by
  have := same_r pc rb pd rb C D hCo hDo w' (hHC hw rfl) (hHD hw rfl)
  rw [hcd, decide_eq_true rfl] at this; exact this) ?_
 conv => whnf
 cases hst : straightB N a with
 | false =>
  refine ans_call (r := .b false) b17 rfl (fun w' hw => by have := straight_r hp rb N hN a w' (hPQ hw rfl).1; rw [hst] at this; exact this) ?_; conv => whnf
  repeat refine zq ?_
  refine At.cond (t := false) rfl (fun hq => by cases hq) (fun _ => At.skip ?_)
  by_cases hn : 0 < n
  ·repeat refine zq ?_
   refine At.regionG tab_ok ?_; conv => whnf
   rw [decide_eq_true hn]
   conv => whnf
   repeat refine zq ?_
   refine At.ret (At.doneB tab_ok hB _ rfl fun w' hw => ⟨rfl, hw.fr⟩)
  ·repeat refine zq ?_
   refine At.regionG tab_ok ?_; conv => whnf
   rw [decide_eq_false hn]
   conv => whnf
   refine ans_call (r := .b true) b16 rfl (fun w' hw => hend hw rfl rfl (by omega)) ?_; conv => whnf
   repeat refine zq ?_
   refine At.ret (At.doneB tab_ok hB _ rfl fun w' hw => ⟨rfl, hw.fr⟩)
 | true =>
  refine ans_call (r := .b true) b17 rfl (fun w' hw => by have := straight_r hp rb N hN a w' (hPQ hw rfl).1; rw [hst] at this; exact this) ?_; conv => whnf
  refine ans_call (r := .b true) b17 rfl (fun w' hw => by have := straight_r px rb X hXo a w' (hHX hw rfl); rw [hsx hst] at this; exact this) ?_; conv => whnf
  refine ⟨rfl, ?_⟩; conv => whnf
  refine ⟨hgsl, ?_⟩; conv => whnf
  refine ⟨by simp only [List.length_map]; exact ⟨by omega, by omega⟩, ?_⟩; conv => whnf
  repeat refine zq ?_
  refine At.cond rfl (fun hq => ?_) (fun _ => At.skip ?_)
  ·exfalso
   simp only [List.length_map, Bool.not_true, cond_false, cond_true, Bool.not_eq_true', decide_eq_false_iff_not] at hq
   omega
  by_cases hn : 0 < n
  ·repeat refine zq ?_
   refine At.regionG tab_ok ?_; conv => whnf
   rw [decide_eq_true hn]
   conv => whnf
   repeat refine zq ?_
   refine At.ret (At.doneB tab_ok hB _ rfl fun w' hw => ⟨rfl, hw.fr⟩)
  ·repeat refine zq ?_
   refine At.regionG tab_ok ?_; conv => whnf
   rw [decide_eq_false hn]
   conv => whnf
   refine ans_call (r := .b true) b16 rfl (fun w' hw => hend hw rfl rfl (by omega)) ?_; conv => whnf
   repeat refine zq ?_
   refine At.ret (At.doneB tab_ok hB _ rfl fun w' hw => ⟨rfl, hw.fr⟩)
end Go.Proofs.YtdigebokbhmfaaaGreatDoor.Ap
namespace Go.Proofs.YtdigebokbhmfaaaGreatDoor
open Go.Vc Rt Go.Bs
theorem u22 : Tryz.prog.underlying 23 = some (.slice 3) := by kernel_rfl
theorem u30 : Tryz.prog.underlying 38 = some (.slice 99) := by kernel_rfl
theorem u25 : Tryz.prog.underlying 22 = some (.slice 74) := by kernel_rfl
theorem u38 : Tryz.prog.underlying 40 = some (.struct (Tryz.prog.fieldsOf 40)) := by kernel_rfl
theorem u50 : Tryz.prog.underlying 99 = some (.struct (Tryz.prog.fieldsOf 99)) := by kernel_rfl
theorem u64 : Tryz.prog.underlying 74 = some (.struct (Tryz.prog.fieldsOf 74)) := by kernel_rfl
theorem uO3 : Tryz.prog.underlying 3 = some (.int .i64) := by kernel_rfl
theorem uO4 : Tryz.prog.underlying 4 = some .bool := by kernel_rfl
theorem uO9 : Tryz.prog.underlying 9 = some .string := by kernel_rfl
theorem fl38 : (Tryz.prog.fieldsOf 40).toList.map (fun f => (f.type, f.offset)) = [(3, 0), (3, 1), (3, 2), (23, 3), (3, 4), (3, 5), (3, 6), (3, 7), (3, 8), (3, 9), (23, 10), (38, 11), (9, 12)] := by kernel_rfl
theorem fl50 : (Tryz.prog.fieldsOf 99).toList.map (fun f => (f.type, f.offset)) = [(3, 0), (3, 1), (3, 2)] := by kernel_rfl
theorem fl64 : (Tryz.prog.fieldsOf 74).toList.map (fun f => (f.type, f.offset)) = [(3, 0), (40, 1), (9, 14), (3, 15)] := by kernel_rfl
theorem k3 : Tryz.prog.cellsOf 3 = 1 := by kernel_rfl
theorem k9 : Tryz.prog.cellsOf 9 = 1 := by kernel_rfl
theorem k22 : Tryz.prog.cellsOf 23 = 1 := by kernel_rfl
theorem k30 : Tryz.prog.cellsOf 38 = 1 := by kernel_rfl
theorem k38 : Tryz.prog.cellsOf 40 = 13 := by kernel_rfl
theorem k50 : Tryz.prog.cellsOf 99 = 3 := by kernel_rfl
theorem k64 : Tryz.prog.cellsOf 74 = 16 := by kernel_rfl
def intQ : Ty Int where
 size := 1
 rel := fun _ _ n l => l = [.i n] ∧ iR n
 len := fun ⟨h, _⟩ => by rw [h]; rfl
 fr := fun _ h => h
 av := fun _ h => h
def spanQ : Ty Span where
 size := 3
 rel := fun _ _ s l => l = encS s ∧ iR s.m ∧ iR s.f ∧ iR s.t
 len := fun ⟨h, _⟩ => by rw [h]; rfl
 fr := fun _ h => h
 av := fun _ h => h
theorem SlOf.ints {S : List Nat} {w : World} {v : Value} {xs : List Int} (h : SlOf intQ S w v xs) : SlOf intT S w v xs ∧ ∀ x ∈ xs, iR x :=
 ⟨⟨h.sl, h.len, h.small, h.av, fun i x hx => by obtain ⟨l, ⟨h1, _⟩, h2⟩ := h.elem i x hx; exact ⟨l, h1, h2⟩⟩, fun x hx => by
  obtain ⟨i, hi, rfl⟩ := List.getElem_of_mem hx
  obtain ⟨l, ⟨_, h1⟩, _⟩ := h.elem i _ (List.getElem?_eq_getElem hi)
  exact h1⟩
theorem SlOf.spansQ {S : List Nat} {w : World} {v : Value} {xs : List Span} (h : SlOf spanQ S w v xs) : SlOf spT S w v xs ∧ ∀ s ∈ xs, iR s.m ∧ iR s.f ∧ iR s.t :=
 ⟨⟨h.sl, h.len, h.small, h.av, fun i x hx => by obtain ⟨l, ⟨h1, _⟩, h2⟩ := h.elem i x hx; exact ⟨l, h1, h2⟩⟩, fun x hx => by
  obtain ⟨i, hi, rfl⟩ := List.getElem_of_mem hx
  obtain ⟨l, ⟨_, h1⟩, _⟩ := h.elem i _ (List.getElem?_eq_getElem hi)
  exact h1⟩
instance : Inhabited Span := ⟨⟨0, 0, 0⟩⟩
section
variable {H : Type} {enc : TypeId × Value → H} {w : World} {spare : Nat → Bool} {held : Bool}
theorem cells_get {base k : Nat} {a : Addr} {cs : List Value} (h : w.cells? base a k = some cs) : cs.length = k ∧ ∀ (j : Nat) u, cs[j]? = some u → w.cell? (a.add j) = some u := by
 unfold World.cells? at h
 split at h
 ·have hl := mapM_some_length h
  simp at hl
  refine ⟨hl, fun j u hu => ?_⟩
  have hj : j < k := by have := (List.getElem?_eq_some_iff.1 hu).1; omega
  have := mapM_some_get h j j (by simp [hj])
  rw [this]; exact hu
 ·cases h
theorem inR_of_wf {n : Int} (h : (Lit.int .i64 n).wf = true) : inR n := by
 simp only [Lit.wf, Bool.and_eq_true, decide_eq_true_eq] at h
 exact ⟨h.1, h.2⟩
theorem slOf_open {α : Type} [Inhabited α] {T : Ty α} {t e : TypeId} (ht : Tryz.prog.underlying t = some (.slice e)) (hc : Tryz.prog.cellsOf e = T.size) (hpos : 0 < T.size) (hT : ∀ cs n x, DataW.trod enc Tryz.prog w 0 spare held n e cs = some x → ∃ (a : α) (l : List CV), T.rel [] w a l ∧ dens l = cs)
  {fuel : Nat} {cs : List Value} {x : DataW H × List MemPlace} (h : DataW.trod enc Tryz.prog w 0 spare held fuel t cs = some x) : ∃ v xs, cs = [v] ∧ SlOf T [] w v xs := by
 rcases Deep.open_slice ht h with ⟨rfl, _⟩ | ⟨a, len, cap, m, n, D, Pl, rfl, hb, hlc, hcm, hm, _, hx⟩
 ·exact ⟨_, [], rfl, ⟨⟨none, 0, 0, rfl, fun _ => ⟨rfl, rfl⟩, Nat.le_refl _⟩, rfl, by simp, fun a n c e => (by cases e), fun i x hx => (by simp at hx)⟩⟩
 ·have hlm : len ≤ m := by rw [hm]; split <;> omega
  have key : ∀ i : Nat, ∃ (y : α) (l : List CV), i < len → T.rel [] w y l ∧ ∀ j u, (dens l)[j]? = some u → w.cell? ((a.add (i * T.size)).add j) = some u := by
   intro i
   by_cases hi : i < len
   ·obtain ⟨cs', h1, h2⟩ := hx i (by omega)
    obtain ⟨y, l, h3, h4⟩ := hT cs' n _ h2
    rw [hc] at h1
    exact ⟨y, l, fun _ => ⟨h3, fun j u hu => (cells_get h1).2 j u (by rw [← h4]; exact hu)⟩⟩
   ·exact ⟨default, [], fun h => absurd h hi⟩
  let Y : Nat → α := fun i => Classical.choose (key i)
  have hY : ∀ i, i < len → ∃ l, T.rel [] w (Y i) l ∧ ∀ j u, (dens l)[j]? = some u → w.cell? ((a.add (i * T.size)).add j) = some u := fun i hi => by
   obtain ⟨l, hl⟩ := Classical.choose_spec (key i)
   exact ⟨l, hl hi⟩
  refine ⟨_, (List.range len).map Y, rfl, ⟨⟨some a, len, cap, rfl, fun h => (by cases h), hlc⟩, by simp [slen], by simp; unfold maxLen at hcm; omega, fun b n' c' e hp => ?_, fun i y hy => ?_⟩⟩
  ·cases e
   refine ⟨(fun h => (by cases h)), ?_⟩
   simp at hp
   obtain ⟨l, h1, h2⟩ := hY 0 hp
   have hll := T.len h1
   have := h2 0 ((dens l)[0]'(by simp [dens]; omega)) (List.getElem?_eq_getElem _)
   unfold World.cell? at this
   split at this
   ·rename_i c _ _ hh
    rw [add_block, add_block] at hh
    exact (Array.getElem?_eq_some_iff.1 hh).1
   ·cases this
  ·have hi : i < len := by have := (List.getElem?_eq_some_iff.1 hy).1; simpa using this
   simp [hi] at hy
   subst hy
   obtain ⟨l, h1, h2⟩ := hY i hi
   refine ⟨l, h1, fun a' n' c' e j u hu => ?_⟩
   cases e
   have := h2 j u hu
   unfold elemAddr
   rw [Int.toNat_natCast, add_add (a.add (i * T.size)) 0 j, Nat.zero_add]
   exact this
theorem struct_get {t K : Nat} {fs : Array Field} (ht : Tryz.prog.underlying t = some (.struct fs)) {FL : List (TypeId × Nat)} (hf : fs.toList.map (fun f => (f.type, f.offset)) = FL) (hk : Tryz.prog.cellsOf t = K)
  {fuel : Nat} {cs : List Value} {x : DataW H × List MemPlace} (h : DataW.trod enc Tryz.prog w 0 spare held fuel t cs = some x) :
  cs.length = K ∧ ∀ (i : Nat) u o k, FL[i]? = some (u, o) → Tryz.prog.cellsOf u = k → ∃ n y, DataW.trod enc Tryz.prog w 0 spare held n u ((cs.drop o).take k) = some y := by
 obtain ⟨xs, n, _, _, hl, hxl, hget⟩ := DataW.trod_struct ht h
 refine ⟨by rw [hl, hk], fun i u o k hu hkk => ?_⟩
 have hfl : fs.size = FL.length := by have := congrArg List.length hf; simpa using this
 have hi : i < FL.length := (List.getElem?_eq_some_iff.1 hu).1
 rw [← hf, List.getElem?_map] at hu
 obtain ⟨f, hf1, hf2⟩ := Option.map_eq_some_iff.1 hu
 simp only [Prod.mk.injEq] at hf2
 obtain ⟨e1, e2⟩ := hf2
 have := hget i f (by simpa using hf1)
 rw [e1, e2, hkk, List.getElem?_eq_getElem (by omega)] at this
 exact ⟨n, _, this⟩
theorem int_of {n : Nat} {c : Value} {y : DataW H × List MemPlace} (h : DataW.trod enc Tryz.prog w 0 spare held n 3 [c] = some y) : ∃ m : Int, c = .int .i64 m ∧ iR m := by
 obtain ⟨m, q, _, hw⟩ := DataW.trod_int uO3 h
 simp at q
 have := inR_of_wf hw
 exact ⟨m, q, this⟩
theorem str_of {n : Nat} {c : Value} {y : DataW H × List MemPlace} (h : DataW.trod enc Tryz.prog w 0 spare held n 9 [c] = some y) : ∃ s : List UInt8, c = sv s := by
 obtain ⟨s, q, _⟩ := DataW.trod_string uO9 h
 simp at q
 refine ⟨s.data.toList, ?_⟩
 rw [q]
 obtain ⟨⟨l⟩⟩ := s
 rfl
theorem int_openQ {fuel : Nat} {cs : List Value} {x : DataW H × List MemPlace} (h : DataW.trod enc Tryz.prog w 0 spare held fuel 3 cs = some x) : ∃ (n : Int) (l : List CV), intQ.rel [] w n l ∧ dens l = cs := by
 obtain ⟨n, q, _, hw⟩ := DataW.trod_int uO3 h
 subst q
 exact ⟨n, _, ⟨rfl, inR_of_wf hw⟩, rfl⟩
theorem ints_of {n : Nat} {c : Value} {y : DataW H × List MemPlace} (h : DataW.trod enc Tryz.prog w 0 spare held n 23 [c] = some y) : ∃ xs : List Int, SlOf intT [] w c xs ∧ ∀ x ∈ xs, iR x := by
 obtain ⟨v, xs, e, hv⟩ := slOf_open (T := intQ) u22 k3 (by decide) (fun cs n x h => int_openQ h) h
 simp at e
 subst e
 exact ⟨xs, SlOf.ints hv⟩
theorem span_openQ {fuel : Nat} {cs : List Value} {x : DataW H × List MemPlace} (h : DataW.trod enc Tryz.prog w 0 spare held fuel 99 cs = some x) : ∃ (s : Span) (l : List CV), spanQ.rel [] w s l ∧ dens l = cs := by
 obtain ⟨hl, hg⟩ := struct_get u50 fl50 k50 h
 match cs, hl with
 | [a, b, c], _ =>
  obtain ⟨_, _, t0⟩ := hg 0 3 0 1 rfl k3
  obtain ⟨_, _, t1⟩ := hg 1 3 1 1 rfl k3
  obtain ⟨_, _, t2⟩ := hg 2 3 2 1 rfl k3
  obtain ⟨m, rfl, h0⟩ := int_of t0
  obtain ⟨f, rfl, h1⟩ := int_of t1
  obtain ⟨t, rfl, h2⟩ := int_of t2
  exact ⟨⟨m, f, t⟩, _, ⟨rfl, h0, h1, h2⟩, rfl⟩
theorem spans_of {n : Nat} {c : Value} {y : DataW H × List MemPlace} (h : DataW.trod enc Tryz.prog w 0 spare held n 38 [c] = some y) : ∃ xs : List Span, SlOf spT [] w c xs ∧ ∀ s ∈ xs, iR s.m ∧ iR s.f ∧ iR s.t := by
 obtain ⟨v, xs, e, hv⟩ := slOf_open (T := spanQ) u30 k50 (by decide) (fun cs n x h => span_openQ h) h
 simp at e
 subst e
 exact ⟨xs, SlOf.spansQ hv⟩
theorem entry_open {fuel : Nat} {cs : List Value} {x : DataW H × List MemPlace} (h : DataW.trod enc Tryz.prog w 0 spare held fuel 40 cs = some x) : ∃ (e : En) (k y s : Value), EnIn [] w e k y s ∧ EnQ e ∧ dens (encE e k y s) = cs := by
 obtain ⟨hl, hg⟩ := struct_get u38 fl38 k38 h
 match cs, hl with
 | [c0, c1, c2, c3, c4, c5, c6, c7, c8, c9, c10, c11, c12], _ =>
  obtain ⟨_, _, t0⟩ := hg 0 3 0 1 rfl k3
  obtain ⟨_, _, t1⟩ := hg 1 3 1 1 rfl k3
  obtain ⟨_, _, t2⟩ := hg 2 3 2 1 rfl k3
  obtain ⟨_, _, t3⟩ := hg 3 23 3 1 rfl k22
  obtain ⟨_, _, t4⟩ := hg 4 3 4 1 rfl k3
  obtain ⟨_, _, t5⟩ := hg 5 3 5 1 rfl k3
  obtain ⟨_, _, t6⟩ := hg 6 3 6 1 rfl k3
  obtain ⟨_, _, t7⟩ := hg 7 3 7 1 rfl k3
  obtain ⟨_, _, t8⟩ := hg 8 3 8 1 rfl k3
  obtain ⟨_, _, t9⟩ := hg 9 3 9 1 rfl k3
  obtain ⟨_, _, t10⟩ := hg 10 23 10 1 rfl k22
  obtain ⟨_, _, t11⟩ := hg 11 38 11 1 rfl k30
  obtain ⟨_, _, t12⟩ := hg 12 9 12 1 rfl k9
  obtain ⟨n0, rfl, h0⟩ := int_of t0
  obtain ⟨n1, rfl, h1⟩ := int_of t1
  obtain ⟨n2, rfl, h2⟩ := int_of t2
  obtain ⟨l3, h3, r3⟩ := ints_of t3
  obtain ⟨n4, rfl, h4⟩ := int_of t4
  obtain ⟨n5, rfl, h5⟩ := int_of t5
  obtain ⟨n6, rfl, h6⟩ := int_of t6
  obtain ⟨n7, rfl, h7⟩ := int_of t7
  obtain ⟨n8, rfl, h8⟩ := int_of t8
  obtain ⟨n9, rfl, h9⟩ := int_of t9
  obtain ⟨l10, h10, r10⟩ := ints_of t10
  obtain ⟨l11, h11, r11⟩ := spans_of t11
  obtain ⟨s12, rfl⟩ := str_of t12
  exact ⟨⟨n0, n1, n2, l3, n4, n5, n6, n7, n8, n9, l10, l11, s12⟩, c3, c10, c11, ⟨h3, h10, h11⟩, ⟨h0, h1, h2, h4, h5, h6, h7, h8, h9, r3, r10, r11⟩, rfl⟩
theorem post_open {fuel : Nat} {cs : List Value} {x : DataW H × List MemPlace} (h : DataW.trod enc Tryz.prog w 0 spare held fuel 74 cs = some x) : ∃ (p : Post) (l : List CV), postT.rel [] w p l ∧ dens l = cs := by
 obtain ⟨hl, hg⟩ := struct_get u64 fl64 k64 h
 match cs, hl with
 | [c, c0, c1, c2, c3, c4, c5, c6, c7, c8, c9, c10, c11, c12, d, e], _ =>
  obtain ⟨_, _, t0⟩ := hg 0 3 0 1 rfl k3
  obtain ⟨_, _, t1⟩ := hg 1 40 1 13 rfl k38
  obtain ⟨_, _, t2⟩ := hg 2 9 14 1 rfl k9
  obtain ⟨_, _, t3⟩ := hg 3 3 15 1 rfl k3
  obtain ⟨key, rfl, h0⟩ := int_of t0
  obtain ⟨en, k, y, s, h1, h2, h3⟩ := entry_open t1
  obtain ⟨raw, rfl⟩ := str_of t2
  obtain ⟨odd, rfl, _⟩ := int_of t3
  refine ⟨⟨key, en, raw, odd⟩, encP ⟨key, en, raw, odd⟩ k y s, ⟨k, y, s, rfl, h1, h2, h0⟩, ?_⟩
  have h3 : dens (encE en k y s) = [c0, c1, c2, c3, c4, c5, c6, c7, c8, c9, c10, c11, c12] := h3
  show Value.int .i64 key :: (dens (encE en k y s) ++ [sv raw, .int .i64 odd]) = _
  rw [h3]; rfl
theorem posts_open {v : Value} {d : DataW H} {ps : List MemPlace} (hs : ∃ a n c, v = .slice a n c) (h : DataW.Trod enc Tryz.prog w 0 spare held 22 v d ps) : ∃ l, SlOf postT [] w v l := by
 obtain ⟨a, n, c, rfl⟩ := hs
 obtain ⟨fuel, hf⟩ := h
 obtain ⟨v, xs, e, hv⟩ := slOf_open (T := postT) u25 k64 (by decide) (fun cs n x h => post_open h) hf
 simp [Value.cells] at e
 subst e
 exact ⟨xs, hv⟩
theorem int_openT {v : Value} {d : DataW H} {ps : List MemPlace} (hs : ∃ n, v = .int .i64 n) (h : DataW.Trod enc Tryz.prog w 0 spare held 3 v d ps) : ∃ n, v = vI n ∧ iR n := by
 obtain ⟨n, rfl⟩ := hs
 obtain ⟨fuel, hf⟩ := h
 obtain ⟨m, q, hr⟩ := int_of (c := .int .i64 n) hf
 exact ⟨n, rfl, by cases q; exact hr⟩
end
end Go.Proofs.YtdigebokbhmfaaaGreatDoor
namespace Go.Proofs.YtdigebokbhmfaaaGreatDoor
open Go.Vc Rt Go.Bs
theorem uA23 : Tryz.prog.underlying 23 = some (.slice 3) := by kernel_rfl
section
variable {H : Type} {enc : TypeId × Value → H} {w : World} {spare : Nat → Bool} {held : Bool}
theorem ints_openT {v : Value} {d : DataW H} {ps : List MemPlace} (hs : ∃ a n c, v = .slice a n c) (h : DataW.Trod enc Tryz.prog w 0 spare held 23 v d ps) : ∃ l, SlOf intT [] w v l := by
 obtain ⟨a, n, c, rfl⟩ := hs
 obtain ⟨fuel, hf⟩ := h
 obtain ⟨l, h1, _⟩ := ints_of (c := .slice a n c) hf
 exact ⟨l, h1⟩
end
end Go.Proofs.YtdigebokbhmfaaaGreatDoor
namespace Go.Proofs.YtdigebokbhmfaaaGreatDoor
open Go.Vc
noncomputable def laidL : List (String × DataW Unit) := [("stokvel/entry.uses", Rows.laid_stokvel_entry_uses), ("internal/strconv.uint64pow10", Rows.laid_internal_strconv_uint64pow10), ("math/bits.deBruijn32tab", Rows.laid_math_bits_deBruijn32tab), ("math/bits.deBruijn64tab", Rows.laid_math_bits_deBruijn64tab), ("strconv.ErrSyntax", Rows.laid_strconv_ErrSyntax), ("strconv.ErrRange", Rows.laid_strconv_ErrRange), ("stokvel/lex.signs", Rows.laid_stokvel_lex_signs)]
theorem laidL_plain : (laidL.all fun x => x.2.handleName?.isNone) = true := by kernel_rfl
theorem gUses : Tryz.prog.globalNamed "stokvel/entry.uses" = some 0 := by kernel_rfl
theorem gErrS : Tryz.prog.globalNamed "strconv.ErrSyntax" = some 3 := by kernel_rfl
theorem gErrR : Tryz.prog.globalNamed "strconv.ErrRange" = some 4 := by kernel_rfl
theorem gTab64 : Tryz.prog.globalNamed "math/bits.deBruijn64tab" = some 7 := by kernel_rfl
theorem tUses : (Tryz.prog.globals[0]?).map (·.type) = some 216 := by kernel_rfl
theorem tPow : (Tryz.prog.globals[2]?).map (·.type) = some 448 := by kernel_rfl
theorem tErrS : (Tryz.prog.globals[3]?).map (·.type) = some 127 := by kernel_rfl
theorem tErrR : (Tryz.prog.globals[4]?).map (·.type) = some 127 := by kernel_rfl
theorem uUses : Tryz.prog.underlying 216 = some (.array 21 9) := by kernel_rfl
theorem uPow : Tryz.prog.underlying 448 = some (.array 20 136) := by kernel_rfl
theorem uU64 : Tryz.prog.underlying 136 = some (.int .u64) := by kernel_rfl
theorem uStr : Tryz.prog.underlying 9 = some .string := by kernel_rfl
def isIfc : Option TypeDesc → Bool
 | some (.interface _) => true
 | _ => false
theorem isIfc_spec {d : Option TypeDesc} (h : isIfc d = true) : ∃ ms, d = some (.interface ms) := by
 unfold isIfc at h
 split at h
 ·exact ⟨_, rfl⟩
 ·cases h
theorem uErr : ∃ ms, Tryz.prog.underlying 127 = some (.interface ms) := isIfc_spec (by kernel_rfl)
theorem cUses : Tryz.prog.cellsOf 216 = 21 := by kernel_rfl
theorem cPow : Tryz.prog.cellsOf 448 = 20 := by kernel_rfl
theorem cU64 : Tryz.prog.cellsOf 136 = 1 := by kernel_rfl
theorem cStr : Tryz.prog.cellsOf 9 = 1 := by kernel_rfl
theorem cells_of_strs {H : Type} {enc : TypeId × Value → H} {P : Program} {w : World} {base : Nat} {sp : Nat → Bool} {held : Bool} {fuel : Nat} {t e : TypeId} {n : Nat} {cs : List Value} {zs : List (List UInt8)} {p : List MemPlace}
  (ht : P.underlying t = some (.array n e)) (he : P.underlying e = some .string) (hce : P.cellsOf e = 1) (hct : P.cellsOf t = n)
  (h : DataW.trod enc P w base sp held fuel t cs = some (.agg (zs.map fun z => .lit (.string z)), p)) : cs = zs.map sv := by
 obtain ⟨xs, m, rfl, hx, hl, hxl, hel⟩ := DataW.trod_array ht h
 rw [hct] at hl
 simp only [Prod.mk.injEq, DataW.agg.injEq] at hx
 have hzl : zs.length = n := by have := congrArg List.length hx.1; simp at this; omega
 apply List.ext_getElem?
 intro i
 by_cases hi : i < n
 ·have h0 := hel i hi
  rw [hce, Nat.mul_one, List.getElem?_eq_getElem (by omega)] at h0
  obtain ⟨s, hc, hy, _⟩ := DataW.trod_string he h0
  have h1 : cs[i]? = some (.string s) := by
   have := congrArg (·[0]?) hc
   simpa [List.getElem?_take, List.getElem?_drop] using this
  have h2 := congrArg (·[i]?) hx.1
  simp only [List.getElem?_map, List.getElem?_eq_getElem (show i < xs.length by omega), List.getElem?_eq_getElem (show i < zs.length by omega), Option.map_some, hy, Option.some.injEq, DataW.lit.injEq, Lit.string.injEq] at h2
  rw [h1, List.getElem?_map, List.getElem?_eq_getElem (show i < zs.length by omega), Option.map_some]
  have h3 : s = bs zs[i] := by
   rw [h2]
   obtain ⟨⟨l⟩⟩ := s
   rfl
  rw [h3]
 ·rw [List.getElem?_eq_none (by omega), List.getElem?_eq_none (by simp; omega)]
theorem iface_of {H : Type} {enc : TypeId × Value → H} {P : Program} {w : World} {base : Nat} {sp : Nat → Bool} {held : Bool} {fuel : Nat} {t : TypeId} {ms : Array (String × TypeId)} {cs : List Value} {nm : String} {d : DataW H} {p : List MemPlace}
  (ht : P.underlying t = some (.interface ms)) (h : DataW.trod enc P w base sp held fuel t cs = some (.iface nm d, p)) : ∃ u v, cs = [.iface u v] := by
 cases fuel with
 | zero => simp [DataW.trod] at h
 | succ fuel =>
  unfold DataW.trod at h
  rw [ht] at h
  split at h <;> simp_all
theorem gl_of_laid {W : World} (h : laidMetH Tryz.prog laidL W) : Gl W := by
 rw [MakeChecks.laidMetH_plain _ _ _ laidL_plain] at h
 obtain ⟨ps, ⟨g0, t0, cs0, f0, p0, q0, hg0, ht0, hv0, hd0, ⟨g1, t1, cs1, f1, p1, q1, hg1, ht1, hv1, hd1, ⟨g2', t2, cs2, f2, p2, q2, hg2, ht2, hv2, hd2, ⟨g3, t3, cs3, f3, p3, q3, hg3, ht3, hv3, hd3, ⟨g4, t4, cs4, f4, p4, q4, hg4, ht4, hv4, hd4, ⟨g5, t5, cs5, f5, p5, q5, hg5, ht5, hv5, hd5, ⟨g6, t6, cs6, f6, p6, q6, hg6, ht6, hv6, hd6, _, _⟩, _⟩, _⟩, _⟩, _⟩, _⟩, hps⟩, _, hcell⟩ := h
 obtain rfl := Option.some.inj (gUses.symm.trans hg0)
 obtain rfl := Option.some.inj (g2.symm.trans hg1)
 obtain rfl := Option.some.inj (gErrS.symm.trans hg4)
 obtain rfl := Option.some.inj (gErrR.symm.trans hg5)
 obtain rfl := Option.some.inj (tUses.symm.trans ht0)
 obtain rfl := Option.some.inj (tPow.symm.trans ht1)
 obtain rfl := Option.some.inj (tErrS.symm.trans ht4)
 obtain rfl := Option.some.inj (tErrR.symm.trans ht5)
 obtain ⟨ms, uE⟩ := uErr
 have e0 : cs0.toList = usesTab.map sv := cells_of_strs uUses uStr cStr cUses hd0
 have e1 : cs1.toList = Lib.pow10Tab.map fun z => Value.int .u64 z := Lib.cells_of_tab uPow uU64 cU64 cPow hd1
 obtain ⟨u4, v4, e4⟩ := iface_of uE hd4
 obtain ⟨u5, v5, e5⟩ := iface_of uE hd5
 have hs : ∀ {g : Nat} {cs : Array Value} {n : String}, Tryz.prog.globalNamed n = some g → W.var? Tryz.prog n = some cs → g < W.heap.size := fun {g cs n} hg hv => by
  simp only [World.var?, hg, Option.bind_some] at hv
  split at hv
  ·rename_i hh; exact (Array.getElem?_eq_some_iff.1 hh).1
  ·cases hv
 refine ⟨?_, ?_, ?_, ⟨u4, v4, ?_⟩, ⟨u5, v5, ?_⟩⟩
 ·have := hs gTab64 hv3
  omega
 ·have hm : MemPlace.cell 0 0 ∈ ps := by
   rw [hps]
   refine List.mem_append.2 (.inl (List.mem_append.2 (.inl ?_)))
   refine List.mem_map.2 ⟨0, List.mem_range.2 ?_, rfl⟩
   have := congrArg List.length e0
   simp only [Array.length_toList, List.length_map] at this
   rw [this]; decide
  obtain ⟨⟨c, T, hh⟩, _⟩ := hcell 0 0 hm
  refine ⟨T, ?_⟩
  rw [hh]
  simp only [World.var?, gUses, Option.bind_some, hh, Option.some.injEq] at hv0
  rw [hv0, ← e0]
 ·show W.var? Tryz.prog _ = _
  rw [hv1, ← e1]
 ·have := World.var?_cell hg4 hv4 0
  rw [this, ← Array.getElem?_toList, e4]; rfl
 ·have := World.var?_cell hg5 hv5 0
  rw [this, ← Array.getElem?_toList, e5]; rfl
end Go.Proofs.YtdigebokbhmfaaaGreatDoor
