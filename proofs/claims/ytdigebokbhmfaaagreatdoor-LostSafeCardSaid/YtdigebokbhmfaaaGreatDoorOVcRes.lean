/- Texts that the law leans on. -/
import Derived.Test.YtdigebokbhmfaaaGreatDoorOVcData
import Derived.Test.YtdigebokbhmfaaaGreatDoorOVcDraw
set_option linter.unusedVariables false
set_option linter.unusedSimpArgs false
namespace Go.Vc
open Go.RowKit
inductive RD where
 | p (v : SV)
 | row (E size : Nat) (L : List (List CV))
def resOk (n0 : Nat) (w : World) : List RD → List Value → Prop
 | [], vs => vs = []
 | .p _ :: r, vs => resOk n0 w r vs
 | .row E size L :: r, v :: vs => (LO.row v E size L).holds w ∧ (∀ b ∈ blkOf v, n0 ≤ b) ∧ (∀ u ∈ vs, ∀ b ∈ blkOf v, b ∉ blkOf u) ∧ resOk n0 w r vs
 | .row _ _ _ :: _, [] => False
def resSV : List RD → List Value → List SV
 | [], _ => []
 | .p v :: r, vs => v :: resSV r vs
 | .row _ _ _ :: r, v :: vs => .c (.x v) :: resSV r vs
 | .row _ _ _ :: _, [] => []
def toRV : List SV → RV
 | [v] => .s v
 | l => .tup l
def AnsR (P : Program) (f : FuncId) (args : List Value) (rds : List RD) (w : World) : Prop :=
 Calls P f args.toArray w (fun e w' => ∃ vs, e = .returned (toRV (resSV rds vs)).den ∧ resOk w.heap.size w' rds vs ∧ Ext w w')
def bindR (st : St) (l : List RD) (K : St → List SV → Prop) : Prop :=
 List.rec (motive := fun _ => St → (St → List SV → Prop) → Prop) (fun st K => K st []) (fun x _ ih st K => match x with
  | .p v => ih st (fun st' l => K st' (v :: l))
  | .row E size L => ∀ v : Value, st.pushK (.row v E size L) (fun n st1 => ih st1 (fun st' l => K st' (.c (.o n v) :: l)))) l st K
theorem bindR_row {st : St} {E size : Nat} {L : List (List CV)} {r : List RD} {K : St → List SV → Prop} : bindR st (.row E size L :: r) K = ∀ v : Value, st.pushK (.row v E size L) (fun n st1 => bindR st1 r (fun st' l => K st' (.c (.o n v) :: l))) := rfl
def rdOk : List RD → Prop
 | [] => True
 | .p v :: r => noPsv v = true ∧ rdOk r
 | .row _ _ L :: r => (∀ l ∈ L, ∀ c ∈ l, noP c = true) ∧ rdOk r
theorem push_same {st : St} {o : LO} : SameS st (st.push o) := ⟨rfl, rfl, rfl, rfl⟩
theorem SameS.trans {a b c : St} (h : SameS a b) (k : SameS b c) : SameS a c := ⟨k.1.trans h.1, k.2.1.trans h.2.1, k.2.2.1.trans h.2.2.1, k.2.2.2.trans h.2.2.2⟩
theorem Holds.pushO {st : St} {w : World} {o : LO} (h : Holds st w) (ho : o.holds w) (hb : ∀ b ∈ o.blks, b ∉ st.blks ∧ (b ∈ st.S ∨ st.ws.heap.size ≤ b)) : Holds (st.push o) w := by
 obtain ⟨N, sl, gl, hp, S, ws, df⟩ := st
 refine ⟨fun q hq => ?_, ?_, h.fr, fun b hb' => ?_⟩
 ·rcases List.mem_cons.1 hq with rfl | hq
  ·exact ho
  ·exact h.objs q hq
 ·show (List.flatMap _ ((nid hp, o) :: hp)).Nodup
  rw [List.flatMap_cons, List.nodup_append]
  exact ⟨LO.nodup, h.nodup, fun x hx y hy e => (hb x hx).1 (e ▸ hy)⟩
 ·replace hb' : b ∈ List.flatMap (fun o => o.2.blks) ((nid hp, o) :: hp) := hb'
  rw [List.flatMap_cons, List.mem_append] at hb'
  rcases hb' with hb' | hb'
  ·exact (hb b hb').2
  ·exact h.own b hb'
theorem mem_blks_push {st : St} {o : LO} {b : Nat} (h : b ∈ (st.push o).blks) : b ∈ o.blks ∨ b ∈ st.blks := by
 obtain ⟨N, sl, gl, hp, S, ws, df⟩ := st
 replace h : b ∈ List.flatMap (fun o => o.2.blks) ((nid hp, o) :: hp) := h
 rw [List.flatMap_cons, List.mem_append] at h
 exact h
theorem rows_some {w : World} {v : Value} {E size : Nat} {L : List (List CV)} (h : (LO.row v E size L).holds w) : 0 < L.length → ∃ a n c, v = .slice (some a) n c := fun hn => ownsAt_some h.1 hn
theorem bindR_sound {n0 : Nat} {w : World} : ∀ {rds : List RD} {st : St} {K : St → List SV → Prop} {vs : List Value}, bindR st rds K → rdOk rds → resOk n0 w rds vs → WF st → Holds st w → (∀ u ∈ vs, ∀ b ∈ blkOf u, b ∉ st.blks) → st.ws.heap.size ≤ n0 →
  ∃ st' l, K st' l ∧ SameS st st' ∧ WF st' ∧ Holds st' w ∧ (∀ v ∈ l, SVok st'.hp v) ∧ l.map SV.den = (resSV rds vs).map SV.den ∧ (∀ {q : SV}, SVok st.hp q → SVok st'.hp q)
 | [], st, K, vs, h, _, ho, hwf, hw, _, _ => ⟨st, [], h, ⟨rfl, rfl, rfl, rfl⟩, hwf, hw, fun v hv => (by cases hv), rfl, fun h => h⟩
 | .p v :: r, st, K, vs, h, hr, ho, hwf, hw, hd, hn => by
  obtain ⟨st', l, h1, h2, h3, h4, h5, h6, h7⟩ := bindR_sound (K := fun st' l => K st' (v :: l)) h hr.2 ho hwf hw hd hn
  refine ⟨st', v :: l, h1, h2, h3, h4, fun u hu => ?_, by simp [resSV, h6], h7⟩
  rcases List.mem_cons.1 hu with rfl | hu
  ·exact noPsv_ok hr.1
  ·exact h5 u hu
 | .row E size L :: r, st, K, [], h, hr, ho, hwf, hw, hd, hn => ho.elim
 | .row E size L :: r, st, K, v :: vs, h, hr, ho, hwf, hw, hd, hn => by
  obtain ⟨ho1, ho2, ho3, ho4⟩ := ho
  rw [bindR_row] at h; simp only [pushK_eq] at h
  have hw' : Holds (st.push (.row v E size L)) w := hw.pushO ho1 fun b hb => ⟨hd v (by simp) b hb, .inr (Nat.le_trans hn (ho2 b hb))⟩
  have hok : LOok st.hp (.row v E size L) := ⟨rows_some ho1, fun l hl c hc => noP_ok (hr.1 l hl c hc)⟩
  obtain ⟨st', l, h1, h2, h3, h4, h5, h6, h7⟩ := bindR_sound (K := fun st' l => K st' (.c (.o (nid st.hp) v) :: l)) (h v) hr.2 ho4 (hwf.push hok) hw' (fun u hu b hb hm => by
   rcases mem_blks_push hm with hm | hm
   ·exact ho3 u hu b hm hb
   ·exact hd u (by simp [hu]) b hb hm) hn
  refine ⟨st', .c (.o (nid st.hp) v) :: l, h1, push_same.trans h2, h3, h4, fun u hu => ?_, by simp [resSV, h6, SV.den, CV.den], fun hq => h7 hq.push⟩
  rcases List.mem_cons.1 hu with rfl | hu
  ·exact ownsAt_slice ho1.1
  ·exact h5 u hu
theorem toRV_den {l l' : List SV} (h : l.map SV.den = l'.map SV.den) : (toRV l).den = (toRV l').den := by
 match l, l', h with
 | [], [], _ => rfl
 | [v], [v'], h => simpa [toRV, RV.den] using h
 | [_], [], h => simp at h
 | [_], _ :: _ :: _, h => simp at h
 | [], [_], h => simp at h
 | [], _ :: _ :: _, h => simp at h
 | _ :: _ :: _, [_], h => simp at h
 | _ :: _ :: _, [], h => simp at h
 | a :: b :: r, a' :: b' :: r', h => simp only [toRV, RV.den, h]
theorem toRV_ok {hp : List (Nat × LO)} {l : List SV} (h : ∀ v ∈ l, SVok hp v) : RVok hp (toRV l) := by
 match l, h with
 | [], h => exact h
 | [v], h => exact h v (by simp)
 | a :: b :: r, h => exact h
theorem ansR_call {P : Program} {f : FuncId} {args : List Value} {rds : List RD} {st : St} {d : Option Nat} {K : St → Prop} (hb : Body P f) (hr : rdOk rds) (h : ∀ w, Holds st w → AnsR P f args rds w)
  (hk : bindR st rds (fun st' l => goPut st' d (toRV l) K)) : UCall P st f args d K :=
 .inl ⟨hb, fun hwf w hw => (h w hw).mono fun e w' ⟨vs, he, ho, hx⟩ => by
  have hfresh : ∀ (rds : List RD) (vs : List Value), resOk w.heap.size w' rds vs → ∀ u ∈ vs, ∀ b ∈ blkOf u, w.heap.size ≤ b := by
   intro rds
   induction rds with
   | nil => intro vs ho u hu; rw [show vs = [] from ho] at hu; cases hu
   | cons x r ih =>
    cases x with
    | p v => intro vs ho; exact ih vs ho
    | row E size L =>
     intro vs ho
     cases vs with
     | nil => exact ho.elim
     | cons v vs =>
      intro u hu
      rcases List.mem_cons.1 hu with rfl | hu
      ·exact ho.2.1
      ·exact ih vs ho.2.2.2 u hu
  obtain ⟨st', l, h1, h2, h3, h4, h5, h6, _⟩ := bindR_sound hk hr ho hwf (hw.ext hx) (fun u hu b hb hm => by
   have := hw.blk_lt b hm
   have := hfresh rds vs ho u hu b hb
   omega) hw.fr.size
  exact ⟨toRV l, st', by rw [he, toRV_den h6], h2, h3, toRV_ok h5, h4, h1⟩⟩
theorem SlOf.of_row {α : Type} {size : Nat} {enc : α → List CV} {hl : ∀ x, (enc x).length = size} {S : List Nat} {w : World} {v : Value} {E : Nat} {xs : List α} (h : (LO.row v E size (xs.map enc)).holds w) (hS : ∀ b ∈ blkOf v, b ∉ S)
  (hsm : xs.length ≤ 9223372036854775807) : SlOf (flat size enc hl) S w v xs := by
 obtain ⟨a, c, rfl, hlc, hnil⟩ := row_slice h
 simp only [List.length_map] at hlc hnil h ⊢
 refine ⟨⟨a, xs.length, c, rfl, hnil, hlc⟩, ?_, hsm, fun b n c' e hp => ?_, fun i x hx => ?_⟩
 ·cases a with
  | none => simp [slen, (hnil rfl).1]
  | some a => rfl
 ·cases e
  refine ⟨hS _ (by simp [blkOf]), ?_⟩
  obtain ⟨⟨_, ⟨he, _⟩ | ⟨g, o, cap, cur, he, hg, _⟩⟩, _⟩ := h
  ·cases he
  ·injection he with h1 h2 h3
   cases h1
   exact (Array.getElem?_eq_some_iff.1 hg).1
 ·exact ⟨enc x, rfl, row_cells h (by simp [hx])⟩
theorem Holds.row {st : St} {w : World} (h : Holds st w) {id : Nat} {v : Value} {E size : Nat} {L : List (List CV)} (hl : look st.hp id = some (.row v E size L)) : (LO.row v E size L).holds w := h.objs _ (look_mem hl)
theorem Holds.fresh {st : St} {w : World} (h : Holds st w) {id : Nat} {o : LO} (hl : look st.hp id = some o) : ∀ b ∈ o.blks, b ∈ st.S ∨ st.ws.heap.size ≤ b := fun b hb => h.own b (List.mem_flatMap.2 ⟨_, look_mem hl, hb⟩)
end Go.Vc
