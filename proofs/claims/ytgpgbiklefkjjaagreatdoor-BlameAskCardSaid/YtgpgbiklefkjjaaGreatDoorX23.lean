/- Texts that the law leans on. -/
import Derived.Test.YtgpgbiklefkjjaaGreatDoorX22
import Derived.Test.YtgpgbiklefkjjaaGreatDoorX20
import Derived.Test.YtgpgbiklefkjjaaGreatDoorPVcMore
import Derived.OrdersHeld
import Derived.Shelf.SlSortCmp.WholeK
import Derived.Shelf.SlSortCmp.NoneTotal
import Derived.Ground.SlsfProg
import Derived.Test.YtgpgbiklefkjjaaGreatDoorProg
set_option linter.unusedVariables false
set_option linter.unusedSimpArgs false
namespace Go.Vd
open Go.RowKit
def Keep (hpR : List (Nat × LO)) (S : List Nat) (ws w : World) : Prop := (∀ x ∈ hpR, x.2.holds w) ∧ Fr S ws w
def LeH (hp : List (Nat × LO)) : List (Nat × LO) → Prop
 | [] => True
 | (id, o) :: r => look hp id = some o ∧ LeH hp r
theorem LeH_mem {hp : List (Nat × LO)} : ∀ {l : List (Nat × LO)}, LeH hp l → ∀ x ∈ l, look hp x.1 = some x.2
 | [], _, x, hx => by cases hx
 | (id, o) :: r, h, x, hx => by
  rcases List.mem_cons.1 hx with rfl | hx
  ·exact h.1
  ·exact LeH_mem h.2 x hx
theorem LeH_look {hp l : List (Nat × LO)} (h : LeH hp l) {id : Nat} {o : LO} (hl : look l id = some o) : look hp id = some o := LeH_mem h _ (look_mem hl)
def stepK (P : Program) (tab : Tab) (ops : Array Oper) (hpR : List (Nat × LO)) (S : List Nat) (ws : World) (o : Oper) (st : St) (K : St → Prop) : Prop :=
 match guardOf st ops o.guard with
 | none => False
 | some (keys, cs) => match pev tab st hpR keys o.op with
  | some (obs, v) => match put st o.dst keys v with
   | some st' => obl cs obs (K st')
   | none => False
  | none => match o.op with
   | .load t x => match look tab t, opv st keys x with
    | some ti, some (.s (.c (.e v size idx off))) => ∃ l : List CV, gimp cs (∀ w, Fr S ws w → ECells w v size idx off l) ∧
     match Nat.beq l.length ti.size, noPs l, mkSV ti.agg l with
     | true, true, some u => match put st o.dst keys (.s u) with
      | some st' => K st'
      | none => False
     | _, _, _ => False
    | some ti, some (.s (.c (.r id v size idx off))) => match look hpR id with
     | some (.row v0 _ size0 L) => ∃ row : List CV, gimp cs (v = v0 ∧ size = size0 ∧ 0 ≤ idx ∧ L[idx.toNat]? = some row) ∧
      match takeCells off ti.size row with
      | some l => match mkSV ti.agg l with
       | some u => match put st o.dst keys (.s u) with
        | some st' => K st'
        | none => False
       | none => False
      | none => False
     | _ => False
    | _, _ => False
   | _ => False
theorem stepK_sound {P : Program} {tab : Tab} {ops : Array Oper} {hpR : List (Nat × LO)} {S : List Nat} {ws : World} {o : Oper} {st : St} {K : St → Prop} {a : Act} (hT : TabOk P tab) (h : stepK P tab ops hpR S ws o st K)
  (hwf : WF st) (hr : Rel st a) (hle : LeH st.hp hpR) : ∃ v st', YieldsIf P ops (Keep hpR S ws) o v a ∧ K st' ∧ WF st' ∧ Rel st' (a.put o.dst v) ∧ SameW st st' := by
 have hsub : ∀ id q, look hpR id = some q → look st.hp id = some q := fun id q hl => LeH_look hle hl
 unfold stepK at h
 split at h
 ·exact h.elim
 ·rename_i keys cs hg
  rcases guardOf_spec hr hg with ⟨hwant, hkeys, hcs⟩ | ⟨hwant, hkeys⟩
  ·split at h
   ·rename_i obs v hpev
    split at h
    ·rename_i st' hput
     obtain ⟨h1, h2⟩ := obl_out h
     have hob : ∀ p ∈ obs, p := fun p hp => gimp_out (h1 p hp) hcs
     have hok := pev_ok hT hwf hr hkeys hsub hpev hob
     exact ⟨v.den, st', .inl ⟨hwant, fun w hw => pev_sound hT hwf hr hkeys hsub hpev hob hw.1⟩, h2, put_wf hput hwf (fun _ => hok), put_rel hput hr (.inl ⟨hkeys, rfl, hok⟩), put_world hput⟩
    ·exact h.elim
   ·split at h
    ·rename_i t x hop
     obtain ⟨dst, op, type, pos, after, guard⟩ := o
     dsimp only at hop
     subst hop
     split at h
     ·rename_i ti v size idx off hti hx
      obtain ⟨l, h1, h2⟩ := h
      have hcells := gimp_out h1 hcs
      split at h2
      ·rename_i u hlen hnp hmk
       split at h2
       ·rename_i st' hput
        obtain ⟨ad, n, c, rfl⟩ := opv_ok hwf hr hkeys hx
        have hok := mkSV_ok hmk (noPs_ok (hp := st.hp) hnp)
        refine ⟨u.den, st', .inl ⟨hwant, fun w hw => ?_⟩, h2, put_wf hput hwf (fun _ => hok), put_rel hput hr (.inl ⟨hkeys, rfl, hok⟩), put_world hput⟩
        have ex := eval_opv hr hkeys hx
        simp only [RV.den, SV.den, CV.den, elemPtr] at ex
        have e := ok_loadVar (hT _ _ hti) (a := elemAddr ad size idx off) (Nat.eq_of_beq_eq_true hlen) hmk (w := w) (fun j q hq => hcells w hw.2 ad n c rfl j q hq)
        simp [execOp, ex, Instr.loadAt, Instr.sureAddr, e]
       ·exact h2.elim
      ·exact h2.elim
     ·rename_i ti id v size idx off hti hx
      split at h
      ·rename_i v0 E size0 L hob
       obtain ⟨row, h1, h2⟩ := h
       obtain ⟨rfl, rfl, h0i, hrow⟩ := gimp_out h1 hcs
       split at h2
       ·rename_i l hl
        split at h2
        ·rename_i u hmk
         split at h2
         ·rename_i st' hput
          obtain ⟨ad, n, c, rfl⟩ := opv_ok hwf hr hkeys hx
          have hok := mkSV_ok hmk (hp := st.hp) (fun c hc => (hwf.row _ _ _ _ _ (look_mem (hsub _ _ hob))).2 row (List.mem_of_getElem? hrow) c (takeCells_mem hl c hc))
          refine ⟨u.den, st', .inl ⟨hwant, fun w hw => ?_⟩, h2, put_wf hput hwf (fun _ => hok), put_rel hput hr (.inl ⟨hkeys, rfl, hok⟩), put_world hput⟩
          have ex := eval_opv hr hkeys hx
          simp only [RV.den, SV.den, CV.den, elemPtr] at ex
          have hcells := (row_cells (hw.1 _ (look_mem hob)) hrow).part hl
          rw [Int.toNat_of_nonneg h0i] at hcells
          have e := ok_loadVar (hT _ _ hti) (a := elemAddr ad size idx off) (takeCells_spec hl).1 hmk (w := w) (fun j q hq => hcells ad n c rfl j q hq)
          simp [execOp, ex, Instr.loadAt, Instr.sureAddr, e]
         ·exact h2.elim
        ·exact h2.elim
       ·exact h2.elim
      ·exact h.elim
     ·exact h.elim
    ·exact h.elim
  ·have fin : ∀ {v : RV} {st' : St}, put st o.dst keys v = some st' → K st' → ∃ v st', YieldsIf P ops (Keep hpR S ws) o v a ∧ K st' ∧ WF st' ∧ Rel st' (a.put o.dst v) ∧ SameW st st' := fun {v st'} hput hk =>
    ⟨undef, st', .inr ⟨hwant, rfl⟩, hk, put_wf hput hwf (fun e => (hkeys (by rw [e]; intro k hk; cases hk)).elim), put_rel hput hr (.inr ⟨hkeys, rfl⟩), put_world hput⟩
   split at h
   ·split at h
    ·rename_i st' hput
     exact fin hput (obl_out h).2
    ·exact h.elim
   ·split at h
    ·split at h
     ·obtain ⟨l, h1, h2⟩ := h
      split at h2
      ·split at h2
       ·rename_i st' hput
        exact fin hput h2
       ·exact h2.elim
      ·exact h2.elim
     ·split at h
      ·obtain ⟨row, h1, h2⟩ := h
       split at h2
       ·split at h2
        ·split at h2
         ·rename_i st' hput
          exact fin hput h2
         ·exact h2.elim
        ·exact h2.elim
       ·exact h2.elim
      ·exact h.elim
     ·exact h.elim
    ·exact h.elim
inductive Plan where
 | done
 | take (i : Nat) (p : Plan)
 | br (i : Nat) (p q : Plan)
 | nob
def Plan.alts : Plan → List Nat
 | .br i _ q => i :: q.alts
 | _ => []
def Plan.chk (ops : Array Oper) : Plan → Bool → Nat → Array Bool → Bool
 | .done, flag, _, listed => !flag && (Region.ready .any ops listed).isEmpty
 | .take i p, flag, fuel, listed => !flag && (match fuel with | 0 => false | f + 1 => (Region.ready .any ops listed).contains i && Region.free .any ops listed i && p.chk ops false f (listed.setIfInBounds i true))
 | .br i p q, flag, fuel, listed => (flag || (Plan.alts (.br i p q) == Region.ready .any ops listed)) && (match fuel with | 0 => false | f + 1 => p.chk ops false f (listed.setIfInBounds i true)) && q.chk ops true fuel listed
 | .nob, flag, _, _ => flag
def walkP (P : Program) (tab : Tab) (ops : Array Oper) (hpR : List (Nat × LO)) (S : List Nat) (ws : World) (p : Plan) : St → (St → Prop) → Prop :=
 Plan.rec (motive := fun _ => St → (St → Prop) → Prop) (fun st K => K st)
  (fun i _ ih st K => match ops[i]? with
   | some o => stepK P tab ops hpR S ws o st (fun st' => ih st' K)
   | none => False)
  (fun i _ _ ih1 ih2 st K => (match ops[i]? with
   | some o => step P tab ops o st (fun st' => (LeH st'.hp hpR ∧ ∀ w', Holds st' w' → Fr S ws w') ∧ ih1 st' K)
   | none => False) ∧ ih2 st K)
  (fun _ _ => True) p
def onlyN (N : Act → World → Prop) : Exit → Act → World → Prop
 | .normal, a, w => N a w
 | _, _, _ => False
section
variable {P : Program} {tab : Tab} {ops : Array Oper} {hpR : List (Nat × LO)} {S : List Nat} {ws : World} {N : Act → World → Prop} {K : St → Prop}
theorem keep_of {st : St} {w : World} (hw : Holds st w) (hle : LeH st.hp hpR) (hf : Fr S ws w) : Keep hpR S ws w :=
 ⟨fun x hx => hw.objs _ (look_mem (LeH_mem hle x hx)), hf⟩
theorem walkP_sound (hT : TabOk P tab) (hs : Region.noSelect ops = true) (hN : ∀ st a w, K st → WF st → Rel st a → Holds st w → N a w) : ∀ (p : Plan) (flag : Bool) (fuel : Nat) (listed : Array Bool) (st : St) (a : Act) (w : World),
  p.chk ops flag fuel listed = true → walkP P tab ops hpR S ws p st K → WF st → Rel st a → Holds st w → LeH st.hp hpR → Fr S ws w →
   (flag = false → wpAnyH P .any ops (onlyN N) (Keep hpR S ws) fuel listed a w) ∧
   (∀ f, fuel = f + 1 → ∀ i ∈ p.alts, wpOp P ops (onlyN N) i (fun a' w' => Keep hpR S ws w' ∧ wpAnyH P .any ops (onlyN N) (Keep hpR S ws) f (listed.setIfInBounds i true) a' w') a w) := by
 intro p
 induction p with
 | done =>
  intro flag fuel listed st a w hc h hwf hr hw hle hf
  simp only [Plan.chk, Bool.and_eq_true, List.isEmpty_iff] at hc
  exact ⟨fun _ => wpAnyH_done hc.2 (hN st a w h hwf hr hw) fuel, fun f hf' i hi => by cases hi⟩
 | nob =>
  intro flag fuel listed st a w hc h hwf hr hw hle hf
  simp only [Plan.chk] at hc
  exact ⟨fun e => (by rw [hc] at e; cases e), fun f hf' i hi => (by cases hi)⟩
 | take i p ih =>
  intro flag fuel listed st a w hc h hwf hr hw hle hf
  simp only [Plan.chk, Bool.and_eq_true] at hc
  obtain ⟨_, hc⟩ := hc
  cases fuel with
  | zero => cases hc
  | succ f =>
   simp only [Bool.and_eq_true] at hc
   obtain ⟨⟨h1, h2⟩, h3⟩ := hc
   refine ⟨fun _ => ?_, fun f hf' i hi => by cases hi⟩
   simp only [walkP] at h
   split at h
   ·rename_i o ho
    obtain ⟨v, st', hy, hk, hwf', hr', hsw⟩ := stepK_sound hT h hwf hr hle
    exact wpAnyH_take ho hs h2 h1 (fun c a w h => h) hy (keep_of hw hle hf)
     ((ih false f _ st' _ w h3 hk hwf' hr' (hsw.holds hw) (by rw [hsw.1]; exact hle) hf).1 rfl)
   ·exact h.elim
 | br i p q ih1 ih2 =>
  intro flag fuel listed st a w hc h hwf hr hw hle hf
  simp only [Plan.chk, Bool.and_eq_true] at hc
  obtain ⟨⟨h1, h2⟩, h3⟩ := hc
  simp only [walkP] at h
  obtain ⟨hA, hB⟩ := h
  cases fuel with
  | zero => cases h2
  | succ f =>
   have hq := (ih2 true (f + 1) listed st a w h3 hB hwf hr hw hle hf).2 f rfl
   have hp : wpOp P ops (onlyN N) i (fun a' w' => Keep hpR S ws w' ∧ wpAnyH P .any ops (onlyN N) (Keep hpR S ws) f (listed.setIfInBounds i true) a' w') a w := by
    unfold wpOp
    split at hA
    ·rename_i o ho
     simp only [ho]
     have := step_sound (Q := onlyN N) (next := fun a' w' => Keep hpR S ws w' ∧ wpAnyH P .any ops (onlyN N) (Keep hpR S ws) f (listed.setIfInBounds i true) a' w') hT hA hwf hr hw
      (fun st' a' w' ⟨⟨hle', hfr'⟩, hk⟩ hwf' hr' hw' => ⟨keep_of hw' hle' (hfr' w' hw'), (ih1 false f _ st' a' w' h2 hk hwf' hr' hw' hle' (hfr' w' hw')).1 rfl⟩)
     split
     ·rename_i hwant; rw [if_pos hwant] at this; exact .inl this
     ·rename_i hwant; rw [if_neg hwant] at this; exact this
    ·exact hA.elim
   have all : ∀ j ∈ Plan.alts (.br i p q), wpOp P ops (onlyN N) j (fun a' w' => Keep hpR S ws w' ∧ wpAnyH P .any ops (onlyN N) (Keep hpR S ws) f (listed.setIfInBounds j true) a' w') a w := by
    intro j hj
    rcases List.mem_cons.1 hj with rfl | hj
    ·exact hp
    ·exact hq j hj
   refine ⟨fun e => ?_, fun f' e j hj => by cases e; exact all j hj⟩
   subst e
   have hready : Plan.alts (.br i p q) = Region.ready .any ops listed := by simpa using h1
   exact wpAnyH_all hready.symm (by simp [Plan.alts]) all
theorem At.plan (hT : TabOk P tab) (hm : P.follows .mixedOrders = true) (hpR : List (Nat × LO)) (p : Plan) {id : Nat} {l : List Oper} {st : St} {Q : Exit → Act → World → Prop} (hs : Region.noSelect l.toArray = true)
  (hc : p.chk l.toArray false l.toArray.size (Array.replicate l.toArray.size false) = true) (hle : LeH st.hp hpR)
  (h : walkP P tab l.toArray hpR st.S st.ws p st (fun st' => st'.atEnd (Q .normal))) : At st ((Code.region id l.toArray true).wp P Q) :=
 ⟨fun hwf a w hr hw => by
  have := (walkP_sound (N := Q .normal) hT hs (fun st' a' w' hk hwf' hr' hw' => (show At st'.endR _ from hk).out hwf'.endR a' w' hr'.endR hw'.endR) p false _ _ st a { w with drawn := w.drawn + 1 } hc h hwf hr hw.drawn hle hw.drawn.fr).1 rfl
  refine wp_mono (wp_region_held (id := id) hm this) ?_
  intro e a w hq
  cases e with
  | normal => exact hq
  | _ => exact hq.elim⟩
end
end Go.Vd
namespace Go.Vd
open Go.RowKit
inductive RD where
 | p (v : SV)
 | row (E size : Nat) (L : List (List CV))
def resOk (n0 : Nat) (w : World) : List RD → List Value → Prop
 | [], vs => vs = []
 | .p _ :: r, vs => resOk n0 w r vs
 | .row E size L :: r, v :: vs => (LO.row v E size L).holds w ∧ (∀ b ∈ blkOf v, n0 ≤ b) ∧ (∀ u ∈ vs, ∀ b ∈ blkOf v, b ∉ blkOf u) ∧ resOk n0 w r vs
 | .row _ _ _ :: _, [] => False
def resSV : List RD → List Value → List SV
 | [], _ => []
 | .p v :: r, vs => v :: resSV r vs
 | .row _ _ _ :: r, v :: vs => .c (.x v) :: resSV r vs
 | .row _ _ _ :: _, [] => []
def toRV : List SV → RV
 | [v] => .s v
 | l => .tup l
def AnsR (P : Program) (f : FuncId) (args : List Value) (rds : List RD) (w : World) : Prop :=
 Calls P f args.toArray w (fun e w' => ∃ vs, e = .returned (toRV (resSV rds vs)).den ∧ resOk w.heap.size w' rds vs ∧ Ext w w')
def bindR (st : St) (l : List RD) (K : St → List SV → Prop) : Prop :=
 List.rec (motive := fun _ => St → (St → List SV → Prop) → Prop) (fun st K => K st []) (fun x _ ih st K => match x with
  | .p v => ih st (fun st' l => K st' (v :: l))
  | .row E size L => ∀ v : Value, st.pushK (.row v E size L) (fun n st1 => ih st1 (fun st' l => K st' (.c (.o n v) :: l)))) l st K
theorem bindR_row {st : St} {E size : Nat} {L : List (List CV)} {r : List RD} {K : St → List SV → Prop} : bindR st (.row E size L :: r) K = ∀ v : Value, st.pushK (.row v E size L) (fun n st1 => bindR st1 r (fun st' l => K st' (.c (.o n v) :: l))) := rfl
def rdOk : List RD → Prop
 | [] => True
 | .p v :: r => noPsv v = true ∧ rdOk r
 | .row _ _ L :: r => (∀ l ∈ L, ∀ c ∈ l, noP c = true) ∧ rdOk r
theorem push_same {st : St} {o : LO} : SameS st (st.push o) := ⟨rfl, rfl, rfl, rfl⟩
theorem SameS.trans {a b c : St} (h : SameS a b) (k : SameS b c) : SameS a c := ⟨k.1.trans h.1, k.2.1.trans h.2.1, k.2.2.1.trans h.2.2.1, k.2.2.2.trans h.2.2.2⟩
theorem Holds.pushO {st : St} {w : World} {o : LO} (h : Holds st w) (ho : o.holds w) (hb : ∀ b ∈ o.blks, b ∉ st.blks ∧ (b ∈ st.S ∨ st.ws.heap.size ≤ b)) : Holds (st.push o) w := by
 obtain ⟨N, sl, gl, hp, S, ws, df⟩ := st
 refine ⟨fun q hq => ?_, ?_, h.fr, fun b hb' => ?_⟩
 ·rcases List.mem_cons.1 hq with rfl | hq
  ·exact ho
  ·exact h.objs q hq
 ·show (List.flatMap _ ((nid hp, o) :: hp)).Nodup
  rw [List.flatMap_cons, List.nodup_append]
  exact ⟨LO.nodup, h.nodup, fun x hx y hy e => (hb x hx).1 (e ▸ hy)⟩
 ·replace hb' : b ∈ List.flatMap (fun o => o.2.blks) ((nid hp, o) :: hp) := hb'
  rw [List.flatMap_cons, List.mem_append] at hb'
  rcases hb' with hb' | hb'
  ·exact (hb b hb').2
  ·exact h.own b hb'
theorem mem_blks_push {st : St} {o : LO} {b : Nat} (h : b ∈ (st.push o).blks) : b ∈ o.blks ∨ b ∈ st.blks := by
 obtain ⟨N, sl, gl, hp, S, ws, df⟩ := st
 replace h : b ∈ List.flatMap (fun o => o.2.blks) ((nid hp, o) :: hp) := h
 rw [List.flatMap_cons, List.mem_append] at h
 exact h
theorem rows_some {w : World} {v : Value} {E size : Nat} {L : List (List CV)} (h : (LO.row v E size L).holds w) : 0 < L.length → ∃ a n c, v = .slice (some a) n c := fun hn => ownsAt_some h.1 hn
theorem bindR_sound {n0 : Nat} {w : World} : ∀ {rds : List RD} {st : St} {K : St → List SV → Prop} {vs : List Value}, bindR st rds K → rdOk rds → resOk n0 w rds vs → WF st → Holds st w → (∀ u ∈ vs, ∀ b ∈ blkOf u, b ∉ st.blks) → st.ws.heap.size ≤ n0 →
  ∃ st' l, K st' l ∧ SameS st st' ∧ WF st' ∧ Holds st' w ∧ (∀ v ∈ l, SVok st'.hp v) ∧ l.map SV.den = (resSV rds vs).map SV.den ∧ (∀ {q : SV}, SVok st.hp q → SVok st'.hp q)
 | [], st, K, vs, h, _, ho, hwf, hw, _, _ => ⟨st, [], h, ⟨rfl, rfl, rfl, rfl⟩, hwf, hw, fun v hv => (by cases hv), rfl, fun h => h⟩
 | .p v :: r, st, K, vs, h, hr, ho, hwf, hw, hd, hn => by
  obtain ⟨st', l, h1, h2, h3, h4, h5, h6, h7⟩ := bindR_sound (K := fun st' l => K st' (v :: l)) h hr.2 ho hwf hw hd hn
  refine ⟨st', v :: l, h1, h2, h3, h4, fun u hu => ?_, by simp [resSV, h6], h7⟩
  rcases List.mem_cons.1 hu with rfl | hu
  ·exact noPsv_ok hr.1
  ·exact h5 u hu
 | .row E size L :: r, st, K, [], h, hr, ho, hwf, hw, hd, hn => ho.elim
 | .row E size L :: r, st, K, v :: vs, h, hr, ho, hwf, hw, hd, hn => by
  obtain ⟨ho1, ho2, ho3, ho4⟩ := ho
  rw [bindR_row] at h; simp only [pushK_eq] at h
  have hw' : Holds (st.push (.row v E size L)) w := hw.pushO ho1 fun b hb => ⟨hd v (by simp) b hb, .inr (Nat.le_trans hn (ho2 b hb))⟩
  have hok : LOok st.hp (.row v E size L) := ⟨rows_some ho1, fun l hl c hc => noP_ok (hr.1 l hl c hc)⟩
  obtain ⟨st', l, h1, h2, h3, h4, h5, h6, h7⟩ := bindR_sound (K := fun st' l => K st' (.c (.o (nid st.hp) v) :: l)) (h v) hr.2 ho4 (hwf.push hok) hw' (fun u hu b hb hm => by
   rcases mem_blks_push hm with hm | hm
   ·exact ho3 u hu b hm hb
   ·exact hd u (by simp [hu]) b hb hm) hn
  refine ⟨st', .c (.o (nid st.hp) v) :: l, h1, push_same.trans h2, h3, h4, fun u hu => ?_, by simp [resSV, h6, SV.den, CV.den], fun hq => h7 hq.push⟩
  rcases List.mem_cons.1 hu with rfl | hu
  ·exact ownsAt_slice ho1.1
  ·exact h5 u hu
theorem toRV_den {l l' : List SV} (h : l.map SV.den = l'.map SV.den) : (toRV l).den = (toRV l').den := by
 match l, l', h with
 | [], [], _ => rfl
 | [v], [v'], h => simpa [toRV, RV.den] using h
 | [_], [], h => simp at h
 | [_], _ :: _ :: _, h => simp at h
 | [], [_], h => simp at h
 | [], _ :: _ :: _, h => simp at h
 | _ :: _ :: _, [_], h => simp at h
 | _ :: _ :: _, [], h => simp at h
 | a :: b :: r, a' :: b' :: r', h => simp only [toRV, RV.den, h]
theorem toRV_ok {hp : List (Nat × LO)} {l : List SV} (h : ∀ v ∈ l, SVok hp v) : RVok hp (toRV l) := by
 match l, h with
 | [], h => exact h
 | [v], h => exact h v (by simp)
 | a :: b :: r, h => exact h
theorem ansR_call {P : Program} {f : FuncId} {args : List Value} {rds : List RD} {st : St} {d : Option Nat} {K : St → Prop} (hb : Body P f) (hr : rdOk rds) (h : ∀ w, Holds st w → AnsR P f args rds w)
  (hk : bindR st rds (fun st' l => goPut st' d (toRV l) K)) : UCall P st f args d K :=
 .inl ⟨hb, fun hwf w hw => (h w hw).mono fun e w' ⟨vs, he, ho, hx⟩ => by
  have hfresh : ∀ (rds : List RD) (vs : List Value), resOk w.heap.size w' rds vs → ∀ u ∈ vs, ∀ b ∈ blkOf u, w.heap.size ≤ b := by
   intro rds
   induction rds with
   | nil => intro vs ho u hu; rw [show vs = [] from ho] at hu; cases hu
   | cons x r ih =>
    cases x with
    | p v => intro vs ho; exact ih vs ho
    | row E size L =>
     intro vs ho
     cases vs with
     | nil => exact ho.elim
     | cons v vs =>
      intro u hu
      rcases List.mem_cons.1 hu with rfl | hu
      ·exact ho.2.1
      ·exact ih vs ho.2.2.2 u hu
  obtain ⟨st', l, h1, h2, h3, h4, h5, h6, _⟩ := bindR_sound hk hr ho hwf (hw.ext hx) (fun u hu b hb hm => by
   have := hw.blk_lt b hm
   have := hfresh rds vs ho u hu b hb
   omega) hw.fr.size
  exact ⟨toRV l, st', by rw [he, toRV_den h6], h2, h3, toRV_ok h5, h4, h1⟩⟩
theorem SlOf.of_row {α : Type} {size : Nat} {enc : α → List CV} {hl : ∀ x, (enc x).length = size} {S : List Nat} {w : World} {v : Value} {E : Nat} {xs : List α} (h : (LO.row v E size (xs.map enc)).holds w) (hS : ∀ b ∈ blkOf v, b ∉ S)
  (hsm : xs.length ≤ 9223372036854775807) : SlOf (flat size enc hl) S w v xs := by
 obtain ⟨a, c, rfl, hlc, hnil⟩ := row_slice h
 simp only [List.length_map] at hlc hnil h ⊢
 refine ⟨⟨a, xs.length, c, rfl, hnil, hlc⟩, ?_, hsm, fun b n c' e hp => ?_, fun i x hx => ?_⟩
 ·cases a with
  | none => simp [slen, (hnil rfl).1]
  | some a => rfl
 ·cases e
  refine ⟨hS _ (by simp [blkOf]), ?_⟩
  obtain ⟨⟨_, ⟨he, _⟩ | ⟨g, o, cap, cur, he, hg, _⟩⟩, _⟩ := h
  ·cases he
  ·injection he with h1 h2 h3
   cases h1
   exact (Array.getElem?_eq_some_iff.1 hg).1
 ·exact ⟨enc x, rfl, row_cells h (by simp [hx])⟩
theorem Holds.row {st : St} {w : World} (h : Holds st w) {id : Nat} {v : Value} {E size : Nat} {L : List (List CV)} (hl : look st.hp id = some (.row v E size L)) : (LO.row v E size L).holds w := h.objs _ (look_mem hl)
theorem Holds.fresh {st : St} {w : World} (h : Holds st w) {id : Nat} {o : LO} (hl : look st.hp id = some o) : ∀ b ∈ o.blks, b ∈ st.S ∨ st.ws.heap.size ≤ b := fun b hb => h.own b (List.mem_flatMap.2 ⟨_, look_mem hl, hb⟩)
end Go.Vd
namespace Go.Vd
open Go.RowKit
def CVokH (hp : List (Nat × LO)) : CV → Prop
 | .o id v => ∃ E size L, look hp id = some (.row v E size L)
 | c => CVok hp c
def SVokH (hp : List (Nat × LO)) : SV → Prop
 | .c v => CVokH hp v
 | .agg l => ∀ c ∈ l, CVokH hp c
def RVokH (hp : List (Nat × LO)) : RV → Prop
 | .s v => SVokH hp v
 | .tup l => ∀ v ∈ l, SVokH hp v
theorem CVokH.ok {st : St} {w : World} (hw : Holds st w) {c : CV} (h : CVokH st.hp c) : CVok st.hp c := by
 cases c with
 | o id v => obtain ⟨E, size, L, hl⟩ := h; exact ownsAt_slice (hw.row hl).1
 | _ => exact h
theorem SVokH.ok {st : St} {w : World} (hw : Holds st w) {v : SV} (h : SVokH st.hp v) : SVok st.hp v := by
 cases v with
 | c v => exact CVokH.ok hw h
 | agg l => exact fun c hc => (h c hc).ok hw
theorem RVokH.ok {st : St} {w : World} (hw : Holds st w) {v : RV} (h : RVokH st.hp v) : RVok st.hp v := by
 cases v with
 | s v => exact SVokH.ok hw h
 | tup l => exact fun v hv => (h v hv).ok hw
def slotsOk (hp : List (Nat × LO)) : List (Nat × Option RV) → Prop
 | [] => True
 | (_, none) :: r => slotsOk hp r
 | (_, some v) :: r => match noPr v with
  | true => slotsOk hp r
  | false => RVokH hp v ∧ slotsOk hp r
def objsOk (hp : List (Nat × LO)) : List (Nat × LO) → Prop
 | [] => True
 | (_, .box _ _ cells) :: r => match noPs cells with
  | true => objsOk hp r
  | false => (∀ c ∈ cells, CVokH hp c) ∧ objsOk hp r
 | (_, .row _ _ _ L) :: r => (∀ l ∈ L, ∀ c ∈ l, CVokH hp c) ∧ objsOk hp r
theorem slotsOk_spec {st : St} {w : World} (hw : Holds st w) : ∀ {l : List (Nat × Option RV)}, slotsOk st.hp l → ∀ s v, (s, some v) ∈ l → RVok st.hp v
 | [], _, s, v, hm => by cases hm
 | (t, none) :: r, h, s, v, hm => by
  rcases List.mem_cons.1 hm with e | hm
  ·cases e
  ·exact slotsOk_spec hw (l := r) h s v hm
 | (t, some u) :: r, h, s, v, hm => by
  simp only [slotsOk] at h
  split at h
  ·rename_i hn
   rcases List.mem_cons.1 hm with e | hm
   ·cases e; exact noPr_ok hn
   ·exact slotsOk_spec hw h s v hm
  ·rcases List.mem_cons.1 hm with e | hm
   ·cases e; exact h.1.ok hw
   ·exact slotsOk_spec hw h.2 s v hm
theorem objsOk_spec {st : St} {w : World} (hw : Holds st w) : ∀ {l : List (Nat × LO)}, objsOk st.hp l → (∀ id b T cells, (id, LO.box b T cells) ∈ l → ∀ c ∈ cells, CVok st.hp c) ∧ (∀ id v E size L, (id, LO.row v E size L) ∈ l → ∀ q ∈ L, ∀ c ∈ q, CVok st.hp c)
 | [], _ => ⟨fun _ _ _ _ hm => (by cases hm), fun _ _ _ _ _ hm => (by cases hm)⟩
 | (t, .box b T cells) :: r, h => by
  simp only [objsOk] at h
  have key : (∀ c ∈ cells, CVok st.hp c) ∧ objsOk st.hp r := by
   split at h
   ·rename_i hn; exact ⟨noPs_ok hn, h⟩
   ·exact ⟨fun c hc => (h.1 c hc).ok hw, h.2⟩
  obtain ⟨h1, h2⟩ := objsOk_spec hw key.2
  refine ⟨fun id b' T' cs hm => ?_, fun id v E size L hm => ?_⟩
  ·rcases List.mem_cons.1 hm with e | hm
   ·cases e; exact key.1
   ·exact h1 id b' T' cs hm
  ·rcases List.mem_cons.1 hm with e | hm
   ·cases e
   ·exact h2 id v E size L hm
 | (t, .row v E size L) :: r, h => by
  obtain ⟨h1, h2⟩ := objsOk_spec hw (l := r) h.2
  refine ⟨fun id b' T' cs hm => ?_, fun id v' E' size' L' hm => ?_⟩
  ·rcases List.mem_cons.1 hm with e | hm
   ·cases e
   ·exact h1 id b' T' cs hm
  ·rcases List.mem_cons.1 hm with e | hm
   ·cases e; exact fun q hq c hc => (h.1 q hq c hc).ok hw
   ·exact h2 id v' E' size' L' hm
theorem WF.objs {st : St} {w : World} (hw : Holds st w) (h1 : slotsOk st.hp st.sl) (h2 : objsOk st.hp st.hp) : WF st :=
 ⟨slotsOk_spec hw h1, (objsOk_spec hw h2).1, fun id v E size L hm => ⟨rows_some (hw.objs _ hm), (objsOk_spec hw h2).2 id v E size L hm⟩⟩
theorem Holds.sl {st : St} {w : World} (h : Holds st w) {id : Nat} {v : Value} {E size : Nat} {L : List (List CV)} (hl : look st.hp id = some (.row v E size L)) : ∃ a n c, v = .slice a n c := ownsAt_slice (h.row hl).1
def keepIds (ids : List Nat) : List (Nat × LO) → List (Nat × LO)
 | [] => []
 | (t, o) :: r => match ids.any (fun i => Nat.beq i t) with
  | true => (t, o) :: keepIds ids r
  | false => keepIds ids r
theorem keepIds_sub (ids : List Nat) : ∀ (hp : List (Nat × LO)), List.Sublist (keepIds ids hp) hp
 | [] => .slnil
 | (t, o) :: r => by
  simp only [keepIds]
  split
  ·exact (keepIds_sub ids r).cons_cons _
  ·exact (keepIds_sub ids r).cons _
theorem flatMap_sub {l l' : List (Nat × LO)} (h : List.Sublist l l') : List.Sublist (l.flatMap fun o => o.2.blks) (l'.flatMap fun o => o.2.blks) := by
 induction h with
 | slnil => exact .slnil
 | cons a h ih => rw [List.flatMap_cons]; exact ih.trans (List.sublist_append_right _ _)
 | cons_cons a h ih => rw [List.flatMap_cons, List.flatMap_cons]; exact (List.Sublist.refl _).append ih
theorem Holds.sub {st st' : St} {w : World} (h : Holds st w) (hs : List.Sublist st'.hp st.hp) (h2 : st'.S = st.S) (h3 : st'.ws = st.ws) : Holds st' w := by
 have hb := flatMap_sub hs
 refine ⟨fun o ho => h.objs o (hs.subset ho), List.Sublist.nodup hb h.nodup, by rw [h2, h3]; exact h.fr, fun b hb' => ?_⟩
 rw [h2, h3]
 exact h.own b (hb.subset hb')
theorem Holds.keep {st st' : St} {w : World} (h : Holds st w) (ids : List Nat) (h1 : st'.hp = keepIds ids st.hp) (h2 : st'.S = st.S) (h3 : st'.ws = st.ws) : Holds st' w :=
 h.sub (by rw [h1]; exact keepIds_sub ids _) h2 h3
theorem nil_holds {w : World} {E size : Nat} : (LO.row (.slice none 0 0) E size []).holds w := ⟨⟨by simp [dens], .inl ⟨rfl, rfl⟩⟩, fun l hl => by cases hl⟩
theorem Holds.nil {st st' : St} {w : World} (h : Holds st w) {id E size : Nat} (h1 : st'.hp = (id, .row (.slice none 0 0) E size []) :: st.hp) (h2 : st'.S = st.S) (h3 : st'.ws = st.ws) : Holds st' w := by
 refine ⟨fun o ho => ?_, ?_, by rw [h2, h3]; exact h.fr, fun b hb => ?_⟩
 ·rw [h1] at ho
  rcases List.mem_cons.1 ho with rfl | ho
  ·exact nil_holds
  ·exact h.objs o ho
 ·unfold St.blks; rw [h1, List.flatMap_cons]; exact h.nodup
 ·unfold St.blks at hb; rw [h1, List.flatMap_cons] at hb; rw [h2, h3]; exact h.own b hb
def NoP (L : List (List CV)) : Prop := ∀ l ∈ L, ∀ c ∈ l, noP c = true
theorem NoP.ok {hp : List (Nat × LO)} {L : List (List CV)} (h : NoP L) : ∀ l ∈ L, ∀ c ∈ l, CVok hp c := fun l hl c hc => noP_ok (h l hl c hc)
theorem NoP.okH {hp : List (Nat × LO)} {L : List (List CV)} (h : NoP L) : ∀ l ∈ L, ∀ c ∈ l, CVokH hp c := fun l hl c hc => by
 have := h l hl c hc
 cases c <;> first | trivial | simp [noP] at this
theorem NoP.map {α : Type} {enc : α → List CV} (h : ∀ x, noPs (enc x) = true) (xs : List α) : NoP (xs.map enc) := by
 intro l hl c hc
 obtain ⟨x, _, rfl⟩ := List.mem_map.1 hl
 have key : ∀ {l : List CV}, noPs l = true → ∀ c ∈ l, noP c = true := by
  intro l
  induction l with
  | nil => intro _ c hc; cases hc
  | cons y r ih =>
   intro h c hc
   simp only [noPs] at h
   split at h
   ·rename_i hy
    rcases List.mem_cons.1 hc with rfl | hc
    ·exact hy
    ·exact ih h c hc
   ·cases h
 exact key (h x) c hc
def intsOnly : List CV → Bool
 | [] => true
 | .i _ :: r => intsOnly r
 | .b _ :: r => intsOnly r
 | _ :: _ => false
theorem intsOnly_one : ∀ {l : List CV}, intsOnly l = true → ∀ c ∈ l, c.den.oneCell' = true
 | [], _, c, hc => by cases hc
 | .i _ :: r, h, c, hc => by
  rcases List.mem_cons.1 hc with rfl | hc
  ·rfl
  ·exact intsOnly_one (l := r) h c hc
 | .b _ :: r, h, c, hc => by
  rcases List.mem_cons.1 hc with rfl | hc
  ·rfl
  ·exact intsOnly_one (l := r) h c hc
theorem obs_map {α : Type} {enc : α → List CV} (h : ∀ x, intsOnly (enc x) = true) : ∀ (xs : List α), oneObs (xs.map enc).flatten = []
 | [] => rfl
 | x :: r => by
  have key : ∀ (l q : List CV), intsOnly l = true → oneObs (l ++ q) = oneObs q := by
   intro l
   induction l with
   | nil => intro q _; rfl
   | cons c l ih => intro q h; cases c <;> simp only [intsOnly] at h <;> first | cases h | (simp only [List.cons_append, oneObs]; exact ih q h)
  rw [List.map_cons, List.flatten_cons, key _ _ (h x)]; exact obs_map h r
theorem obl_map {α : Type} {enc : α → List CV} (h : ∀ x, intsOnly (enc x) = true) {xs : List α} {K : Prop} (k : K) : obl [] (oneObs (xs.map enc).flatten) K := by rw [obs_map h]; exact k
theorem add_add (b : Addr) (p q : Nat) : (b.add p).add q = b.add (p + q) := by
 unfold Addr.add
 by_cases h0 : p = 0
 ·simp [h0]
 ·by_cases h1 : q = 0 <;> simp [h0, h1, Nat.add_assoc]
section
variable {α : Type} {T : Ty α} {S : List Nat} {w : World} {v : Value} {xs : List α}
theorem SlOf.src {size : Nat} {enc : α → List CV} {hl : ∀ x, (enc x).length = size} (h : SlOf (flat size enc hl) S w v xs) (ho : ∀ x, intsOnly (enc x) = true) : SrcOk w v size (xs.map enc) := by
 refine ⟨fun l hl' => ?_, fun l hl' c hc => ?_, ?_⟩
 ·obtain ⟨x, _, rfl⟩ := List.mem_map.1 hl'; exact hl x
 ·obtain ⟨x, _, rfl⟩ := List.mem_map.1 hl'; exact intsOnly_one (ho x) c hc
 ·obtain ⟨a, n, c, rfl, hnil, hc⟩ := h.sl
  cases a with
  | none =>
   obtain ⟨rfl, rfl⟩ := hnil rfl
   have hl0 := h.len
   simp only [slen] at hl0
   have : xs = [] := List.eq_nil_of_length_eq_zero (by omega)
   subst this
   exact .inr ⟨rfl, rfl⟩
  | some a =>
   have hn : n = xs.length := by have := h.len; simp only [slen] at this; omega
   subst hn
   refine .inl ⟨a, c, by simp, fun j x hx => ?_⟩
   have hlr : ∀ l ∈ xs.map enc, l.length = size := fun l hl' => by obtain ⟨x, _, rfl⟩ := List.mem_map.1 hl'; exact hl x
   have hjl : j < xs.length * size := by
    rcases Nat.lt_or_ge j (xs.length * size) with h' | h'
    ·exact h'
    ·rw [List.getElem?_eq_none (by simp only [dens, List.length_map]; rw [flatten_len hlr, List.length_map]; exact h')] at hx; cases hx
   have hpos : 0 < size := Nat.pos_of_ne_zero fun h0 => by subst h0; simp at hjl
   have hq : j / size < xs.length := Nat.div_lt_of_lt_mul (by rw [Nat.mul_comm]; exact hjl)
   have hr := Nat.mod_lt j hpos
   have hj : j / size * size + j % size = j := by rw [Nat.mul_comm]; exact Nat.div_add_mod j size
   obtain ⟨l, h1, h2⟩ := h.elem (j / size) _ (List.getElem?_eq_getElem hq)
   cases h1
   have e := flatten_get hlr (k := j / size) (row := enc xs[j / size]) (by simp [hq]) (j % size) hr
   rw [hj] at e
   have e2 : (dens (enc xs[j / size]))[j % size]? = some x := by
    simp only [dens, List.getElem?_map] at hx ⊢
    rw [← e]; exact hx
   have := h2 a _ c rfl (j % size) x e2
   rw [← this]
   congr 1
   unfold elemAddr
   simp only [Int.toNat_natCast, add_add]
   show a.add j = a.add (j / size * size + 0 + j % size)
   rw [Nat.add_zero, hj]
theorem SlOf.loadI {size : Nat} {enc : α → List CV} {hl : ∀ x, (enc x).length = size} {ws : World} (h : SlOf (flat size enc hl) S ws v xs) (hf : Fr S ws w)
  {i : Int} (h0 : 0 ≤ i) {x : α} (hx : xs[i.toNat]? = some x) {off n : Nat} {l : List CV} (ht : takeCells off n (enc x) = some l) : ECells w v size i off l := by
 have := h.load hf hx ht
 rw [Int.toNat_of_nonneg h0] at this
 exact this
theorem SlOf.part (h : SlOf T S w v xs) {lo hi : Int} (h0 : 0 ≤ lo) (h1 : lo ≤ hi) (h2 : hi ≤ xs.length) : SlOf T S w (subV v T.size lo hi) ((xs.take hi.toNat).drop lo.toNat) := by
 obtain ⟨a, n, c, rfl, hnil, hc⟩ := h.sl
 have hlen : ((xs.take hi.toNat).drop lo.toNat).length = hi.toNat - lo.toNat := by simp; omega
 cases a with
 | none =>
  obtain ⟨rfl, rfl⟩ := hnil rfl
  have hl0 := h.len
  simp only [slen] at hl0
  have e1 : lo = 0 := by omega
  have e2 : hi = 0 := by omega
  subst e1 e2
  refine ⟨⟨none, 0, 0, by simp [subV], fun _ => ⟨rfl, rfl⟩, Nat.le_refl _⟩, by simp [subV, slen], by simp, fun b n c e => by simp [subV] at e, fun i x hx => by simp at hx⟩
 | some a =>
  have hn : n = xs.length := by have := h.len; simp only [slen] at this; omega
  subst hn
  have hsm := h.small
  refine ⟨⟨_, _, _, rfl, fun e => ?_, by omega⟩, ?_, by rw [hlen]; omega, fun b n' c' e hp => ?_, fun i x hx => ?_⟩
  ·split at e <;> cases e
  ·rw [hlen]
   simp only [subV]
   split <;> simp [slen]
  ·simp only [subV] at e
   have := h.av a _ c rfl (by omega)
   split at e
   ·cases e; exact this
   ·simp only [Option.map_some] at e
    cases e
    rw [add_block]; exact this
  ·have hi' : i < hi.toNat - lo.toNat := by
    rcases Nat.lt_or_ge i (hi.toNat - lo.toNat) with h' | h'
    ·exact h'
    ·rw [List.getElem?_eq_none (by omega)] at hx; cases hx
   rw [List.getElem?_drop, List.getElem?_take_of_lt (by omega)] at hx
   obtain ⟨l, h3, h4⟩ := h.elem _ x hx
   refine ⟨l, h3, fun b n' c' e j u hu => ?_⟩
   simp only [subV] at e
   rw [if_neg (by omega)] at e
   simp only [Option.map_some] at e
   injection e with e1 e2 e3
   cases e1
   have := h4 a _ c rfl j u hu
   rw [← this]
   congr 1
   unfold elemAddr
   simp only [Int.toNat_natCast]
   simp only [add_add]
   congr 1
   rw [Nat.add_mul]
end
theorem ansR_row {st : St} {w w' : World} {id : Nat} {v : Value} {E size : Nat} {L : List (List CV)} (hw : Holds st w') (hl : look st.hp id = some (.row v E size L)) (hS : st.S = []) (hws : st.ws = w) :
  ∃ vs, Ending.returned v = .returned (toRV (resSV [.row E size L] vs)).den ∧ resOk w.heap.size w' [.row E size L] vs ∧ Ext w w' := by
 subst hws
 refine ⟨[v], rfl, ⟨hw.row hl, fun b hb => ?_, fun u hu => (by cases hu), rfl⟩, by have := hw.fr; rw [hS] at this; exact this⟩
 rcases hw.fresh hl b hb with h | h
 ·rw [hS] at h; cases h
 ·exact h
theorem ansR_nil {st : St} {w w' : World} {E size : Nat} (hw : Holds st w') (hS : st.S = []) (hws : st.ws = w) :
  ∃ vs, Ending.returned (.slice none 0 0) = .returned (toRV (resSV [.row E size []] vs)).den ∧ resOk w.heap.size w' [.row E size []] vs ∧ Ext w w' := by
 subst hws
 exact ⟨[.slice none 0 0], rfl, ⟨nil_holds, fun b hb => (by simp [blkOf] at hb), fun u hu => (by cases hu), rfl⟩, by have := hw.fr; rw [hS] at this; exact this⟩
theorem row_call {P : Program} {f : FuncId} {args : List Value} {st : St} {d : Option Nat} {K : St → Prop} {id : Nat} {v : Value} {E size : Nat} {L : List (List CV)} (hb : Body P f) (hl : look st.hp id = some (.row v E size L))
  (Good : RV → Value → List (List CV) → Prop)
  (h : ∀ w, Holds st w → Calls P f args.toArray w (fun e w' => ∃ r v' L', e = .returned (RV.den r) ∧ Good r v' L' ∧ (LO.row v' E size L').holds w' ∧ Fr (blkOf v) w w' ∧ ∀ b ∈ blkOf v', b ∈ blkOf v ∨ w.heap.size ≤ b))
  (hk : ∀ r v' L', Good r v' L' → (∃ a n c, v' = .slice a n c) → RVok (hpSet st.hp id (.row v' E size L')) r ∧ NoP L' ∧ hpSetK st.hp id (.row v' E size L') (fun hp => st.withHp hp (fun st' => goPut st' d r K))) : UCall P st f args d K :=
 .inl ⟨hb, fun hwf w hw => (h w hw).mono fun e w' ⟨r, v', L', he, hg, hh, hf, hbl⟩ => by
  obtain ⟨h1, h2, h3⟩ := hk r v' L' hg (ownsAt_slice hh.1)
  rw [hpSetK_eq] at h3
  refine ⟨r, st.setHp (hpSet st.hp id (.row v' E size L')), he, ⟨rfl, rfl, rfl, rfl⟩, hwf.setO hl (fun b T cells e => by cases e) ⟨rows_some hh, h2.ok⟩, h1, hw.setG hl hf hh hbl, h3⟩⟩
theorem row_prefix {w : World} {v : Value} {E size : Nat} {L : List (List CV)} (h : (LO.row v E size L).holds w) {n : Nat} (hn : n ≤ L.length) : (LO.row (subV v size 0 n) E size (L.take n)).holds w := by
 obtain ⟨⟨hlen, hv⟩, hL⟩ := h
 have hL' : ∀ l ∈ L.take n, l.length = size := fun l hl => hL l (List.mem_of_mem_take hl)
 have e1 : (dens (L.take n).flatten).length = (L.take n).length * size := by simp only [dens, List.length_map]; exact flatten_len hL'
 have e2 : (L.take n).length = n := by simp; omega
 refine ⟨⟨e1, ?_⟩, hL'⟩
 rcases hv with ⟨rfl, h0⟩ | ⟨g, o, cap, cur, rfl, hg, hnc, hcm, hcs, htake⟩
 ·have : n = 0 := by omega
  subst this
  exact .inl ⟨by simp [subV], by simp⟩
 ·refine .inr ⟨g, o, cap, cur, ?_, hg, by omega, hcm, hcs, ?_⟩
  ·simp [subV, Addr.add]; omega
  ·rw [flatten_take hL]
   simp only [dens, List.map_take]
   have ht := htake
   simp only [dens] at ht
   rw [← ht, List.take_take, e2]
   congr 1
   exact (Nat.min_eq_left (Nat.mul_le_mul_right _ hn)).symm
theorem blkOf_sub {v : Value} {size : Nat} {lo hi : Int} : ∀ b ∈ blkOf (subV v size lo hi), b ∈ blkOf v := by
 intro b hb
 cases v with
 | slice a n c =>
  cases a with
  | none => simp only [subV] at hb; split at hb <;> simp [blkOf] at hb
  | some a =>
   simp only [subV] at hb
   split at hb
   ·exact hb
   ·simpa [blkOf, add_block] using hb
 | _ => exact hb
section
variable {P : Program} {Q : Exit → Act → World → Prop}
theorem At.loopH {ρ : Type} {c : Code} {st : St} (F : ρ → St) (Inv : ρ → Prop) (μ : ρ → Nat) (h₀ : ∀ w, Holds st w → ∃ p, Inv p ∧ Le st (F p) ∧ Holds (F p) w ∧ slotsOk (F p).hp (F p).sl ∧ objsOk (F p).hp (F p).hp)
  (round : ∀ p, Inv p → At (F p) (c.wp P (Exit.then (fun a w => ∃ m st'', m < μ p ∧ (∃ q, Inv q ∧ m = μ q ∧ st'' = F q) ∧ WF st'' ∧ Rel st'' a ∧ Holds st'' w) Q))) : At st ((Code.loop c).wp P Q) :=
 At.loopF F Inv μ (fun w hw => let ⟨p, h1, h2, h3, h4, h5⟩ := h₀ w hw; ⟨p, h1, h2, WF.objs h3 h4 h5, h3⟩) round
theorem At.nextH {ρ : Type} {st : St} {F : ρ → St} {Inv : ρ → Prop} {μ : ρ → Nat} {n : Nat} (h : ∀ w, Holds st w → ∃ q, Inv q ∧ μ q < n ∧ Le st (F q) ∧ Holds (F q) w ∧ slotsOk (F q).hp (F q).sl ∧ objsOk (F q).hp (F q).hp) :
  At st (fun a w => ∃ m st'', m < n ∧ (∃ q, Inv q ∧ m = μ q ∧ st'' = F q) ∧ WF st'' ∧ Rel st'' a ∧ Holds st'' w) :=
 At.next fun w hw => let ⟨q, h1, h2, h3, h4, h5, h6⟩ := h w hw; ⟨q, h1, h2, h3, WF.objs h4 h5 h6, h4⟩
theorem At.reshapeH {st : St} {R : Act → World → Prop} (h : ∀ w, Holds st w → ∃ st', Le st st' ∧ Holds st' w ∧ slotsOk st'.hp st'.sl ∧ objsOk st'.hp st'.hp ∧ At st' R) : At st R :=
 At.reshape fun w hw => let ⟨st', h1, h2, h3, h4, h5⟩ := h w hw; ⟨st', h1, WF.objs h2 h3 h4, h2, h5⟩
end
theorem enter_objs {N : Nat} {l : List RV} {hp : List (Nat × LO)} {w : World} (h : ∀ o ∈ hp, o.2.holds w) (hn : (hp.flatMap fun o => o.2.blks).Nodup) : Holds (St.enter N l hp (hp.flatMap fun o => o.2.blks) w) w :=
 ⟨h, hn, Fr.refl _ _, fun b hb => .inl hb⟩
theorem Fr.ext {S : List Nat} {w w' : World} (h : Fr S w w') (hs : ∀ b ∈ S, w'.heap[b]? = w.heap[b]?) : Ext w w' :=
 ⟨h.os, h.tape, h.output, h.size, fun k hk _ => by
  by_cases hm : k ∈ S
  ·exact hs k hm
  ·exact h.block k hk hm, h.dr⟩
theorem box_get {w : World} {b : Nat} {T : TypeId} {cells : List CV} (h : (LO.box b T cells).holds w) : w.heap[b]? = some (.cells (dens cells).toArray T (0, 0)) := h
theorem Holds.box {st : St} {w : World} (h : Holds st w) {id b : Nat} {T : TypeId} {cells : List CV} (hl : look st.hp id = some (.box b T cells)) : w.heap[b]? = some (.cells (dens cells).toArray T (0, 0)) := h.objs _ (look_mem hl)
theorem SlOf.at {α : Type} {T : Ty α} {S : List Nat} {ws : World} {v : Value} {xs : List α} (h : SlOf T S ws v xs) {i : Nat} {x : α} (hx : xs[i]? = some x) :
  ∃ l, T.rel S ws x l ∧ ∀ w, Fr S ws w → ECells w v T.size i 0 l := by
 obtain ⟨l, h1, h2⟩ := h.elem i x hx
 refine ⟨l, h1, fun w hf a n c e j u hu => ?_⟩
 have hv := h.av a n c e (pos_of_get hx)
 rw [cell_fr hf (by rw [elemAddr_block]; exact hv.1) (by rw [elemAddr_block]; exact hv.2)]
 exact h2 a n c e j u hu
end Go.Vd
namespace Go.Proofs.YtgpgbiklefkjjaaGreatDoor.Dr
open Go.Vd Rt Go.Bs
def tab : Tab := [(3, { kind := 6, size := 1, zero := [.i 0] }),
 (23, { kind := 1, size := 1, zero := [.x (.slice none 0 0)], elem := 3, esize := 1, ebytes := 8 }),
 (43, { kind := 2, size := 3, zero := [.i 0, .i 0, .i 0], flds := [(0, 1, false), (1, 1, false), (2, 1, false)], cmp := true }),
 (39, { kind := 2, size := 13, zero := [.i 0, .i 0, .i 0, .x (.slice none 0 0), .i 0, .i 0, .i 0, .i 0, .i 0, .i 0, .x (.slice none 0 0), .x (.slice none 0 0), .x (.string ⟨#[]⟩)], flds := [(0, 1, false), (1, 1, false), (2, 1, false), (3, 1, false), (4, 1, false), (5, 1, false), (6, 1, false), (7, 1, false), (8, 1, false), (9, 1, false), (10, 1, false), (11, 1, false), (12, 1, false)] }),
 (71, { kind := 2, size := 3, zero := [.i 0, .x (.string ⟨#[]⟩), .i 0], flds := [(0, 1, false), (1, 1, false), (2, 1, false)] }),
 (80, { kind := 2, size := 18, zero := [.i 0, .x (.string ⟨#[]⟩), .i 0, .i 0, .i 0, .i 0, .x (.slice none 0 0), .i 0, .i 0, .i 0, .i 0, .i 0, .i 0, .x (.slice none 0 0), .x (.slice none 0 0), .x (.string ⟨#[]⟩), .i 0, .x (.slice none 0 0)], flds := [(0, 3, true), (3, 13, true), (16, 1, false), (17, 1, false)] })]
theorem tab_ok : TabOk Tryz.prog tab := TabOk.of_all (by kernel_rfl)
theorem mixed : Tryz.prog.follows .mixedOrders = true := by kernel_rfl
theorem b100 : Body Tryz.prog 100 := ⟨Tryz.f100, Tryz.func100, rfl, rfl⟩
theorem b63 : Body Tryz.prog 63 := ⟨Tryz.f63, Tryz.func63, rfl, rfl⟩
theorem b83 : Body Tryz.prog 83 := ⟨Tryz.f83, Tryz.func83, rfl, rfl⟩
@[reducible] def encS (s : Span) : List CV := [.i s.m, .i s.f, .i s.t]
theorem isNaN2_c (x : Int) (w : World) : Ans Tryz.prog 100 [vI x] (.b false) w := by
 refine calls_plainB [.i x] Tryz.func100 rfl rfl (Nat.le_of_ble_eq_true rfl) rfl fun B hB => ?_
 repeat refine At.seq ?_
 refine At.region tab_ok ?_; conv => whnf
 repeat refine At.seq ?_
 refine At.region tab_ok ?_; conv => whnf
 repeat refine At.seq ?_
 refine At.ret (At.doneB tab_ok hB _ rfl fun w' hw => ⟨?_, hw.fr⟩)
 simp [RV.den, SV.den, CV.den]
theorem compare2_c (x y : Int) (w : World) : Ans Tryz.prog 63 [vI x, vI y] (.i (cmpI x y)) w := by
 refine calls_plainB [.i x, .i y] Tryz.func63 rfl rfl (Nat.le_of_ble_eq_true rfl) rfl fun B hB => ?_
 repeat refine At.seq ?_
 refine At.region tab_ok ?_; conv => whnf
 repeat refine At.seq ?_
 refine At.region tab_ok ?_; conv => whnf
 refine ans_call b100 rfl (fun w _ => isNaN2_c x w) ?_; conv => whnf
 repeat refine At.seq ?_
 refine At.region tab_ok ?_; conv => whnf
 refine ans_call b100 rfl (fun w _ => isNaN2_c y w) ?_; conv => whnf
 repeat refine At.seq ?_
 refine At.region tab_ok ?_; conv => whnf
 repeat refine At.seq ?_
 refine At.cond (t := false) rfl (fun hq => by cases hq) (fun hq => At.skip ?_)
 repeat refine At.seq ?_
 refine At.region tab_ok ?_; conv => whnf
 repeat refine At.seq ?_
 refine At.cond (t := false) rfl (fun hq => by cases hq) (fun hq => At.skip ?_)
 repeat refine At.seq ?_
 refine At.region tab_ok ?_; conv => whnf
 repeat refine At.seq ?_
 refine At.cond rfl (fun hq => ?_) (fun hq => ?_)
 ·repeat refine At.seq ?_
  refine At.region tab_ok ?_; conv => whnf
  repeat refine At.seq ?_
  refine At.ret (At.doneB tab_ok hB _ rfl fun w' hw => ⟨?_, hw.fr⟩)
  have := of_decide_eq_true hq
  simp [RV.den, SV.den, CV.den, cmpI, this, ofConst]
 ·have h1 := of_decide_eq_false hq
  refine At.skip ?_
  repeat refine At.seq ?_
  refine At.region tab_ok ?_; conv => whnf
  repeat refine At.seq ?_
  refine At.cond rfl (fun hq => ?_) (fun hq => ?_)
  ·repeat refine At.seq ?_
   refine At.region tab_ok ?_; conv => whnf
   repeat refine At.seq ?_
   refine At.ret (At.doneB tab_ok hB _ rfl fun w' hw => ⟨?_, hw.fr⟩)
   have := of_decide_eq_true hq
   simp [RV.den, SV.den, CV.den, cmpI, this, h1, ofConst]
  ·refine At.skip ?_
   repeat refine At.seq ?_
   refine At.region tab_ok ?_; conv => whnf
   repeat refine At.seq ?_
   refine At.ret (At.doneB tab_ok hB _ rfl fun w' hw => ⟨?_, hw.fr⟩)
   have := of_decide_eq_false hq
   simp [RV.den, SV.den, CV.den, cmpI, this, h1, ofConst]
theorem or_c (xs : List Int) (S : List Nat) (v : Value) (w : World) (h : SlOf intT S w v xs) : Ans Tryz.prog 83 [v] (.i (orI xs)) w := by
 replace h := h.avoid (S' := []) (fun b hb => by cases hb)
 have hsm := h.small
 refine calls_plainB [.x v] Tryz.func83 rfl rfl (Nat.le_of_ble_eq_true rfl) rfl fun B hB => ?_
 repeat refine At.seq ?_
 refine At.region tab_ok ?_; conv => whnf
 repeat refine At.seq ?_
 refine At.region tab_ok ?_; conv => whnf
 repeat refine At.seq ?_
 refine At.region tab_ok ?_; conv => whnf
 refine ⟨h.sl, ?_⟩; conv => whnf
 repeat refine At.seq ?_
 refine At.block ?_
 refine At.loopF (fun k : Nat => { N := Tryz.f83.ntmps, sl := [(3, some (.i 0)), (6, some (.x v)), (7, some (.i xs.length)), (8, some (.i k))], gl := [], hp := [], S := [], ws := w }) (fun k => k ≤ xs.length ∧ orI xs = orI (xs.drop k)) (fun k => xs.length - k)
  (fun w' hw => ⟨0, ⟨Nat.zero_le _, rfl⟩, Le.of rfl rfl ⟨rfl, rfl, congrArg (Value.int .i64) h.len, rfl, trivial⟩, WF.plain rfl, hw.same rfl rfl rfl⟩) ?_
 intro k ⟨hk, hor⟩
 repeat refine At.seq ?_
 refine At.region tab_ok ?_; conv => whnf
 repeat refine At.seq ?_
 refine At.cond rfl (fun hc => At.skip ?_) (fun hc => At.exit ?_)
 ·have hlt : k < xs.length := by simpa using hc
  obtain ⟨x, hx⟩ : ∃ x, xs[k]? = some x := ⟨_, List.getElem?_eq_getElem hlt⟩
  have hd : xs.drop k = x :: xs.drop (k + 1) := by rw [List.drop_eq_getElem_cons hlt]; congr 1; rw [List.getElem?_eq_getElem hlt] at hx; exact Option.some.inj hx
  repeat refine At.seq ?_
  refine At.block ?_
  repeat refine At.seq ?_
  refine At.region tab_ok ?_; conv => whnf
  refine ⟨by omega, ?_⟩; conv => whnf
  refine ⟨by rw [h.len]; omega, ?_⟩; conv => whnf
  refine ⟨[.i x], fun w' hw => h.load (n := 1) hw.fr hx rfl, ?_⟩; conv => whnf
  repeat refine At.seq ?_
  refine At.region tab_ok ?_; conv => whnf
  repeat refine At.seq ?_
  refine At.cond rfl (fun hq => ?_) (fun hq => ?_)
  ·repeat refine At.seq ?_
   refine At.region tab_ok ?_; conv => whnf
   repeat refine At.seq ?_
   refine At.ret (At.doneB tab_ok hB _ rfl fun w' hw => ⟨?_, hw.fr⟩)
   have hne : x ≠ 0 := by simpa using hq
   rw [hor, hd]
   simp [orI, hne, RV.den, SV.den, CV.den]
  ·refine At.skip ?_
   repeat refine At.seq ?_
   refine At.region tab_ok ?_; conv => whnf
   refine ⟨⟨by omega, by omega⟩, ?_⟩; conv => whnf
   refine At.next fun w' hw => ⟨k + 1, ⟨by omega, ?_⟩, by omega, Le.of rfl rfl ⟨rfl, rfl, rfl, rfl, trivial⟩, WF.plain rfl, hw.keep [] rfl rfl rfl⟩
   have hne : x = 0 := by simpa using hq
   rw [hor, hd]
   simp [orI, hne]
 ·have hge : k = xs.length := by simp at hc; omega
  subst hge
  repeat refine At.seq ?_
  refine At.region tab_ok ?_; conv => whnf
  repeat refine At.seq ?_
  refine At.ret (At.doneB tab_ok hB _ rfl fun w' hw => ⟨?_, hw.fr⟩)
  rw [hor]
  simp [orI]
theorem norm2_c (x y : Span) (w : World) : Ans Tryz.prog 95 [vS x, vS y] (.i (cmpS x y)) w := by
 refine calls_plainB [.s (.agg (encS x)), .s (.agg (encS y))] Tryz.func95 rfl rfl (Nat.le_of_ble_eq_true rfl) rfl fun B hB => ?_
 repeat refine At.seq ?_
 refine At.region tab_ok ?_; conv => whnf
 intro b1; conv => whnf
 intro b2; conv => whnf
 repeat refine At.seq ?_
 refine At.plan tab_ok mixed [(0, .box b1 43 (encS x)), (1, .box b2 43 (encS y))] (.take 0 (.take 1 (.take 2 (.take 3 (.take 5 (.take 6 (.take 7 (.take 8 (.br 4 (.br 9 (.br 10 (.br 11 (.take 12 .done) .nob) .nob) .nob) .nob))))))))) (by kernel_rfl) (by kernel_rfl) ⟨rfl, rfl, trivial⟩ ?_; conv => whnf
 refine ⟨ans_call b63 rfl (fun w _ => compare2_c x.m y.m w) ?_, trivial⟩; conv => whnf
 refine ⟨⟨⟨rfl, rfl, trivial⟩, fun w' hw => hw.fr⟩, ?_⟩; conv => whnf
 refine ⟨ans_call b63 rfl (fun w _ => compare2_c x.f y.f w) ?_, trivial⟩; conv => whnf
 refine ⟨⟨⟨rfl, rfl, trivial⟩, fun w' hw => hw.fr⟩, ?_⟩; conv => whnf
 refine ⟨?_, trivial⟩
 intro v1; conv => whnf
 refine ⟨⟨⟨rfl, rfl, trivial⟩, fun w' hw => hw.fr⟩, ?_⟩; conv => whnf
 refine ⟨ans_call b83 rfl (fun w' hw => or_c [cmpI x.m y.m, cmpI x.f y.f] [] v1 w' (SlOf.of_row (xs := [cmpI x.m y.m, cmpI x.f y.f]) (hw.row (id := 2) rfl) (fun b hb hb' => by cases hb') (by simp))) ?_, trivial⟩; conv => whnf
 refine ⟨⟨⟨rfl, rfl, trivial⟩, fun w' hw => hw.fr⟩, ?_⟩; conv => whnf
 repeat refine At.seq ?_
 refine At.ret (At.doneB tab_ok hB _ rfl fun w' hw => ⟨rfl, hw.fr⟩)
end Go.Proofs.YtgpgbiklefkjjaaGreatDoor.Dr
namespace Go.Proofs
open Go.Shelf
def Tryz.sortSp_ren : Go.Shelf.Ren := ⟨fun | 6 => 94 | 15 => 82 | 14 => 133 | 28 => 129 | 29 => 130 | 20 => 158 | 21 => 159 | 22 => 160 | 23 => 161 | 24 => 162 | 25 => 163 | 26 => 164 | 27 => 165 | 46 => 178 | 47 => 154 | 48 => 155 | 49 => 179 | 50 => 180 | 57 => 205 | n => n, fun | 22 => 37 | 24 => 43 | 25 => 152 | 3 => 3 | 39 => 54 | 0 => 0 | 53 => 114 | 55 => 116 | 4 => 4 | 46 => 167 | 45 => 166 | 50 => 121 | 5 => 5 | 9 => 9 | 66 => 192 | 70 => 196 | 76 => 212 | 77 => 213 | n => n, fun | n => n⟩
theorem Tryz.sortSp : Go.Proofs.SlLaysF0.n6 Tryz.prog Tryz.sortSp_ren := {
 mixed := by kernel_rfl
 f6 := ⟨Tryz.f94.name, by decide, Tryz.func94.trans (congrArg some (by kernel_rfl))⟩
 f14 := ⟨Tryz.f133.name, by decide, Tryz.func133.trans (congrArg some (by kernel_rfl))⟩
 f15 := Tryz.func82.trans (congrArg some (by kernel_rfl))
 f20 := ⟨Tryz.f158.name, by decide, Tryz.func158.trans (congrArg some (by kernel_rfl))⟩
 f21 := ⟨Tryz.f159.name, by decide, Tryz.func159.trans (congrArg some (by kernel_rfl))⟩
 f22 := ⟨Tryz.f160.name, by decide, Tryz.func160.trans (congrArg some (by kernel_rfl))⟩
 f23 := ⟨Tryz.f161.name, by decide, Tryz.func161.trans (congrArg some (by kernel_rfl))⟩
 f24 := ⟨Tryz.f162.name, by decide, Tryz.func162.trans (congrArg some (by kernel_rfl))⟩
 f25 := ⟨Tryz.f163.name, by decide, Tryz.func163.trans (congrArg some (by kernel_rfl))⟩
 f26 := ⟨Tryz.f164.name, by decide, Tryz.func164.trans (congrArg some (by kernel_rfl))⟩
 f27 := ⟨Tryz.f165.name, by decide, Tryz.func165.trans (congrArg some (by kernel_rfl))⟩
 f28 := Tryz.func129.trans (congrArg some (by kernel_rfl))
 f29 := Tryz.func130.trans (congrArg some (by kernel_rfl))
 f46 := ⟨Tryz.f178.name, by decide, Tryz.func178.trans (congrArg some (by kernel_rfl))⟩
 f47 := Tryz.func154.trans (congrArg some (by kernel_rfl))
 f48 := Tryz.func155.trans (congrArg some (by kernel_rfl))
 f49 := ⟨Tryz.f179.name, by decide, Tryz.func179.trans (congrArg some (by kernel_rfl))⟩
 f50 := ⟨Tryz.f180.name, by decide, Tryz.func180.trans (congrArg some (by kernel_rfl))⟩
 f57 := ⟨Tryz.f205.name, by decide, Tryz.func205.trans (congrArg some (by kernel_rfl))⟩
 t0 := Tryz.underlying0
 a0 := Tryz.isAgg0
 z0 := Tryz.sizeOf0
 v0 := Tryz.zeroValue0
 t3 := Tryz.underlying3
 a3 := Tryz.isAgg3
 z3 := Tryz.sizeOf3
 v3 := Tryz.zeroValue3
 t4 := Tryz.underlying4
 a4 := Tryz.isAgg4
 z4 := Tryz.sizeOf4
 v4 := Tryz.zeroValue4
 t5 := Tryz.underlying5
 a5 := Tryz.isAgg5
 z5 := Tryz.sizeOf5
 v5 := Tryz.zeroValue5
 t9 := Tryz.underlying9
 a9 := Tryz.isAgg9
 z9 := Tryz.sizeOf9
 v9 := Tryz.zeroValue9
 t22 := Tryz.underlying37
 a22 := Tryz.isAgg37
 z22 := Tryz.sizeOf37
 v22 := Tryz.zeroValue37
 t25 := Tryz.underlying152
 a25 := Tryz.isAgg152
 z25 := Tryz.sizeOf152
 v25 := Tryz.zeroValue152
 t39 := Tryz.underlying54
 a39 := Tryz.isAgg54
 z39 := Tryz.sizeOf54
 v39 := Tryz.zeroValue54
 t45 := Tryz.underlying166
 a45 := Tryz.isAgg166
 z45 := Tryz.sizeOf166
 v45 := Tryz.zeroValue166
 t46 := Tryz.underlying167
 a46 := Tryz.isAgg167
 z46 := Tryz.sizeOf167
 v46 := Tryz.zeroValue167
 t50 := Tryz.underlying121
 a50 := Tryz.isAgg121
 z50 := Tryz.sizeOf121
 v50 := Tryz.zeroValue121
 t53 := Tryz.underlying114
 a53 := Tryz.isAgg114
 z53 := Tryz.sizeOf114
 v53 := Tryz.zeroValue114
 t55 := Tryz.underlying116
 a55 := Tryz.isAgg116
 z55 := Tryz.sizeOf116
 v55 := Tryz.zeroValue116
 t66 := Tryz.underlying192
 a66 := Tryz.isAgg192
 z66 := Tryz.sizeOf192
 v66 := Tryz.zeroValue192
 t70 := Tryz.underlying196
 a70 := Tryz.isAgg196
 z70 := Tryz.sizeOf196
 v70 := Tryz.zeroValue196
 t76 := Tryz.underlying212
 a76 := Tryz.isAgg212
 z76 := Tryz.sizeOf212
 v76 := Tryz.zeroValue212
 t77 := Tryz.underlying213
 a77 := Tryz.isAgg213
 z77 := Tryz.sizeOf213
 v77 := Tryz.zeroValue213 }
def Tryz.sortNd_ren : Go.Shelf.Ren := ⟨fun | 6 => 37 | 15 => 82 | 14 => 81 | 28 => 129 | 29 => 130 | 20 => 121 | 21 => 122 | 22 => 123 | 23 => 124 | 24 => 125 | 25 => 126 | 26 => 127 | 27 => 128 | 46 => 153 | 47 => 154 | 48 => 155 | 49 => 156 | 50 => 157 | 57 => 177 | n => n, fun | 22 => 60 | 24 => 80 | 25 => 82 | 3 => 3 | 39 => 54 | 0 => 0 | 53 => 114 | 55 => 116 | 4 => 4 | 46 => 167 | 45 => 166 | 50 => 121 | 5 => 5 | 9 => 9 | 66 => 192 | 70 => 196 | 76 => 212 | 77 => 213 | n => n, fun | n => n⟩
theorem Tryz.sortNd : Go.Proofs.SlLaysF0.n6 Tryz.prog Tryz.sortNd_ren := {
 mixed := by kernel_rfl
 f6 := ⟨Tryz.f37.name, by decide, Tryz.func37.trans (congrArg some (by kernel_rfl))⟩
 f14 := ⟨Tryz.f81.name, by decide, Tryz.func81.trans (congrArg some (by kernel_rfl))⟩
 f15 := Tryz.func82.trans (congrArg some (by kernel_rfl))
 f20 := ⟨Tryz.f121.name, by decide, Tryz.func121.trans (congrArg some (by kernel_rfl))⟩
 f21 := ⟨Tryz.f122.name, by decide, Tryz.func122.trans (congrArg some (by kernel_rfl))⟩
 f22 := ⟨Tryz.f123.name, by decide, Tryz.func123.trans (congrArg some (by kernel_rfl))⟩
 f23 := ⟨Tryz.f124.name, by decide, Tryz.func124.trans (congrArg some (by kernel_rfl))⟩
 f24 := ⟨Tryz.f125.name, by decide, Tryz.func125.trans (congrArg some (by kernel_rfl))⟩
 f25 := ⟨Tryz.f126.name, by decide, Tryz.func126.trans (congrArg some (by kernel_rfl))⟩
 f26 := ⟨Tryz.f127.name, by decide, Tryz.func127.trans (congrArg some (by kernel_rfl))⟩
 f27 := ⟨Tryz.f128.name, by decide, Tryz.func128.trans (congrArg some (by kernel_rfl))⟩
 f28 := Tryz.func129.trans (congrArg some (by kernel_rfl))
 f29 := Tryz.func130.trans (congrArg some (by kernel_rfl))
 f46 := ⟨Tryz.f153.name, by decide, Tryz.func153.trans (congrArg some (by kernel_rfl))⟩
 f47 := Tryz.func154.trans (congrArg some (by kernel_rfl))
 f48 := Tryz.func155.trans (congrArg some (by kernel_rfl))
 f49 := ⟨Tryz.f156.name, by decide, Tryz.func156.trans (congrArg some (by kernel_rfl))⟩
 f50 := ⟨Tryz.f157.name, by decide, Tryz.func157.trans (congrArg some (by kernel_rfl))⟩
 f57 := ⟨Tryz.f177.name, by decide, Tryz.func177.trans (congrArg some (by kernel_rfl))⟩
 t0 := Tryz.underlying0
 a0 := Tryz.isAgg0
 z0 := Tryz.sizeOf0
 v0 := Tryz.zeroValue0
 t3 := Tryz.underlying3
 a3 := Tryz.isAgg3
 z3 := Tryz.sizeOf3
 v3 := Tryz.zeroValue3
 t4 := Tryz.underlying4
 a4 := Tryz.isAgg4
 z4 := Tryz.sizeOf4
 v4 := Tryz.zeroValue4
 t5 := Tryz.underlying5
 a5 := Tryz.isAgg5
 z5 := Tryz.sizeOf5
 v5 := Tryz.zeroValue5
 t9 := Tryz.underlying9
 a9 := Tryz.isAgg9
 z9 := Tryz.sizeOf9
 v9 := Tryz.zeroValue9
 t22 := Tryz.underlying60
 a22 := Tryz.isAgg60
 z22 := Tryz.sizeOf60
 v22 := Tryz.zeroValue60
 t25 := Tryz.underlying82
 a25 := Tryz.isAgg82
 z25 := Tryz.sizeOf82
 v25 := Tryz.zeroValue82
 t39 := Tryz.underlying54
 a39 := Tryz.isAgg54
 z39 := Tryz.sizeOf54
 v39 := Tryz.zeroValue54
 t45 := Tryz.underlying166
 a45 := Tryz.isAgg166
 z45 := Tryz.sizeOf166
 v45 := Tryz.zeroValue166
 t46 := Tryz.underlying167
 a46 := Tryz.isAgg167
 z46 := Tryz.sizeOf167
 v46 := Tryz.zeroValue167
 t50 := Tryz.underlying121
 a50 := Tryz.isAgg121
 z50 := Tryz.sizeOf121
 v50 := Tryz.zeroValue121
 t53 := Tryz.underlying114
 a53 := Tryz.isAgg114
 z53 := Tryz.sizeOf114
 v53 := Tryz.zeroValue114
 t55 := Tryz.underlying116
 a55 := Tryz.isAgg116
 z55 := Tryz.sizeOf116
 v55 := Tryz.zeroValue116
 t66 := Tryz.underlying192
 a66 := Tryz.isAgg192
 z66 := Tryz.sizeOf192
 v66 := Tryz.zeroValue192
 t70 := Tryz.underlying196
 a70 := Tryz.isAgg196
 z70 := Tryz.sizeOf196
 v70 := Tryz.zeroValue196
 t76 := Tryz.underlying212
 a76 := Tryz.isAgg212
 z76 := Tryz.sizeOf212
 v76 := Tryz.zeroValue212
 t77 := Tryz.underlying213
 a77 := Tryz.isAgg213
 z77 := Tryz.sizeOf213
 v77 := Tryz.zeroValue213 }
end Go.Proofs
namespace Go.Proofs.YtgpgbiklefkjjaaGreatDoor
open Go.Vc Rt Go.Bs
def encVS (s : Span) : List Value := [.int .i64 s.m, .int .i64 s.f, .int .i64 s.t]
theorem vdExt_grow {w w' : World} (h : Go.Vd.Ext w w') : ∃ q os', w' = Sort.grow (w.drewN q) os' := by
 refine ⟨w'.drawn - w.drawn, w'.heap.extract w.heap.size w'.heap.size, ?_⟩
 obtain ⟨heap, tape, drawn, os, output⟩ := w
 obtain ⟨heap', tape', drawn', os', output'⟩ := w'
 obtain ⟨h1, h2, h3, h4, h5, h6⟩ := h
 simp only at h1 h2 h3 h4 h5 h6
 subst h1 h2 h3
 have e : heap' = heap ++ heap'.extract heap.size heap'.size := by
  apply Array.ext_getElem?
  intro k
  rw [Array.getElem?_append]
  split
  ·rename_i hk; exact h5 k hk (by simp)
  ·rename_i hk
   rw [Array.getElem?_extract]
   split
   ·rename_i hk2; congr 1; omega
   ·rename_i hk2; rw [Array.getElem?_eq_none (by omega)]
 simp only [Sort.grow, World.drewN, World.mk.injEq]
 exact ⟨e, trivial, by omega, trivial, trivial⟩
theorem cmpS_lays (blk off size : Nat) (w : World) : CmpLays Tryz.prog 95 #[] encVS 3 cmpS blk off size w := by
 intro m os dk hs x y
 exact (Dr.norm2_c x y _).mono fun e w' ⟨he, hx⟩ => ⟨he, vdExt_grow hx⟩
def ltS (a b : Span) : Prop := a.m < b.m ∨ (a.m = b.m ∧ a.f < b.f)
theorem cmpI_neg {x y : Int} : cmpI x y < 0 ↔ x < y := by unfold cmpI; split <;> (try split) <;> omega
theorem cmpI_zero {x y : Int} : cmpI x y = 0 ↔ x = y := by unfold cmpI; split <;> (try split) <;> omega
theorem ltOf_cmpS (a b : Span) : ltOf cmpS a b = true ↔ ltS a b := by
 unfold ltOf cmpS orI ltS
 rw [decide_eq_true_iff]
 by_cases h : cmpI a.m b.m = 0
 ·have e := cmpI_zero.1 h
  by_cases h2 : cmpI a.f b.f = 0
  ·have e2 := cmpI_zero.1 h2
   simp [h, h2]; omega
  ·simp [h, h2, cmpI_neg]; omega
 ·have e : a.m ≠ b.m := fun e => h (cmpI_zero.2 e)
  simp [h, cmpI_neg]; omega
theorem swoS : Sort.SWO (ltOf cmpS) where
 irrefl x := by
  rw [← Bool.not_eq_true, ltOf_cmpS]; unfold ltS; omega
 trans x y z h1 h2 := by rw [ltOf_cmpS] at *; unfold ltS at *; omega
 ntrans x y z h1 h2 := by rw [← Bool.not_eq_true, ltOf_cmpS] at *; unfold ltS at *; omega
theorem flatK_get (d : Array Span) {j : Nat} (hj : j < d.size * 3) : (dens (d.toList.map encS).flatten)[j]? = some (Sort.flatK encVS 3 d)[j]! := by
 have hlr : ∀ l ∈ d.toList.map encS, l.length = 3 := fun l hl => by obtain ⟨x, _, rfl⟩ := List.mem_map.1 hl; rfl
 have hq : j / 3 < d.size := by omega
 have e := flatten_get hlr (k := j / 3) (row := encS d[j / 3]) (by simp [hq]) (j % 3) (by omega)
 rw [show j / 3 * 3 + j % 3 = j by omega] at e
 rw [Sort.get_flatK _ _ _ _ hj, getElem!_pos d (j / 3) hq]
 simp only [dens, List.getElem?_map, e]
 have h3 : j % 3 = 0 ∨ j % 3 = 1 ∨ j % 3 = 2 := by omega
 rcases h3 with h3 | h3 | h3 <;> rw [h3] <;> rfl
theorem sort_c' (xs : List Span) (v : Value) (w : World) (h : (LO.row v 43 3 (xs.map encS)).holds w) (hN : xs.length ≤ 1000000) (hnil : Calls Tryz.prog 94 #[.slice none 0 0, .func (.func 95) #[] #[]] w fun e w' => e = .returned (.tuple #[]) ∧ w' = w) :
  Calls Tryz.prog 94 #[v, .func (.func 95) #[] #[]] w (fun e w' => ∃ ys : List Span, e = .returned (.tuple #[]) ∧ ys.Perm xs ∧ ys.Pairwise (fun a b => ¬ ltS b a) ∧ (LO.row v 43 3 (ys.map encS)).holds w' ∧ Fr (blkOf v) w w') := by
 have h' := h
 obtain ⟨⟨hlen, hv⟩, hL⟩ := h
 rcases hv with ⟨rfl, h0⟩ | ⟨g, o, cap, cur, rfl, hg, hnc, hcm, hcs, htake⟩
 ·have hx : xs = [] := List.eq_nil_of_length_eq_zero (by simpa using h0)
  subst hx
  exact hnil.mono fun e w' ⟨he, hw⟩ => ⟨[], he, .nil, .nil, by rw [hw]; exact h', by rw [hw]; exact Fr.refl _ _⟩
 ·simp only [List.length_map] at hnc hcs htake hlen ⊢
  have hgs : g < w.heap.size := (Array.getElem?_eq_some_iff.1 hg).1
  have hcell : ∀ j u, (dens (xs.map encS).flatten)[j]? = some u → w.cell? ⟨g, o + j, none⟩ = some u := by
   intro j u hu
   have hj : j < xs.length * 3 := by
    rcases Nat.lt_or_ge j (xs.length * 3) with h1 | h1
    ·exact h1
    ·rw [List.getElem?_eq_none (by omega)] at hu; cases hu
   rw [cell_of_row w g _ _ _ _ hg]
   rw [← htake, List.getElem?_take_of_lt hj, List.getElem?_drop] at hu
   simpa using hu
  have hH : Sort.HoldsK encVS 3 w g o xs.toArray := by
   intro j hj
   simp only [Sort.size_flatK, List.size_toArray] at hj
   refine ⟨hcell j _ (flatK_get xs.toArray (by simpa using hj)), ?_⟩
   simp [World.frozen?, hg]
  have eg : ∀ args w, (callFunc 95 args).run Tryz.prog w = .ok (.enter 95 args) w := enters_of Tryz.func95 (by kernel_rfl) rfl
  have hcon := AnyQ.slices_SortFunc Tryz.sortSp 3 (fun w => ok_isAgg (P := Tryz.prog) (t := 43) (d := .struct (Tryz.prog.fieldsOf 43)) (by kernel_rfl) w) (fun w => by
   obtain ⟨i, hi, hs⟩ : ∃ i, Tryz.prog.info? 43 = some i ∧ i.size = 3 := by
    obtain ⟨i, d, hi, _, hs, _⟩ := chk_info (tab_ok 43 _ rfl)
    exact ⟨i, hi, hs⟩
   have := ok_sizeOf (P := Tryz.prog) hi w
   rw [hs] at this
   exact this) encVS (fun _ => rfl) (fun x v hv => by simp [encVS] at hv; rcases hv with rfl | rfl | rfl <;> rfl) cmpS swoS 95 #[] g o cap xs.toArray w eg (cmpS_lays g o _ w) hH hgs (by simp; omega)
  change Calls Tryz.prog 94 _ _ _ at hcon
  refine hcon.mono fun e w' ⟨he, d', n', os, hp, hs, hw⟩ => ⟨d'.toList, he, ?_, ?_, ?_, ?_⟩
  ·have hp3 := hp.2.2
   have e1 : d'.extract 0 xs.toArray.size = d' := by rw [← hp.1]; simp
   have e2 : xs.toArray.extract 0 xs.toArray.size = xs.toArray := by simp
   rw [e1, e2] at hp3
   simpa using hp3
  ·rw [List.pairwise_iff_getElem]
   intro i j hi hj hij hlt
   have := hs i j (Nat.zero_le _) hij (by rw [← hp.1]; simpa using hj)
   rw [getElem!_pos d' j (by simpa using hj), getElem!_pos d' i (by simpa using hi), ← Bool.not_eq_true, ltOf_cmpS] at this
   exact this (by simpa using hlt)
  all_goals
   have hd : d'.size = xs.length := by rw [hp.1]; simp
   have hheap : w'.heap[g]? = some (.cells (Sort.putCells id o (Sort.flatK encVS 3 d') cur) 43 (0, 0)) := by
    rw [hw]
    simp only [sortWorldK, Sort.grow, Sort.putRowK, Sort.putRow, Sort.mapBlock, Sort.ahead]
    rw [Array.getElem?_append_left (by simpa using hgs), Array.getElem?_modify, if_pos rfl, hg]
    rfl
  ·have hrl : ∀ l ∈ d'.toList.map encS, l.length = 3 := fun l hl => by obtain ⟨x, _, rfl⟩ := List.mem_map.1 hl; rfl
   have hdl : (dens (d'.toList.map encS).flatten).length = xs.length * 3 := by simp only [dens, List.length_map]; rw [flatten_len hrl]; simp [hd]
   refine ⟨⟨by rw [hdl]; simp [hd], .inr ⟨g, o, cap, _, by simp [hd], hheap, by simp [hd]; omega, hcm, by simp [Sort.putCells]; exact hcs, ?_⟩⟩, hrl⟩
   apply List.ext_getElem?
   intro j
   by_cases hj : j < xs.length * 3
   ·have e := flatK_get d' (j := j) (by omega)
    rw [List.getElem?_take_of_lt (by simp [hd]; omega), List.getElem?_drop, e]
    have hlt : o + j < cur.size := by
     have : xs.length * 3 ≤ cap * 3 := Nat.mul_le_mul_right _ hnc
     omega
    simp [Sort.putCells, hlt, hd, hj]
   ·rw [List.getElem?_eq_none (by simp [hd]; omega), List.getElem?_eq_none (by omega)]
  ·rw [hw]
   refine ⟨rfl, rfl, rfl, by simp [sortWorldK, Sort.grow, Sort.putRowK], fun k hk hn => ?_⟩
   have hne : g ≠ k := fun e => hn (by simp [blkOf, e])
   simp only [sortWorldK, Sort.grow, Sort.putRowK, Sort.putRow, Sort.mapBlock, Sort.ahead]
   rw [Array.getElem?_append_left (by simpa using hk), Array.getElem?_modify, if_neg hne]
theorem sort_c (xs : List Span) (v : Value) (w : World) (h : (LO.row v 43 3 (xs.map encS)).holds w) (hN : xs.length ≤ 1000000) :
  Calls Tryz.prog 94 #[v, .func (.func 95) #[] #[]] w (fun e w' => ∃ ys : List Span, e = .returned (.tuple #[]) ∧ ys.Perm xs ∧ ys.Pairwise (fun a b => ¬ ltS b a) ∧ (LO.row v 43 3 (ys.map encS)).holds w' ∧ Fr (blkOf v) w w') := by
 have hcon := AnyF.slices_SortFunc_none Tryz.sortSp none 0 (.func (.func 95) #[] #[]) w
 change Calls Tryz.prog 94 _ _ _ at hcon
 exact sort_c' xs v w h hN hcon
end Go.Proofs.YtgpgbiklefkjjaaGreatDoor
namespace Rt
def Has (l : List Span) (m n : Int) : Prop := ∃ s ∈ l, s.m = m ∧ s.f ≤ n ∧ n < s.t
def gap (a b : Span) : Prop := a.m < b.m ∨ (a.m = b.m ∧ a.t < b.f)
structure NF (l : List Span) : Prop where
 ne : ∀ s ∈ l, s.f < s.t
 ord : l.Pairwise gap
theorem Has.cons {s : Span} {l : List Span} {m n : Int} : Has (s :: l) m n ↔ (s.m = m ∧ s.f ≤ n ∧ n < s.t) ∨ Has l m n := by
 unfold Has
 constructor
 ·rintro ⟨x, hx, h⟩
  rcases List.mem_cons.1 hx with rfl | hx
  ·exact .inl h
  ·exact .inr ⟨x, hx, h⟩
 ·rintro (h | ⟨x, hx, h⟩)
  ·exact ⟨s, List.mem_cons_self .., h⟩
  ·exact ⟨x, List.mem_cons_of_mem _ hx, h⟩
theorem Has.append {a b : List Span} {m n : Int} : Has (a ++ b) m n ↔ Has a m n ∨ Has b m n := by
 unfold Has
 constructor
 ·rintro ⟨x, hx, h⟩
  rcases List.mem_append.1 hx with hx | hx
  ·exact .inl ⟨x, hx, h⟩
  ·exact .inr ⟨x, hx, h⟩
 ·rintro (⟨x, hx, h⟩ | ⟨x, hx, h⟩)
  ·exact ⟨x, List.mem_append.2 (.inl hx), h⟩
  ·exact ⟨x, List.mem_append.2 (.inr hx), h⟩
theorem Has.nil {m n : Int} : ¬ Has [] m n := fun ⟨x, hx, _⟩ => by cases hx
theorem NF.tail {s : Span} {l : List Span} (h : NF (s :: l)) : NF l := ⟨fun x hx => h.ne x (List.mem_cons_of_mem _ hx), (List.pairwise_cons.1 h.ord).2⟩
theorem NF.first {s : Span} {l : List Span} (h : NF (s :: l)) {m n : Int} (hh : Has (s :: l) m n) : s.m < m ∨ (s.m = m ∧ s.f ≤ n) := by
 rcases Has.cons.1 hh with ⟨h1, h2, h3⟩ | ⟨x, hx, h1, h2, h3⟩
 ·exact .inr ⟨h1, h2⟩
 ·have := (List.pairwise_cons.1 h.ord).1 x hx
  have := h.ne s (List.mem_cons_self ..)
  have := h.ne x (List.mem_cons_of_mem _ hx)
  unfold gap at *
  omega
theorem NF.rest {s : Span} {l : List Span} (h : NF (s :: l)) {m n : Int} (hh : Has l m n) : s.m < m ∨ (s.m = m ∧ s.t < n) := by
 obtain ⟨x, hx, h1, h2, h3⟩ := hh
 have := (List.pairwise_cons.1 h.ord).1 x hx
 unfold gap at *
 omega
theorem NF.ext : ∀ {a b : List Span}, NF a → NF b → (∀ m n, Has a m n ↔ Has b m n) → a = b
 | [], [], _, _, _ => rfl
 | [], y :: b, _, hb, h => by
  have := hb.ne y (List.mem_cons_self ..)
  exact (Has.nil ((h y.m y.f).2 (Has.cons.2 (.inl ⟨rfl, by omega, by omega⟩)))).elim
 | x :: a, [], ha, _, h => by
  have := ha.ne x (List.mem_cons_self ..)
  exact (Has.nil ((h x.m x.f).1 (Has.cons.2 (.inl ⟨rfl, by omega, by omega⟩)))).elim
 | x :: a, y :: b, ha, hb, h => by
  have hx := ha.ne x (List.mem_cons_self ..)
  have hy := hb.ne y (List.mem_cons_self ..)
  have h1 := hb.first ((h x.m x.f).1 (Has.cons.2 (.inl ⟨rfl, by omega, by omega⟩)))
  have h2 := ha.first ((h y.m y.f).2 (Has.cons.2 (.inl ⟨rfl, by omega, by omega⟩)))
  have em : x.m = y.m := by omega
  have ef : x.f = y.f := by omega
  have et : x.t = y.t := by
   rcases Int.lt_trichotomy x.t y.t with hlt | he | hgt
   ·have hh := (h x.m x.t).2 (Has.cons.2 (.inl ⟨em.symm, by omega, hlt⟩))
    rcases Has.cons.1 hh with h3 | h3
    ·omega
    ·have := ha.rest h3; omega
   ·exact he
   ·have hh := (h y.m y.t).1 (Has.cons.2 (.inl ⟨em, by omega, hgt⟩))
    rcases Has.cons.1 hh with h3 | h3
    ·omega
    ·have := hb.rest h3; omega
  have e : x = y := Span.ext' em ef et
  subst e
  rw [NF.ext ha.tail hb.tail fun m n => ?_]
  constructor
  ·intro hh
   have h3 := ha.rest hh
   rcases Has.cons.1 ((h m n).1 (Has.cons.2 (.inr hh))) with h4 | h4
   ·omega
   ·exact h4
  ·intro hh
   have h3 := hb.rest hh
   rcases Has.cons.1 ((h m n).2 (Has.cons.2 (.inr hh))) with h4 | h4
   ·omega
   ·exact h4
def le2 (a b : Span) : Prop := a.m < b.m ∨ (a.m = b.m ∧ a.f ≤ b.f)
theorem join_snoc (out : List Span) (r s : Span) : join (out ++ [r]) s = if r.m = s.m ∧ s.f ≤ r.t then out ++ [⟨r.m, r.f, max r.t s.t⟩] else out ++ [r] ++ [s] := by
 unfold join
 simp [List.getLast?_append]
theorem join_spec {out : List Span} {s : Span} (h : NF out) (hs : s.f < s.t) (hle : ∀ x ∈ out, le2 x s) : NF (join out s) ∧ (∀ m n, Has (join out s) m n ↔ Has out m n ∨ (s.m = m ∧ s.f ≤ n ∧ n < s.t)) ∧ ∀ x ∈ join out s, ∀ y, (∀ z ∈ out, le2 z y) → le2 s y → le2 x y := by
 rcases List.eq_nil_or_concat out with rfl | ⟨o, r, rfl⟩
 ·have e : join [] s = [s] := rfl
  rw [e]
  refine ⟨⟨fun x hx => by simp at hx; subst hx; exact hs, by simp⟩, fun m n => ?_, fun x hx y _ hy => by simp at hx; subst hx; exact hy⟩
  rw [Has.cons]; constructor
  ·rintro (h | h)
   ·exact .inr h
   ·exact (Has.nil h).elim
  ·rintro (h | h)
   ·exact (Has.nil h).elim
   ·exact .inl h
 ·simp only [List.concat_eq_append] at *
  rw [join_snoc]
  have hr := h.ne r (by simp)
  have hrs := hle r (by simp)
  obtain ⟨h1, h2, h3⟩ := List.pairwise_append.1 h.ord
  split
  ·rename_i hc
   refine ⟨⟨fun x hx => ?_, List.pairwise_append.2 ⟨h1, by simp, fun x hx y hy => ?_⟩⟩, fun m n => ?_, fun x hx y hz hy => ?_⟩
   ·rcases List.mem_append.1 hx with hx | hx
    ·exact h.ne x (by simp [hx])
    ·simp at hx; subst hx; simp only; omega
   ·simp at hy; subst hy
    have := h3 x hx r (by simp)
    unfold gap at *; simp only; exact this
   ·rw [Has.append, Has.append, Has.cons, Has.cons]
    unfold le2 at hrs
    simp only
    constructor
    ·rintro (h4 | h4 | h4)
     ·exact .inl (.inl h4)
     ·by_cases hn : n < r.t
      ·exact .inl (.inr (.inl ⟨h4.1, h4.2.1, hn⟩))
      ·exact .inr ⟨by omega, by omega, by omega⟩
     ·exact (Has.nil h4).elim
    ·rintro ((h4 | h4 | h4) | h4)
     ·exact .inl h4
     ·exact .inr (.inl ⟨h4.1, h4.2.1, by omega⟩)
     ·exact (Has.nil h4).elim
     ·exact .inr (.inl ⟨by omega, by omega, by omega⟩)
   ·rcases List.mem_append.1 hx with hx | hx
    ·exact hz x (by simp [hx])
    ·simp at hx; subst hx; have := hz r (by simp); unfold le2 at *; simp only; exact this
  ·rename_i hc
   refine ⟨⟨fun x hx => ?_, List.pairwise_append.2 ⟨h.ord, by simp, fun x hx y hy => ?_⟩⟩, fun m n => ?_, fun x hx y hz hy => ?_⟩
   ·rcases List.mem_append.1 hx with hx | hx
    ·exact h.ne x hx
    ·simp at hx; subst hx; exact hs
   ·simp at hy; subst hy
    unfold le2 at hrs
    have hgr : gap r y := by unfold gap; omega
    rcases List.mem_append.1 hx with hx | hx
    ·have := h3 x hx r (by simp)
     unfold gap at *; omega
    ·simp at hx; subst hx; exact hgr
   ·rw [Has.append, Has.cons]
    constructor
    ·rintro (h4 | h4 | h4)
     ·exact .inl h4
     ·exact .inr h4
     ·exact (Has.nil h4).elim
    ·rintro (h4 | h4)
     ·exact .inl h4
     ·exact .inr (.inl h4)
   ·rcases List.mem_append.1 hx with hx | hx
    ·exact hz x hx
    ·simp at hx; subst hx; exact hy
theorem joins_spec : ∀ {l out : List Span}, NF out → (∀ s ∈ l, s.f < s.t) → l.Pairwise le2 → (∀ x ∈ out, ∀ s ∈ l, le2 x s) → NF (l.foldl join out) ∧ ∀ m n, Has (l.foldl join out) m n ↔ Has out m n ∨ Has l m n
 | [], out, h, _, _, _ => ⟨h, fun m n => ⟨fun h => .inl h, fun h => h.elim id fun h => (Has.nil h).elim⟩⟩
 | s :: l, out, h, hn, hp, hle => by
  obtain ⟨p1, p2⟩ := List.pairwise_cons.1 hp
  obtain ⟨j1, j2, j3⟩ := join_spec h (hn s (List.mem_cons_self ..)) fun x hx => hle x hx s (List.mem_cons_self ..)
  obtain ⟨k1, k2⟩ := joins_spec (l := l) j1 (fun x hx => hn x (List.mem_cons_of_mem _ hx)) p2 fun x hx y hy => j3 x hx y (fun z hz => hle z hz y (List.mem_cons_of_mem _ hy)) (p1 y hy)
  refine ⟨k1, fun m n => ?_⟩
  rw [List.foldl_cons, k2, j2, Has.cons, or_assoc]
theorem joinAll_spec {l : List Span} (hn : ∀ s ∈ l, s.f < s.t) (hp : l.Pairwise le2) : NF (joinAll l) ∧ ∀ m n, Has (joinAll l) m n ↔ Has l m n := by
 obtain ⟨h1, h2⟩ := joins_spec (out := []) ⟨fun s hs => (by cases hs), .nil⟩ hn hp fun x hx => by cases hx
 exact ⟨h1, fun m n => (h2 m n).trans ⟨fun h => h.elim (fun h => (Has.nil h).elim) id, .inr⟩⟩
theorem Has.perm {a b : List Span} (h : a.Perm b) {m n : Int} : Has a m n ↔ Has b m n :=
 ⟨fun ⟨x, hx, h'⟩ => ⟨x, h.subset hx, h'⟩, fun ⟨x, hx, h'⟩ => ⟨x, h.symm.subset hx, h'⟩⟩
theorem leS_iff {a b : Span} : leS a b = true ↔ le2 a b := by unfold leS le2; simp
theorem insS_perm (s : Span) : ∀ l, (insS s l).Perm (s :: l)
 | [] => .refl _
 | x :: r => by
  simp only [insS]
  split
  ·exact .refl _
  ·exact ((insS_perm s r).cons x).trans (.swap s x r)
theorem isort_perm : ∀ l, (isort l).Perm l
 | [] => .refl _
 | x :: r => (insS_perm x _).trans ((isort_perm r).cons x)
theorem insS_sorted {s : Span} : ∀ {l : List Span}, l.Pairwise le2 → (insS s l).Pairwise le2
 | [], _ => by simp [insS]
 | x :: r, h => by
  obtain ⟨h1, h2⟩ := List.pairwise_cons.1 h
  simp only [insS]
  split
  ·rename_i hc
   rw [leS_iff] at hc
   refine List.pairwise_cons.2 ⟨fun y hy => ?_, h⟩
   rcases List.mem_cons.1 hy with rfl | hy
   ·exact hc
   ·have := h1 y hy; unfold le2 at *; omega
  ·rename_i hc
   rw [leS_iff] at hc
   refine List.pairwise_cons.2 ⟨fun y hy => ?_, insS_sorted h2⟩
   rcases List.mem_cons.1 ((insS_perm s r).subset hy) with rfl | hy
   ·unfold le2 at *; omega
   ·exact h1 y hy
theorem isort_sorted : ∀ l, (isort l).Pairwise le2
 | [] => .nil
 | x :: r => insS_sorted (isort_sorted r)
theorem valid_lt {s : Span} (h : valid s = true) : s.f < s.t := by unfold valid isMark at h; simp at h; omega
theorem norm_of_sorted {l ys : List Span} (hp : ys.Perm (l.filter valid)) (hs : ys.Pairwise le2) : joinAll ys = norm l := by
 have hv : ∀ s ∈ l.filter valid, s.f < s.t := fun s hs => valid_lt (List.mem_filter.1 hs).2
 obtain ⟨a1, a2⟩ := joinAll_spec (l := ys) (fun s h => hv s (hp.subset h)) hs
 obtain ⟨b1, b2⟩ := joinAll_spec (l := isort (l.filter valid)) (fun s h => hv s ((isort_perm _).subset h)) (isort_sorted _)
 exact NF.ext a1 b1 fun m n => by unfold norm; rw [a2, b2, Has.perm hp, Has.perm (isort_perm _)]
theorem norm_spec (l : List Span) : NF (norm l) ∧ ∀ m n, Has (norm l) m n ↔ Has (l.filter valid) m n := by
 obtain ⟨b1, b2⟩ := joinAll_spec (l := isort (l.filter valid)) (fun s h => valid_lt (List.mem_filter.1 ((isort_perm _).subset h)).2) (isort_sorted _)
 exact ⟨b1, fun m n => by unfold norm; rw [b2, Has.perm (isort_perm _)]⟩
theorem norm_valid {l : List Span} : ∀ s ∈ norm l, valid s = true := by
 intro s hs
 obtain ⟨h1, h2⟩ := norm_spec l
 have hlt := h1.ne s hs
 obtain ⟨a, ha, a1, a2, a3⟩ := (h2 s.m s.f).1 ⟨s, hs, rfl, by omega, by omega⟩
 obtain ⟨b, hb, b1, b2, b3⟩ := (h2 s.m (s.t - 1)).1 ⟨s, hs, rfl, by omega, by omega⟩
 have va := (List.mem_filter.1 ha).2
 have vb := (List.mem_filter.1 hb).2
 unfold valid isMark at *
 simp at *
 omega
theorem total_bound : ∀ {l : List Span}, (∀ s ∈ l, valid s = true) → 0 ≤ total l ∧ total l ≤ l.length * 1048576
 | [], _ => by simp [total]
 | s :: l, h => by
  have ih := total_bound (l := l) fun x hx => h x (List.mem_cons_of_mem _ hx)
  have hs := h s (List.mem_cons_self ..)
  unfold valid isMark at hs
  simp at hs
  have e : total (s :: l) = (s.t - s.f) + total l := by simp [total]
  rw [e]
  simp only [List.length_cons]
  omega
theorem total_append (a b : List Span) : total (a ++ b) = total a + total b := by simp [total]
end Rt
namespace Go.Proofs.YtgpgbiklefkjjaaGreatDoor
open Go.Vc Rt Go.Bs
theorem last_get (out : List Span) : ∃ r, 0 < out.length → out[out.length - 1]? = some r := by
 rcases Nat.eq_zero_or_pos out.length with h | h
 ·exact ⟨default, fun h' => by omega⟩
 ·exact ⟨out[out.length - 1], fun _ => List.getElem?_eq_getElem (by omega)⟩
theorem rd1 {E size : Nat} {L : List (List CV)} (h : NoP L) : rdOk [.row E size L] := ⟨h, trivial⟩
theorem join_set {out : List Span} {r x : Span} (h0 : 0 < out.length) (hr : out[out.length - 1]? = some r) (h1 : r.m = x.m) (h2 : x.f ≤ r.t) : join out x = out.set (out.length - 1) ⟨r.m, r.f, max r.t x.t⟩ := by
 rcases List.eq_nil_or_concat out with rfl | ⟨o, r', rfl⟩
 ·simp at h0
 ·simp only [List.concat_eq_append] at *
  simp at hr
  subst hr
  rw [join_snoc, if_pos ⟨h1, h2⟩]
  simp
theorem join_app {out : List Span} {r x : Span} (hr : 0 < out.length → out[out.length - 1]? = some r) (h : 0 < out.length → r.m = x.m → ¬ x.f ≤ r.t) : join out x = out ++ [x] := by
 rcases List.eq_nil_or_concat out with rfl | ⟨o, r', rfl⟩
 ·rfl
 ·simp only [List.concat_eq_append] at *
  have hr := hr (by simp)
  simp at hr
  subst hr
  rw [join_snoc, if_neg]
  rintro ⟨h1, h2⟩
  exact h (by simp) h1 h2
theorem pair_le {ys : List Span} (h : ys.Pairwise (fun a b => ¬ ltS b a)) : ys.Pairwise le2 := h.imp fun {a b} h => by unfold ltS at h; unfold le2; omega
theorem join_len (out : List Span) (x : Span) : (join out x).length ≤ out.length + 1 := by
 rcases List.eq_nil_or_concat out with rfl | ⟨o, r', rfl⟩
 ·simp [join]
 ·simp only [List.concat_eq_append]
  rw [join_snoc]
  split <;> simp
theorem joins_len : ∀ (l out : List Span), (l.foldl join out).length ≤ out.length + l.length
 | [], out => by simp
 | x :: l, out => by
  have := joins_len l (join out x)
  have := join_len out x
  simp only [List.foldl_cons, List.length_cons]; omega
theorem norm_len (l : List Span) : (norm l).length ≤ l.length := by
 unfold norm joinAll
 have h1 := joins_len (isort (l.filter valid)) []
 have h2 := (isort_perm (l.filter valid)).length_eq
 have h3 := List.length_filter_le valid l
 simp only [List.length_nil] at h1
 omega
theorem norm_c (xs : List Span) (S : List Nat) (v : Value) (w : World) (h : SlOf spT S w v xs) (hN : xs.length ≤ 1000000) : AnsR Tryz.prog 49 [v] [.row 43 3 ((norm xs).map encS)] w := by
 replace h := h.avoid (S' := []) (fun b hb => by cases hb)
 refine calls_plainB [.x v] Tryz.func49 rfl rfl (Nat.le_of_ble_eq_true rfl) rfl fun B hB => ?_
 repeat refine zq ?_
 refine zr ?_; conv => whnf
 repeat refine zq ?_
 refine zr ?_; conv => whnf
 refine ansR_call b66 (rd1 (nopS xs)) (fun w' hw => cloneS_c xs [] v w' (h.fr hw.fr) hN) ?_
 intro v1; conv => whnf
 refine row_call (id := 0) b91 rfl (fun r v' L' => r = .s (.c (.o 0 v')) ∧ L' = (xs.filter valid).map encS) (fun w' hw => ?_) ?_
 ·refine (deleteS_c xs v1 w' (hw.row (id := 0) rfl) hN 92 #[] (fun s => !valid s) b92 (fun x _ w'' _ => norm1_c x w'')).mono ?_
  rintro e w'' ⟨v', he, hh, hf, hb⟩
  refine ⟨.s (.c (.o 0 v')), v', _, he, ⟨rfl, rfl⟩, ?_, hf, fun b hb' => .inl (hb b hb')⟩
  have e : (fun x => !(!valid x)) = valid := by funext x; simp
  rw [e] at hh
  exact hh
 rintro r v2 L' ⟨rfl, rfl⟩ hsl
 refine ⟨hsl, nopS _, ?_⟩; conv => whnf
 generalize hfl : xs.filter valid = zs
 have hzl : zs.length ≤ 1000000 := by rw [← hfl]; exact Nat.le_trans (List.length_filter_le _ _) hN
 repeat refine zq ?_
 refine zr ?_; conv => whnf
 refine row_call (id := 0) b94 rfl (fun r v' L' => r = .tup [] ∧ v' = v2 ∧ ∃ ys : List Span, L' = ys.map encS ∧ ys.Perm zs ∧ ys.Pairwise (fun a b => ¬ ltS b a)) (fun w' hw => ?_) ?_
 ·refine (sort_c zs v2 w' (hw.row (id := 0) rfl) hzl).mono ?_
  rintro e w'' ⟨ys, he, h1, h2, h3, h4⟩
  exact ⟨.tup [], v2, _, he, ⟨rfl, rfl, ys, rfl, h1, h2⟩, h3, h4, fun b hb => .inl hb⟩
 rintro r v3 L' ⟨rfl, rfl, ys, rfl, hperm, hsort⟩ hsl'
 refine ⟨fun v hv => (by cases hv), nopS _, ?_⟩; conv => whnf
 have hyl : ys.length ≤ 1000000 := by rw [hperm.length_eq]; exact hzl
 have hnorm : joinAll ys = norm xs := norm_of_sorted (by rw [hfl]; exact hperm) (pair_le hsort)
 repeat refine zq ?_
 refine zr ?_; conv => whnf
 repeat refine zq ?_
 refine zr ?_; conv => whnf
 refine ⟨rfl, ?_⟩; conv => whnf
 repeat refine zq ?_
 refine At.block ?_
 refine At.loopH (fun p : Nat × Value => { N := Tryz.f49.ntmps, sl := [(4, some (.s (.c (.o 1 p.2)))), (13, some (.s (.c (.o 0 v3)))), (14, some (.i ys.length)), (15, some (.i p.1))], gl := [], hp := [(1, .row p.2 43 3 (((ys.take p.1).foldl join []).map encS)), (0, .row v3 43 3 (ys.map encS))], S := [], ws := w }) (fun p => p.1 ≤ ys.length) (fun p => ys.length - p.1)
  (fun w' hw => ⟨(0, .slice none 0 0), Nat.zero_le _, Le.of rfl rfl ⟨rfl, rfl, congrArg (Value.int .i64) (by simp), rfl, trivial⟩, hw.nil rfl rfl rfl, ⟨⟨_, _, _, rfl⟩, ⟨_, _, _, rfl⟩, trivial⟩, ⟨(nopS _).okH, (nopS _).okH, trivial⟩⟩) ?_
 rintro ⟨k, vo⟩ hk
 simp only at hk ⊢
 repeat refine zq ?_
 refine zr ?_; conv => whnf
 repeat refine zq ?_
 refine At.cond rfl (fun hc => At.skip ?_) (fun hc => At.exit ?_)
 ·have hlt : k < ys.length := by have := of_decide_eq_true hc; omega
  obtain ⟨x, hx⟩ : ∃ x, ys[k]? = some x := ⟨_, List.getElem?_eq_getElem hlt⟩
  have hol := joins_len (ys.take k) []
  have hnx : (ys.take (k + 1)).foldl join [] = join ((ys.take k).foldl join []) x := by rw [List.take_add_one, hx, List.foldl_append]; rfl
  generalize (ys.take k).foldl join [] = out at hol hnx ⊢
  simp only [List.length_nil, List.length_take] at hol
  obtain ⟨r, hr⟩ := last_get out
  have hr' : ∀ {q : Int}, q = out.length - 1 → 0 ≤ q → (out.map encS)[q.toNat]? = some (encS r) := fun {q} e h0 => by
   rw [List.getElem?_map, show q.toNat = out.length - 1 by omega, hr (by omega)]; rfl
  have hml : (out.map encS).length = out.length := by simp
  repeat refine zq ?_
  refine At.block ?_
  repeat refine zq ?_
  refine zr ?_; conv => whnf
  refine ⟨rfl, ?_⟩; conv => whnf
  refine ⟨by omega, ?_⟩; conv => whnf
  refine ⟨by simp; omega, ?_⟩; conv => whnf
  refine ⟨encS x, ⟨rfl, rfl, by omega, by simp [hx]⟩, ?_⟩; conv => whnf
  intro b; conv => whnf
  repeat refine zq ?_
  refine zr ?_; conv => whnf
  refine ⟨rfl, ?_⟩; conv => whnf
  refine ⟨by rw [hml]; exact ⟨by omega, by omega⟩, ?_⟩; conv => whnf
  repeat refine zq ?_
  refine At.draw tab_ok mixed (by kernel_rfl) ?_; conv => whnf
  refine ⟨by simp only [gimp]; intro _; trivial, ?_⟩; conv => whnf
  refine ⟨by simp only [gimp]; intro h1; exact of_decide_eq_true h1, ?_⟩; conv => whnf
  refine ⟨by simp only [gimp]; intro h1; omega, ?_⟩; conv => whnf
  refine ⟨encS r, by simp only [gimp]; intro h1; have h1 := of_decide_eq_true h1; exact ⟨trivial, trivial, h1, hr' (by rw [hml]) h1⟩, ?_⟩; conv => whnf
  refine ⟨by simp only [gimp]; intro _; trivial, ?_⟩; conv => whnf
  refine ⟨by simp only [gimp]; intro h1; simp only [band, Bool.and_eq_true, decide_eq_true_eq] at h1; exact h1.1, ?_⟩; conv => whnf
  refine ⟨by simp only [gimp]; intro h1; omega, ?_⟩; conv => whnf
  refine ⟨encS r, by simp only [gimp]; intro h1; simp only [band, Bool.and_eq_true, decide_eq_true_eq] at h1; exact ⟨trivial, trivial, h1.1, hr' (by rw [hml]) h1.1⟩, ?_⟩; conv => whnf
  repeat refine zq ?_
  refine At.cond rfl (fun hq => ?_) (fun hq => ?_)
  ·simp only [band, Bool.and_eq_true, decide_eq_true_eq] at hq
   obtain ⟨⟨hq1, hq2⟩, hq3⟩ := hq
   have h0 : 0 < out.length := by rw [hml] at hq1; omega
   have hjs := join_set h0 (hr h0) hq2 hq3
   have hidx : (((out.map encS).length : Int) - 1).toNat = out.length - 1 := by rw [hml]; omega
   repeat refine zq ?_
   refine At.plan tab_ok mixed [(2, .box b 43 (encS x)), (0, .row v3 43 3 (ys.map encS))] (.take 0 (.take 1 (.take 2 (.take 3 (.take 7 (.take 8 (.br 4 (.take 5 (.br 6 (.take 9 (.br 10 (.take 11 (.br 12 .done .nob)) .nob)) .nob)) .nob))))))) (by kernel_rfl) (by kernel_rfl) ⟨rfl, rfl, trivial⟩ ?_; conv => whnf
   refine ⟨?_, trivial⟩; conv => whnf
   refine ⟨rfl, ?_⟩; conv => whnf
   refine ⟨hq1, ?_⟩; conv => whnf
   refine ⟨by omega, ?_⟩; conv => whnf
   refine ⟨⟨⟨rfl, rfl, trivial⟩, fun w' hw => hw.fr⟩, ?_⟩; conv => whnf
   refine ⟨⟨encS r, ⟨rfl, rfl, hq1, hr' (by rw [hml]) hq1⟩, ?_⟩, trivial⟩; conv => whnf
   refine ⟨⟨⟨rfl, rfl, trivial⟩, fun w' hw => hw.fr⟩, ?_⟩; conv => whnf
   refine ⟨?_, trivial⟩; conv => whnf
   refine ⟨rfl, ?_⟩; conv => whnf
   refine ⟨hq1, ?_⟩; conv => whnf
   refine ⟨by omega, ?_⟩; conv => whnf
   refine ⟨⟨⟨rfl, rfl, trivial⟩, fun w' hw => hw.fr⟩, ?_⟩; conv => whnf
   refine ⟨⟨encS r, ⟨rfl, rfl, hq1, hr' (by rw [hml]) hq1⟩, ?_⟩, trivial⟩; conv => whnf
   refine ⟨⟨⟨rfl, rfl, trivial⟩, fun w' hw => hw.fr⟩, ?_⟩; conv => whnf
   refine At.exit ?_
   repeat refine zq ?_
   refine zr ?_; conv => whnf
   refine ⟨⟨by omega, by omega⟩, ?_⟩; conv => whnf
   refine At.nextH fun w' hw => ⟨(k + 1, vo), by simp only; omega, by simp only; omega, Le.of rfl rfl ⟨rfl, rfl, rfl, rfl, trivial⟩, hw.keep [1, 0] ?_ rfl rfl, ⟨⟨_, _, _, rfl⟩, ⟨_, _, _, rfl⟩, trivial⟩, ⟨(nopS _).okH, (nopS _).okH, trivial⟩⟩
   show [(1, LO.row vo 43 3 _), (0, LO.row v3 43 3 _)] = [(1, LO.row vo 43 3 _), (0, LO.row v3 43 3 _)]
   rw [hnx, hjs, hidx, List.map_set]
   rfl
  ·have hja : join out x = out ++ [x] := join_app hr fun h0 h1 h2 => by
    simp only [band, Bool.and_eq_false_iff, decide_eq_false_iff_not] at hq
    rw [hml] at hq; omega
   refine At.skip ?_
   repeat refine zq ?_
   refine zr ?_; conv => whnf
   intro v4; conv => whnf
   refine ⟨rfl, ?_⟩; conv => whnf
   refine ⟨⟨rfl, by simp; omega⟩, ?_⟩; conv => whnf
   intro v5; conv => whnf
   repeat refine zq ?_
   refine zr ?_; conv => whnf
   refine ⟨⟨by omega, by omega⟩, ?_⟩; conv => whnf
   refine At.nextH fun w' hw => ⟨(k + 1, v5), by simp only; omega, by simp only; omega, Le.of rfl rfl ⟨rfl, rfl, rfl, rfl, trivial⟩, hw.keep [1, 0] ?_ rfl rfl, ⟨⟨_, _, _, rfl⟩, ⟨_, _, _, rfl⟩, trivial⟩, ⟨(nopS _).okH, (nopS _).okH, trivial⟩⟩
   show [(1, LO.row v5 43 3 _), (0, LO.row v3 43 3 _)] = [(1, LO.row v5 43 3 _), (0, LO.row v3 43 3 _)]
   rw [hnx, hja, List.map_append]
   rfl
 ·have hge : k = ys.length := by have := of_decide_eq_false hc; omega
  subst hge
  repeat refine zq ?_
  refine zr ?_; conv => whnf
  repeat refine zq ?_
  refine At.ret (At.doneB tab_ok hB _ rfl fun w' hw => ansR_row (id := 1) hw (by rw [← hnorm, List.take_length]; rfl) rfl rfl)
end Go.Proofs.YtgpgbiklefkjjaaGreatDoor
namespace Go.Proofs.YtgpgbiklefkjjaaGreatDoor
open Go.Vc Rt Go.Bs
theorem count_c (xs : List Span) (S : List Nat) (v : Value) (w : World) (h : SlOf spT S w v xs) (hN : xs.length ≤ 1000000) : Ans Tryz.prog 44 [v] (.i (count xs)) w := by
 replace h := h.avoid (S' := []) (fun b hb => by cases hb)
 have hnl := norm_len xs
 have hval := norm_valid (l := xs)
 have hcount : count xs = total (norm xs) := rfl
 refine calls_plainB [.x v] Tryz.func44 rfl rfl (Nat.le_of_ble_eq_true rfl) rfl fun B hB => ?_
 repeat refine zq ?_
 refine zr ?_; conv => whnf
 repeat refine zq ?_
 refine zr ?_; conv => whnf
 repeat refine zq ?_
 refine zr ?_; conv => whnf
 refine ansR_call b49 (rd1 (nopS (norm xs))) (fun w' hw => norm_c xs [] v w' (h.fr hw.fr) hN) ?_
 intro v1; conv => whnf
 refine ⟨rfl, ?_⟩; conv => whnf
 rw [hcount] at *
 generalize norm xs = ys at *
 have hs : ∀ k, 0 ≤ total (ys.take k) ∧ total (ys.take k) ≤ 1048576000000 := fun k => by
  have := total_bound (l := ys.take k) fun s hs => hval s (List.mem_of_mem_take hs)
  have : (ys.take k).length ≤ ys.length := by simp; omega
  omega
 repeat refine zq ?_
 refine At.block ?_
 refine At.loopH (fun k : Nat => { N := Tryz.f44.ntmps, sl := [(3, some (.i (total (ys.take k)))), (7, some (.s (.c (.o 0 v1)))), (8, some (.i ys.length)), (9, some (.i k))], gl := [], hp := [(0, .row v1 43 3 (ys.map encS))], S := [], ws := w }) (fun k => k ≤ ys.length) (fun k => ys.length - k)
  (fun w' hw => ⟨0, Nat.zero_le _, Le.of rfl rfl ⟨rfl, rfl, congrArg (Value.int .i64) (by simp), rfl, trivial⟩, hw.same rfl rfl rfl, ⟨⟨_, _, _, rfl⟩, trivial⟩, ⟨(nopS _).okH, trivial⟩⟩) ?_
 intro k hk
 repeat refine zq ?_
 refine zr ?_; conv => whnf
 repeat refine zq ?_
 refine At.cond rfl (fun hc => At.skip ?_) (fun hc => At.exit ?_)
 ·have hlt : k < ys.length := by have := of_decide_eq_true hc; omega
  obtain ⟨x, hx⟩ : ∃ x, ys[k]? = some x := ⟨_, List.getElem?_eq_getElem hlt⟩
  have hvx := hval x (List.mem_of_getElem? hx)
  have e : total (ys.take (k + 1)) = total (ys.take k) + (x.t - x.f) := by rw [List.take_add_one, hx, total_append]; simp [total]
  have h1 := hs (k + 1)
  rw [e] at h1
  have hvb : 0 ≤ x.f ∧ x.f < x.t ∧ x.t ≤ 1048576 := by unfold valid at hvx; simp at hvx; omega
  repeat refine zq ?_
  refine At.block ?_
  repeat refine zq ?_
  refine zr ?_; conv => whnf
  refine ⟨rfl, ?_⟩; conv => whnf
  refine ⟨by omega, ?_⟩; conv => whnf
  refine ⟨by simp; omega, ?_⟩; conv => whnf
  refine ⟨encS x, ⟨rfl, rfl, by omega, by simp [hx]⟩, ?_⟩; conv => whnf
  intro b; conv => whnf
  repeat refine zq ?_
  refine zr ?_; conv => whnf
  refine ⟨⟨by omega, by omega⟩, ?_⟩; conv => whnf
  refine ⟨⟨by omega, by omega⟩, ?_⟩; conv => whnf
  repeat refine zq ?_
  refine zr ?_; conv => whnf
  refine ⟨⟨by omega, by omega⟩, ?_⟩; conv => whnf
  exact At.nextH fun w' hw => ⟨k + 1, by omega, by omega, Le.of rfl rfl ⟨congrArg (Value.int .i64) e.symm, rfl, rfl, rfl, trivial⟩, hw.keep [0] rfl rfl rfl, ⟨⟨_, _, _, rfl⟩, trivial⟩, ⟨(nopS _).okH, trivial⟩⟩
 ·have hge : k = ys.length := by have := of_decide_eq_false hc; omega
  subst hge
  repeat refine zq ?_
  refine zr ?_; conv => whnf
  repeat refine zq ?_
  refine At.ret (At.doneB tab_ok hB _ rfl fun w' hw => ⟨?_, hw.fr⟩)
  rw [List.take_length]
end Go.Proofs.YtgpgbiklefkjjaaGreatDoor
namespace Rt
def comRow (x : Span) (ys : List Span) : List Span := ys.flatMap fun y => if x.m = y.m then [⟨x.m, max x.f y.f, min x.t y.t⟩] else []
def comAll (xs ys : List Span) : List Span := xs.flatMap fun x => comRow x ys
def common (a b : List Span) : List Span := norm (comAll (norm a) (norm b))
theorem comRow_len (x : Span) : ∀ ys : List Span, (comRow x ys).length ≤ ys.length
 | [] => by simp [comRow]
 | y :: ys => by
  have ih := comRow_len x ys
  unfold comRow at *
  simp only [List.flatMap_cons, List.length_append, List.length_cons]
  split <;> simp only [List.length_cons, List.length_nil] <;> omega
theorem comAll_len (ys : List Span) : ∀ xs : List Span, (comAll xs ys).length ≤ xs.length * ys.length
 | [] => by simp [comAll]
 | x :: xs => by
  have ih := comAll_len ys xs
  have := comRow_len x ys
  unfold comAll at *
  simp only [List.flatMap_cons, List.length_append, List.length_cons, Nat.add_mul, Nat.one_mul]
  omega
end Rt
namespace Go.Proofs.YtgpgbiklefkjjaaGreatDoor
open Go.Vc Rt Go.Bs
def relAll {α : Type} (T : Ty α) (S : List Nat) (w : World) : List α → List (List CV) → Prop
 | [], [] => True
 | x :: xs, l :: L => (∃ l', dens l' = dens l ∧ T.rel S w x l') ∧ relAll T S w xs L
 | _, _ => False
theorem relAll_len {α : Type} {T : Ty α} {S : List Nat} {w : World} : ∀ {xs : List α} {L : List (List CV)}, relAll T S w xs L → xs.length = L.length
 | [], [], _ => rfl
 | x :: xs, l :: L, h => by simp [relAll_len h.2]
 | [], _ :: _, h => h.elim
 | _ :: _, [], h => h.elim
theorem relAll_get {α : Type} {T : Ty α} {S : List Nat} {w : World} : ∀ {xs : List α} {L : List (List CV)}, relAll T S w xs L → ∀ (i : Nat) x, xs[i]? = some x → ∃ l l', L[i]? = some l ∧ dens l' = dens l ∧ T.rel S w x l'
 | [], [], _, i, x, hx => by simp at hx
 | y :: xs, l :: L, h, 0, x, hx => by
  simp at hx; subst hx
  obtain ⟨l', h1, h2⟩ := h.1
  exact ⟨l, l', rfl, h1, h2⟩
 | y :: xs, l :: L, h, i + 1, x, hx => relAll_get h.2 i x (by simpa using hx)
 | [], _ :: _, h, _, _, _ => h.elim
 | _ :: _, [], h, _, _, _ => h.elim
theorem SlOf.of_rows {α : Type} {T : Ty α} {S : List Nat} {w : World} {v : Value} {E : Nat} {xs : List α} {L : List (List CV)} (h : (LO.row v E T.size L).holds w) (hS : ∀ b ∈ blkOf v, b ∉ S) (hsm : xs.length ≤ 9223372036854775807) (hr : relAll T S w xs L) : SlOf T S w v xs := by
 obtain ⟨a, c, rfl, hlc, hnil⟩ := row_slice h
 have hll := relAll_len hr
 refine ⟨⟨a, L.length, c, rfl, hnil, hlc⟩, ?_, hsm, fun b n c' e hp => ?_, fun i x hx => ?_⟩
 ·cases a with
  | none => simp [slen]; have := (hnil rfl).1; omega
  | some a => simp [slen, hll]
 ·cases e
  refine ⟨hS _ (by simp [blkOf]), ?_⟩
  obtain ⟨⟨_, ⟨he, _⟩ | ⟨g, o, cap, cur, he, hg, _⟩⟩, _⟩ := h
  ·cases he
  ·cases he
   exact (Array.getElem?_eq_some_iff.1 hg).1
 ·obtain ⟨l, l', h1, h2, h3⟩ := relAll_get hr i x hx
  refine ⟨l', h3, fun a' n c' e j u hu => ?_⟩
  rw [h2] at hu
  exact row_cells h h1 a' n c' e j u hu
theorem nilS {b : Nat} : b ∉ ([] : List Nat) := fun h => by cases h
theorem slS {w : World} {v : Value} {E : Nat} (xs : List Span) (h : (LO.row v E 3 (xs.map encS)).holds w) (hl : xs.length ≤ 1000000) : SlOf spT [] w v xs := SlOf.of_row h (fun _ _ => nilS) (by omega)
theorem slI {w : World} {v : Value} {E : Nat} (xs : List Int) (h : (LO.row v E 1 (xs.map encI)).holds w) (hl : xs.length ≤ 1000000) : SlOf intT [] w v xs := SlOf.of_row (enc := fun n => [.i n]) h (fun _ _ => nilS) (by omega)
theorem comAll_snoc {xs ys : List Span} {k : Nat} {x : Span} (hx : xs[k]? = some x) : comAll (xs.take (k + 1)) ys = comAll (xs.take k) ys ++ comRow x ys := by
 rw [List.take_add_one, hx]; simp [comAll]
theorem comRow_snoc {ys : List Span} {k : Nat} {x y : Span} (hy : ys[k]? = some y) : comRow x (ys.take (k + 1)) = comRow x (ys.take k) ++ (if x.m = y.m then [⟨x.m, max x.f y.f, min x.t y.t⟩] else []) := by
 rw [List.take_add_one, hy]; simp [comRow]
theorem common_c (a b : List Span) (S S' : List Nat) (v u : Value) (w : World) (h : SlOf spT S w v a) (h' : SlOf spT S' w u b) (hN : a.length ≤ 1000) (hN' : b.length ≤ 1000) : AnsR Tryz.prog 47 [v, u] [.row 43 3 ((common a b).map encS)] w := by
 replace h := h.avoid (S' := []) (fun b hb => by cases hb)
 replace h' := h'.avoid (S' := []) (fun b hb => by cases hb)
 have hna := norm_len a
 have hnb := norm_len b
 have hcom : common a b = norm (comAll (norm a) (norm b)) := rfl
 rw [hcom]
 refine calls_plainB [.x v, .x u] Tryz.func47 rfl rfl (Nat.le_of_ble_eq_true rfl) rfl fun B hB => ?_
 repeat refine zq ?_
 refine zr ?_; conv => whnf
 repeat refine zq ?_
 refine zr ?_; conv => whnf
 repeat refine zq ?_
 refine zr ?_; conv => whnf
 refine ansR_call b49 (rd1 (nopS (norm a))) (fun w' hw => norm_c a [] v w' (h.fr hw.fr) (by omega)) ?_
 intro v1; conv => whnf
 refine ⟨rfl, ?_⟩; conv => whnf
 generalize norm a = xs at *
 generalize hys : norm b = ys at *
 have hsz : ∀ k, k ≤ xs.length → (comAll (xs.take k) ys).length ≤ 1000000 := fun k hk => by
  have h1 := comAll_len ys (xs.take k)
  have h2 : (xs.take k).length * ys.length ≤ 1000 * 1000 := Nat.mul_le_mul (by simp; omega) (by omega)
  omega
 repeat refine zq ?_
 refine At.block ?_
 refine At.loopH (fun p : Nat × Value => { N := Tryz.f47.ntmps, sl := [(1, some (.x u)), (5, some (.s (.c (.o 1 p.2)))), (11, some (.s (.c (.o 0 v1)))), (12, some (.i xs.length)), (13, some (.i p.1))], gl := [], hp := [(1, .row p.2 43 3 ((comAll (xs.take p.1) ys).map encS)), (0, .row v1 43 3 (xs.map encS))], S := [], ws := w }) (fun p : Nat × Value => p.1 ≤ xs.length) (fun p : Nat × Value => xs.length - p.1)
  (fun w' hw => ⟨(0, .slice none 0 0), Nat.zero_le _, Le.of rfl rfl ⟨rfl, rfl, rfl, congrArg (Value.int .i64) (by simp), rfl, trivial⟩, hw.nil rfl rfl rfl, ⟨⟨_, _, _, rfl⟩, ⟨_, _, _, rfl⟩, trivial⟩, ⟨(nopS _).okH, (nopS _).okH, trivial⟩⟩) ?_
 rintro ⟨k, vo⟩ hk
 simp only at hk ⊢
 repeat refine zq ?_
 refine zr ?_; conv => whnf
 repeat refine zq ?_
 refine At.cond rfl (fun hc => At.skip ?_) (fun hc => At.exit ?_)
 ·have hlt : k < xs.length := by have := of_decide_eq_true hc; (try simp only [List.length_map] at this); omega
  obtain ⟨x, hx⟩ : ∃ x, xs[k]? = some x := ⟨_, List.getElem?_eq_getElem hlt⟩
  have hs1 := hsz (k + 1) hlt
  rw [comAll_snoc hx] at hs1
  have hnx := comAll_snoc (ys := ys) hx
  generalize comAll (xs.take k) ys = out at *
  repeat refine zq ?_
  refine At.block ?_
  repeat refine zq ?_
  refine zr ?_; conv => whnf
  refine ⟨rfl, ?_⟩; conv => whnf
  refine ⟨by omega, ?_⟩; conv => whnf
  refine ⟨by (try simp only [List.length_map]); omega, ?_⟩; conv => whnf
  refine ⟨encS x, ⟨rfl, rfl, by omega, by rw [Int.toNat_natCast, List.getElem?_map, hx]; rfl⟩, ?_⟩; conv => whnf
  intro bx; conv => whnf
  repeat refine zq ?_
  refine zr ?_; conv => whnf
  refine ansR_call b49 (rd1 (nopS (norm b))) (fun w' hw => norm_c b [] u w' (h'.fr hw.fr) (by omega)) ?_
  rw [hys]
  intro v2; conv => whnf
  refine ⟨rfl, ?_⟩; conv => whnf
  repeat refine zq ?_
  refine At.block ?_
  refine At.loopH (fun p : Nat × Value => { N := Tryz.f47.ntmps, sl := [(1, some (.x u)), (5, some (.s (.c (.o 1 p.2)))), (7, some (.s (.c (.p 2 bx 0)))), (11, some (.s (.c (.o 0 v1)))), (12, some (.i xs.length)), (13, some (.i k)), (18, some (.s (.c (.o 3 v2)))), (19, some (.i ys.length)), (20, some (.i p.1))], gl := [], hp := [(3, .row v2 43 3 (ys.map encS)), (2, .box bx 43 (encS x)), (1, .row p.2 43 3 ((out ++ comRow x (ys.take p.1)).map encS)), (0, .row v1 43 3 (xs.map encS))], S := [], ws := w }) (fun p : Nat × Value => p.1 ≤ ys.length) (fun p : Nat × Value => ys.length - p.1)
   (fun w' hw => ⟨(0, vo), Nat.zero_le _, Le.of rfl rfl ⟨rfl, rfl, rfl, rfl, rfl, rfl, rfl, congrArg (Value.int .i64) (by simp), rfl, trivial⟩, hw.keep [3, 2, 1, 0] (by simp [comRow]; rfl) rfl rfl, ⟨⟨_, _, _, rfl⟩, ⟨_, _, rfl⟩, ⟨_, _, _, rfl⟩, ⟨_, _, _, rfl⟩, trivial⟩, ⟨(nopS _).okH, (nopS _).okH, (nopS _).okH, trivial⟩⟩) ?_
  rintro ⟨j, vi⟩ hj
  simp only at hj ⊢
  repeat refine zq ?_
  refine zr ?_; conv => whnf
  repeat refine zq ?_
  refine At.cond rfl (fun hc => At.skip ?_) (fun hc => At.exit ?_)
  ·have hlty : j < ys.length := by have := of_decide_eq_true hc; (try simp only [List.length_map] at this); omega
   obtain ⟨y, hy⟩ : ∃ x, ys[j]? = some x := ⟨_, List.getElem?_eq_getElem hlty⟩
   have hny := comRow_snoc (x := x) hy
   have hcl := comRow_len x (ys.take j)
   simp only [List.length_take, List.length_append] at hcl hs1
   generalize comRow x (ys.take j) = row at *
   repeat refine zq ?_
   refine At.block ?_
   repeat refine zq ?_
   refine zr ?_; conv => whnf
   refine ⟨rfl, ?_⟩; conv => whnf
   refine ⟨by omega, ?_⟩; conv => whnf
   refine ⟨by (try simp only [List.length_map]); omega, ?_⟩; conv => whnf
   refine ⟨encS y, ⟨rfl, rfl, by omega, by rw [Int.toNat_natCast, List.getElem?_map, hy]; rfl⟩, ?_⟩; conv => whnf
   intro by'; conv => whnf
   repeat refine zq ?_
   refine zr ?_; conv => whnf
   repeat refine zq ?_
   refine At.cond rfl (fun hq => ?_) (fun hq => ?_)
   ·have hm : x.m = y.m := of_decide_eq_true hq
    repeat refine zq ?_
    refine zr ?_; conv => whnf
    intro v3; conv => whnf
    refine ⟨rfl, ?_⟩; conv => whnf
    refine ⟨⟨rfl, by simp; omega⟩, ?_⟩; conv => whnf
    intro v4; conv => whnf
    repeat refine zq ?_
    refine zr ?_; conv => whnf
    refine ⟨⟨by omega, by omega⟩, ?_⟩; conv => whnf
    refine At.nextH fun w' hw => ⟨(j + 1, v4), by simp only; omega, by simp only; omega, Le.of rfl rfl ⟨rfl, rfl, rfl, rfl, rfl, rfl, rfl, rfl, rfl, trivial⟩, hw.keep [3, 2, 1, 0] ?_ rfl rfl, ⟨⟨_, _, _, rfl⟩, ⟨_, _, rfl⟩, ⟨_, _, _, rfl⟩, ⟨_, _, _, rfl⟩, trivial⟩, ⟨(nopS _).okH, (nopS _).okH, (nopS _).okH, trivial⟩⟩
    show [(3, LO.row _ _ _ _), (2, LO.box _ _ _), (1, LO.row _ _ _ _), (0, LO.row _ _ _ _)] = [(3, LO.row _ _ _ _), (2, LO.box _ _ _), (1, LO.row _ _ _ _), (0, LO.row _ _ _ _)]
    rw [hny, if_pos hm, ← List.append_assoc, List.map_append (l₁ := out ++ row)]
    rfl
   ·have hm : ¬ x.m = y.m := of_decide_eq_false hq
    refine At.skip ?_
    repeat refine zq ?_
    refine zr ?_; conv => whnf
    refine ⟨⟨by omega, by omega⟩, ?_⟩; conv => whnf
    refine At.nextH fun w' hw => ⟨(j + 1, vi), by simp only; omega, by simp only; omega, Le.of rfl rfl ⟨rfl, rfl, rfl, rfl, rfl, rfl, rfl, rfl, rfl, trivial⟩, hw.keep [3, 2, 1, 0] ?_ rfl rfl, ⟨⟨_, _, _, rfl⟩, ⟨_, _, rfl⟩, ⟨_, _, _, rfl⟩, ⟨_, _, _, rfl⟩, trivial⟩, ⟨(nopS _).okH, (nopS _).okH, (nopS _).okH, trivial⟩⟩
    show [(3, LO.row _ _ _ _), (2, LO.box _ _ _), (1, LO.row _ _ _ _), (0, LO.row _ _ _ _)] = [(3, LO.row _ _ _ _), (2, LO.box _ _ _), (1, LO.row _ _ _ _), (0, LO.row _ _ _ _)]
    rw [hny, if_neg hm, List.append_nil]
  ·have hge : j = ys.length := by have := of_decide_eq_false hc; omega
   subst hge
   repeat refine zq ?_
   refine zr ?_; conv => whnf
   refine ⟨⟨by omega, by omega⟩, ?_⟩; conv => whnf
   refine At.nextH fun w' hw => ⟨(k + 1, vi), by simp only; omega, by simp only; omega, Le.of rfl rfl ⟨rfl, rfl, rfl, rfl, rfl, trivial⟩, hw.keep [1, 0] ?_ rfl rfl, ⟨⟨_, _, _, rfl⟩, ⟨_, _, _, rfl⟩, trivial⟩, ⟨(nopS _).okH, (nopS _).okH, trivial⟩⟩
   show [(1, LO.row _ _ _ _), (0, LO.row _ _ _ _)] = [(1, LO.row _ _ _ _), (0, LO.row _ _ _ _)]
   rw [hnx, List.take_length]
 ·have hge : k = xs.length := by have := of_decide_eq_false hc; omega
  subst hge
  have hs1 := hsz xs.length (Nat.le_refl _)
  rw [List.take_length] at hs1 ⊢
  repeat refine zq ?_
  refine zr ?_; conv => whnf
  refine ansR_call b49 (rd1 (nopS _)) (fun w' hw => norm_c _ [] vo w' (slS _ (hw.row (id := 1) rfl) (by omega)) (by omega)) ?_
  intro v5; conv => whnf
  repeat refine zq ?_
  refine At.ret (At.doneB tab_ok hB _ rfl fun w' hw => ansR_row (id := 2) hw rfl rfl rfl)
end Go.Proofs.YtgpgbiklefkjjaaGreatDoor
namespace Go.Proofs.YtgpgbiklefkjjaaGreatDoor
open Go.Vc Rt Go.Bs
def inSpan (m n : Int) (s : Span) : Bool := valid s && (decide (s.m = m) && (decide (s.f ≤ n) && decide (n < s.t)))
def hasS (l : List Span) (m n : Int) : Bool := l.any (inSpan m n)
theorem idx_any {α : Type} (p : α → Bool) (xs : List α) : decide (0 ≤ idxOf p xs) = xs.any p := by
 unfold idxOf
 split
 ·rename_i i h
  rw [List.findIdx?_eq_some_iff_getElem] at h
  obtain ⟨h1, h2, _⟩ := h
  rw [decide_eq_true (by omega)]
  exact (List.any_eq_true.2 ⟨_, List.getElem_mem h1, h2⟩).symm
 ·rename_i h
  rw [decide_eq_false (by omega)]
  rw [List.findIdx?_eq_none_iff] at h
  refine (Bool.eq_false_iff.2 fun hc => ?_).symm
  obtain ⟨x, hx, hp⟩ := List.any_eq_true.1 hc
  rw [h x hx] at hp; cases hp
theorem containsS_c (xs : List Span) (S : List Nat) (v : Value) (w : World) (h : SlOf spT S w v xs) (g : Nat) (caps : Array Value) (p : Span → Bool) (hg : Body Tryz.prog g)
  (hf : ∀ x ∈ xs, ∀ w', Ext w w' → Ans Tryz.prog g (vS x :: caps.toList) (.b (p x)) w') : Ans Tryz.prog 98 [v, .func (.func g) #[] caps] (.b (xs.any p)) w := by
 replace h := h.avoid (S' := []) (fun b hb => by cases hb)
 refine calls_plainB [.x v, .x (.func (.func g) #[] caps)] Tryz.func98 rfl rfl (Nat.le_of_ble_eq_true rfl) rfl fun B hB => ?_
 repeat refine zq ?_
 refine zr ?_; conv => whnf
 repeat refine zq ?_
 refine zr ?_; conv => whnf
 refine ans_call b132 rfl (fun w' hw => indexS_c xs [] v w' (h.fr hw.fr) g caps p hg (fun x hx w'' hx' => hf x hx w'' (hw.fr.trans hx'))) ?_; conv => whnf
 repeat refine zq ?_
 refine At.ret (At.doneB tab_ok hB _ rfl fun w' hw => ⟨?_, hw.fr⟩)
 rw [← idx_any]
theorem has1_c (s : Span) (m n : Int) (bm bn : Nat) (w : World) (hm : (LO.box bm 3 [.i m]).holds w) (hn : (LO.box bn 3 [.i n]).holds w) (hne : bm ≠ bn) : Ans Tryz.prog 99 [vS s, ptr bm, ptr bn] (.b (inSpan m n s)) w := by
 have hh : Holds (St.enter Tryz.f99.ntmps [.s (.agg (encS s)), .s (.c (.p 0 bm 0)), .s (.c (.p 1 bn 0))] [(0, .box bm 3 [.i m]), (1, .box bn 3 [.i n])] [bm, bn] w) w := enter_objs (fun o ho => by simp at ho; rcases ho with rfl | rfl; exact hm; exact hn) (by simp [LO.blks, hne])
 refine calls_atB _ _ _ Tryz.func99 rfl rfl (Nat.le_of_ble_eq_true rfl) (WF.objs hh ⟨⟨_, _, rfl⟩, ⟨_, _, rfl⟩, trivial⟩ trivial) hh fun B hB => ?_
 repeat refine zq ?_
 refine zr ?_; conv => whnf
 intro b1; conv => whnf
 repeat refine zq ?_
 refine zr ?_; conv => whnf
 refine ans_call b93 rfl (fun w' hw => valid_c s w') ?_; conv => whnf
 repeat refine zq ?_
 refine At.ret (At.doneB tab_ok hB _ rfl fun w' hw => ⟨?_, hw.fr.ext fun c hc => ?_⟩)
 ·simp only [RV.den, SV.den, CV.den, band, inSpan, Bool.and_assoc]
 ·rcases List.mem_cons.1 hc with rfl | hc
  ·exact (hw.box (id := 0) rfl).trans hm.symm
  ·rw [List.mem_singleton.1 hc]; exact (hw.box (id := 1) rfl).trans hn.symm
theorem has_c (xs : List Span) (m n : Int) (S : List Nat) (v : Value) (w : World) (h : SlOf spT S w v xs) : Ans Tryz.prog 54 [v, vI m, vI n] (.b (hasS xs m n)) w := by
 replace h := h.avoid (S' := []) (fun b hb => by cases hb)
 refine calls_plainB [.x v, .i m, .i n] Tryz.func54 rfl rfl (Nat.le_of_ble_eq_true rfl) rfl fun B hB => ?_
 repeat refine zq ?_
 refine zr ?_; conv => whnf
 intro bm; conv => whnf
 intro bn; conv => whnf
 repeat refine zq ?_
 refine zr ?_; conv => whnf
 refine ans_call b98 rfl (fun w' hw => containsS_c xs [] v w' (h.fr hw.fr) 99 #[ptr bm, ptr bn] (inSpan m n) b99 (fun x _ w'' hx => has1_c x m n bm bn w'' (LO.holds_ext hx (hw.objs (0, .box bm 3 [.i m]) (by simp))) (LO.holds_ext hx (hw.objs (1, .box bn 3 [.i n]) (by simp)))
  (fun e => apart_of hw.nodup (i := 0) (j := 1) rfl rfl (by decide) bm (by simp [LO.blks]) (by simp [LO.blks, e])))) ?_
 conv => whnf
 repeat refine zq ?_
 refine At.ret (At.doneB tab_ok hB _ rfl fun w' hw => ⟨rfl, hw.fr⟩)
end Go.Proofs.YtgpgbiklefkjjaaGreatDoor
namespace Go.Bs
open Rt
structure En where
 author : Int
 seq : Int
 day : Int
 knows : List Int
 kind : Int
 circle : Int
 who : Int
 n : Int
 m : Int
 ref : Int
 keys : List Int
 spans : List Span
 text : B
instance : Inhabited En := ⟨⟨0, 0, 0, [], 0, 0, 0, 0, 0, 0, [], [], []⟩⟩
def isDayB (n : Int) : Bool := decide (0 ≤ n) && decide (n ≤ 1048576)
def isKeyB (n : Int) : Bool := decide (0 ≤ n) && decide (n < 200)
def ascAt (l : List Int) (i : Nat) : Bool :=
 match l[i - 1]?, l[i]? with
 | some x, some y => i == 0 || decide (x < y)
 | _, _ => true
def ascB (l : List Int) : Bool := (List.range l.length).all (ascAt l)
theorem ascB_false {l : List Int} {k : Nat} (hk : k < l.length) (h : ascAt l k = false) : ascB l = false := by
 unfold ascB; rw [List.all_eq_false]; exact ⟨k, List.mem_range.2 hk, by simp [h]⟩
theorem ascB_true {l : List Int} (h : ∀ j, j < l.length → ascAt l j = true) : ascB l = true := by
 unfold ascB; rw [List.all_eq_true]; intro k hk; exact h k (List.mem_range.1 hk)
def keysB (l : List Int) : Bool := decide (0 < l.length) && decide (l.length ≤ 60) && ascB l && isKeyB (l.getD 0 0) && isKeyB (l.getD (l.length - 1) 0)
def usesB : List B := [[107, 116], [99], [99], [99, 119, 110, 109], [110, 114], [119, 115], [119, 109, 115], [99, 119, 109, 114, 115], [99, 110, 109, 114], [110, 114], [99, 110, 109, 116], [114, 116], [110, 114], [114], [99, 116], [119, 110], [99, 109], [99, 107], [110, 109, 114], [110, 109, 114], [110, 109, 114]]
def useOf (e : En) : B := usesB.getD e.kind.toNat []
def hasC (s : B) (c : UInt8) : Bool := decide (0 ≤ Lib.indexByte s c)
def letters : B := [99, 119, 110, 109, 114, 107, 115, 116]
def empties (e : En) : List Bool := [decide (e.circle = 0), decide (e.who = 0), decide (e.n = 0), decide (e.m = 0), decide (e.ref = -1), decide (e.keys.length = 0), decide (e.spans.length = 0), decide (e.text = [])]
def okC (e : En) (i : Nat) : Bool := (empties e).getD i true || hasC (useOf e) (letters.getD i 0)
def plainB (e : En) : Bool := (List.range 8).all (okC e)
theorem plainB_false {e : En} {k : Nat} (hk : k < 8) (h : okC e k = false) : plainB e = false := by
 unfold plainB; rw [List.all_eq_false]; exact ⟨k, List.mem_range.2 hk, by simp [h]⟩
theorem plainB_true {e : En} (h : ∀ j, j < 8 → okC e j = true) : plainB e = true := by
 unfold plainB; rw [List.all_eq_true]; intro k hk; exact h k (List.mem_range.1 hk)
def coinsB (e : En) : Bool := decide (0 ≤ e.n) && decide (e.n ≤ 1099511627776)
def numbersB (e : En) : Bool :=
 if e.kind = 3 then (decide (1 ≤ e.n) && decide (e.n ≤ 1048576)) && isDayB e.m
 else if e.kind = 4 then (isMark e.ref && decide (1 ≤ e.n)) && decide (e.n ≤ 1048576)
 else if e.kind = 6 then isDayB e.m
 else if e.kind = 7 then isDayB e.m && (decide (e.ref = -1) || isMark e.ref)
 else if e.kind = 8 then isDayB e.m && ((coinsB e && decide (e.ref = -1)) || (decide (e.n = -1) && isMark e.ref))
 else if e.kind = 9 then isMark e.ref && coinsB e
 else if e.kind = 10 then (coinsB e && decide (0 < e.n)) && isDayB e.m
 else if e.kind = 11 ∨ e.kind = 13 then isMark e.ref
 else if e.kind = 12 then isMark e.ref && (decide (e.n = 0) || decide (e.n = 1))
 else if e.kind = 15 then isKeyB e.n && !decide (e.n = e.who)
 else if e.kind = 16 then isMark e.m && !decide (e.m = e.circle)
 else if e.kind = 18 ∨ e.kind = 19 then (isDayB e.m && isDayB e.n) && (decide (e.ref = -1) || isMark e.ref)
 else if e.kind = 20 then (isDayB e.m && isDayB e.n) && isMark e.ref
 else true
def badA (e : En) : Bool := ((((((!isKeyB e.author) || decide (e.seq < 0)) || decide (1048576 ≤ e.seq)) || !isDayB e.day) || decide (e.kind < 0)) || decide (21 ≤ e.kind)) || !plainB e
def badK (e : En) : Bool := (decide (40 < e.knows.length) || !ascB e.knows) || (decide (0 < e.knows.length) && ((!isMark (e.knows.getD 0 0)) || !isMark (e.knows.getD (e.knows.length - 1) 0)))
def badS (e : En) : Bool := ([5, 6, 7].any fun x => decide (e.kind = x)) && ((decide (e.spans.length = 0) || decide (40 < e.spans.length)) || !normal e.spans)
def badM (e : En) : Bool := ((((decide (e.kind = 0) || decide (e.kind = 17)) && !keysB e.keys) || decide (2000 < e.text.length)) || !isMark e.circle) || !isKeyB e.who
def rightB (e : En) : Bool := if badA e then false else if badK e then false else if badS e then false else if badM e then false else numbersB e
def spanS (s : Span) : B := numS s.m ++ numS s.f ++ numS s.t
def spansS (l : List Span) : B := (l.map spanS).flatten
def headS (e : En) : B := numS e.author ++ numS e.seq ++ numS e.day ++ numsS e.knows ++ numS e.kind ++ numS e.circle ++ numS e.who
def midS (e : En) : B := intS e.n ++ intS e.m ++ intS e.ref ++ numsS e.keys ++ numS e.spans.length
def entryS (e : En) : B := if rightB e then headS e ++ midS e ++ spansS e.spans ++ textS e.text else []
def iR (n : Int) : Prop := -9223372036854775808 ≤ n ∧ n ≤ 9223372036854775807
structure EnR (e : En) : Prop where
 author : iR e.author
 seq : iR e.seq
 day : iR e.day
 kind : iR e.kind
 circle : iR e.circle
 who : iR e.who
 n : iR e.n
 m : iR e.m
 ref : iR e.ref
 knows : ∀ x ∈ e.knows, iR x
 keys : ∀ x ∈ e.keys, iR x
 spans : ∀ s ∈ e.spans, iR s.m ∧ iR s.f ∧ iR s.t
 lk : e.knows.length ≤ 1000000
 ly : e.keys.length ≤ 1000000
 ls : e.spans.length ≤ 1000000
 lt : e.text.length ≤ 1000000
theorem spanS_len {s : Span} (h : iR s.m ∧ iR s.f ∧ iR s.t) : (spanS s).length ≤ 66 := by
 have h1 := numS_len h.1.1 h.1.2
 have h2 := numS_len h.2.1.1 h.2.1.2
 have h3 := numS_len h.2.2.1 h.2.2.2
 simp only [spanS, List.length_append]; omega
theorem spansS_len : ∀ {l : List Span}, (∀ s ∈ l, iR s.m ∧ iR s.f ∧ iR s.t) → (spansS l).length ≤ 66 * l.length
 | [], _ => by simp [spansS]
 | s :: l, h => by
  have h1 := spanS_len (h s (by simp))
  have h2 := spansS_len (l := l) (fun m hm => h m (by simp [hm]))
  simp only [spansS, List.map_cons, List.flatten_cons, List.length_append, List.length_cons] at h2 ⊢; omega
theorem spansS_snoc (l : List Span) (s : Span) : spansS (l ++ [s]) = spansS l ++ spanS s := by simp [spansS]
end Go.Bs
namespace Go.Proofs.YtgpgbiklefkjjaaGreatDoor
open Go.Vc Rt Go.Bs
theorem key_c (n : Int) (w : World) : Ans Tryz.prog 102 [vI n] (.b (isKeyB n)) w := isKey_c n w
theorem day_c (n : Int) (w : World) : Ans Tryz.prog 103 [vI n] (.b (isDayB n)) w := by
 refine calls_plainB [.i n] Tryz.func103 rfl rfl (Nat.le_of_ble_eq_true rfl) rfl fun B hB => ?_
 repeat refine zq ?_
 refine zr ?_; conv => whnf
 repeat refine zq ?_
 refine zr ?_; conv => whnf
 repeat refine zq ?_
 refine At.ret (At.doneB tab_ok hB _ rfl fun w' hw => ⟨?_, hw.fr⟩)
 simp only [RV.den, SV.den, CV.den, band, isDayB]
theorem asc_c (xs : List Int) (S : List Nat) (v : Value) (w : World) (h : SlOf intT S w v xs) : Ans Tryz.prog 105 [v] (.b (ascB xs)) w := by
 replace h := h.avoid (S' := []) (fun b hb => by cases hb)
 have hsm := h.small
 refine calls_plainB [.x v] Tryz.func105 rfl rfl (Nat.le_of_ble_eq_true rfl) rfl fun B hB => ?_
 repeat refine zq ?_
 refine zr ?_; conv => whnf
 repeat refine zq ?_
 refine zr ?_; conv => whnf
 repeat refine zq ?_
 refine At.block ?_
 refine At.loopF (fun k : Nat => { N := Tryz.f105.ntmps, sl := [(0, some (.x v)), (3, some (.i k))], gl := [], hp := [], S := [], ws := w }) (fun k => 1 ≤ k ∧ (k ≤ xs.length ∨ k = 1) ∧ ∀ j, j < k → ascAt xs j = true) (fun k => xs.length + 1 - k)
  (fun w' hw => ⟨1, ⟨Nat.le_refl _, .inr rfl, fun j hj => by obtain rfl : j = 0 := (by omega); unfold ascAt; split <;> rfl⟩, Le.of rfl rfl ⟨rfl, rfl, trivial⟩, WF.plain rfl, hw.same rfl rfl rfl⟩) ?_
 intro k ⟨hk, hk1, hall⟩
 repeat refine zq ?_
 refine zr ?_; conv => whnf
 refine ⟨h.sl, ?_⟩; conv => whnf
 repeat refine zq ?_
 refine At.cond rfl (fun hc => At.skip ?_) (fun hc => At.exit ?_)
 ·have hlt : k < xs.length := by have := of_decide_eq_true hc; rw [h.len] at this; omega
  obtain ⟨x, hx⟩ : ∃ x, xs[k]? = some x := ⟨_, List.getElem?_eq_getElem hlt⟩
  obtain ⟨y, hy⟩ : ∃ y, xs[k - 1]? = some y := ⟨_, List.getElem?_eq_getElem (by omega)⟩
  have hln := h.len
  have hat : ascAt xs k = decide (y < x) := by unfold ascAt; rw [hx, hy]; simp only; rw [show (k == 0) = false by simp; omega]; rfl
  repeat refine zq ?_
  refine At.block ?_
  repeat refine zq ?_
  refine At.draw tab_ok mixed (by kernel_rfl) ?_; conv => whnf
  refine ⟨by omega, ?_⟩; conv => whnf
  refine ⟨by rw [h.len]; omega, ?_⟩; conv => whnf
  refine ⟨[.i x], fun w' hw => h.load (n := 1) hw.fr hx rfl, ?_⟩; conv => whnf
  refine ⟨⟨by omega, by omega⟩, ?_⟩; conv => whnf
  refine ⟨by omega, ?_⟩; conv => whnf
  refine ⟨by rw [h.len]; omega, ?_⟩; conv => whnf
  refine ⟨[.i y], fun w' hw => h.loadI (n := 1) hw.fr (by omega) (by rw [← hy]; congr 1; omega) rfl, ?_⟩; conv => whnf
  repeat refine zq ?_
  refine At.cond rfl (fun hq => ?_) (fun hq => ?_)
  ·repeat refine zq ?_
   refine zr ?_; conv => whnf
   repeat refine zq ?_
   refine At.ret (At.doneB tab_ok hB _ rfl fun w' hw => ⟨?_, hw.fr⟩)
   have hq := of_decide_eq_true hq
   rw [ascB_false hlt (by rw [hat]; exact decide_eq_false (by omega))]
  ·refine At.skip ?_
   have hq := of_decide_eq_false hq
   repeat refine zq ?_
   refine zr ?_; conv => whnf
   refine ⟨⟨by omega, by omega⟩, ?_⟩; conv => whnf
   refine At.next fun w' hw => ⟨k + 1, ⟨by omega, by omega, fun j hj => ?_⟩, by omega, Le.of rfl rfl ⟨rfl, rfl, trivial⟩, WF.plain rfl, hw.keep [] rfl rfl rfl⟩
   rcases Nat.lt_or_ge j k with hj' | hj'
   ·exact hall j hj'
   ·obtain rfl : j = k := by omega
    rw [hat]; exact decide_eq_true (by omega)
 ·have hge : xs.length ≤ k := by have := of_decide_eq_false hc; rw [h.len] at this; omega
  repeat refine zq ?_
  refine zr ?_; conv => whnf
  repeat refine zq ?_
  refine At.ret (At.doneB tab_ok hB _ rfl fun w' hw => ⟨?_, hw.fr⟩)
  rw [ascB_true fun j hj => hall j (by omega)]
theorem getD_some {xs : List Int} {i : Nat} (h : i < xs.length) : xs[i]? = some (xs.getD i 0) := by
 rw [List.getElem?_eq_getElem h, List.getD_eq_getElem?_getD, List.getElem?_eq_getElem h]; rfl
theorem keys_c (xs : List Int) (S : List Nat) (v : Value) (w : World) (h : SlOf intT S w v xs) : Ans Tryz.prog 108 [v] (.b (keysB xs)) w := by
 replace h := h.avoid (S' := []) (fun b hb => by cases hb)
 have hsm := h.small
 have hln := h.len
 refine calls_plainB [.x v] Tryz.func108 rfl rfl (Nat.le_of_ble_eq_true rfl) rfl fun B hB => ?_
 repeat refine zq ?_
 refine zr ?_; conv => whnf
 repeat refine zq ?_
 refine zr ?_; conv => whnf
 refine ⟨h.sl, ?_⟩; conv => whnf
 refine ⟨by simp only [gimp]; intro _; exact h.sl, ?_⟩; conv => whnf
 refine ⟨.b (ascB xs), by simp only [gimp]; intro _; exact ans_quiet b105 (fun w' hw => asc_c xs [] v w' (h.fr hw.fr)), ?_⟩; conv => whnf
 refine ⟨by simp only [gimp]; intro h1; omega, ?_⟩; conv => whnf
 refine ⟨by simp only [gimp]; intro h1; simp at h1; omega, ?_⟩; conv => whnf
 refine ⟨[.i (xs.getD 0 0)], by simp only [gimp]; intro h1 w' hw; simp at h1; exact h.loadI (n := 1) hw.fr (by omega) (getD_some (i := 0) (by omega)) rfl, ?_⟩; conv => whnf
 refine ⟨.b (isKeyB (xs.getD 0 0)), by simp only [gimp]; intro _; exact ans_quiet b102 (fun w' hw => key_c _ w'), ?_⟩; conv => whnf
 refine ⟨by simp only [gimp]; intro _; exact h.sl, ?_⟩; conv => whnf
 refine ⟨by simp only [gimp]; intro h1; simp at h1; exact ⟨by omega, by omega⟩, ?_⟩; conv => whnf
 refine ⟨by simp only [gimp]; intro h1; simp at h1; omega, ?_⟩; conv => whnf
 refine ⟨by simp only [gimp]; intro h1; simp at h1; omega, ?_⟩; conv => whnf
 refine ⟨[.i (xs.getD (xs.length - 1) 0)], by simp only [gimp]; intro h1 w' hw; simp at h1; exact h.loadI (n := 1) hw.fr (by omega) (by rw [← getD_some (by omega)]; congr 1; omega) rfl, ?_⟩; conv => whnf
 refine ⟨.b (isKeyB (xs.getD (xs.length - 1) 0)), by simp only [gimp]; intro _; exact ans_quiet b102 (fun w' hw => key_c _ w'), ?_⟩; conv => whnf
 repeat refine zq ?_
 refine At.ret (At.doneB tab_ok hB _ rfl fun w' hw => ⟨?_, hw.fr⟩)
 simp only [RV.den, SV.den, CV.den, band, keysB, hln, Int.natCast_pos]
 rw [show decide ((xs.length : Int) ≤ 60) = decide (xs.length ≤ 60) by rw [decide_eq_decide]; omega]
end Go.Proofs.YtgpgbiklefkjjaaGreatDoor
