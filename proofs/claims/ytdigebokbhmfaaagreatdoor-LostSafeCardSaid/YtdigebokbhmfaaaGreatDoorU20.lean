/- Texts that the law leans on. -/
import Derived.Test.YtdigebokbhmfaaaGreatDoorU18
import Derived.Test.YtdigebokbhmfaaaGreatDoorOVcStr
import Derived.Test.YtdigebokbhmfaaaGreatDoorOVcMore
import Derived.Lib.Builder
import Derived.Lib.ItoaLen
import Derived.Lib.AtoiAll
import Derived.Lib.AtoiAllCases
import Derived.Lib.Bytealg
import Derived.Lib.Strings
import Derived.Lib.ItoaMem
import Derived.StillTailTactics
import Derived.LoopTactic
import Derived.Sort.Grow
import Derived.Laws.Pointers
import Derived.Shelf.SlSortCmp.WholeK
import Derived.Shelf.SlSortCmp.NoneTotal
import Derived.Ground.SlsfProg
import Derived.Test.YtdigebokbhmfaaaGreatDoorProg
set_option linter.unusedVariables false
set_option linter.unusedSimpArgs false
namespace Go.Proofs.YtdigebokbhmfaaaGreatDoor
open Go.Vc
theorem obj_call {P : Program} {f : FuncId} {args : List Value} {st : St} {d : Option Nat} {K : St → Prop} {id : Nat} {o : LO} (hb : Body P f) (hl : Vc.look st.hp id = some o)
  (Good : RV → LO → Prop)
  (h : ∀ w, Holds st w → Calls P f args.toArray w (fun e w' => ∃ r o', e = .returned (RV.den r) ∧ Good r o' ∧ o'.holds w' ∧ Fr o.blks w w' ∧ ∀ b ∈ o'.blks, b ∈ o.blks ∨ w.heap.size ≤ b))
  (hk : ∀ r o', Good r o' → (Stays o o' ∧ LOok st.hp o' ∧ RVok (hpSet st.hp id o') r) ∧ hpSetK st.hp id o' (fun hp => st.withHp hp (fun st' => goPut st' d r K))) : UCall P st f args d K :=
 .inl ⟨hb, fun hwf w hw => (h w hw).mono fun e w' ⟨r, o', he, hg, hh, hf, hbl⟩ => by
  obtain ⟨⟨h1, h2, h3⟩, h4⟩ := hk r o' hg
  rw [hpSetK_eq] at h4
  exact ⟨r, st.setHp (hpSet st.hp id o'), he, ⟨rfl, rfl, rfl, rfl⟩, hwf.setO hl h1 h2, h3, hw.setG hl hf hh hbl, h4⟩⟩
theorem gimp_of {cs : Conds} {p : Prop} (h : p) : gimp cs p := by
 induction cs with
 | nil => exact h
 | cons c r ih => exact fun _ => ih
theorem gq {P : Program} {st : St} {keys : Keys} {cs : Conds} {o : Oper} {r : RV} (h : ∀ ρ : Operand → Value, (∀ x v, opv st keys x = some v → ρ x = v.den) → ∀ w, Holds st w → (execOp ρ o).run P w = .ok (.value r.den) w) : gimp cs (RawQ P st keys o r) := gimp_of ⟨h⟩
@[reducible] def ptr (b : Nat) : Value := .pointer (some ⟨b, 0, none⟩)
theorem u128 : Tryz.prog.underlying 122 = some (.pointer 125) := by kernel_rfl
theorem u185 : Tryz.prog.underlying 220 = some .unsafePointer := by kernel_rfl
theorem info131 : ∃ j, Tryz.prog.info? 125 = some j ∧ j.size ≠ 0 := by
 obtain ⟨i, d, h1, h2, h3, _⟩ := chk_info (tab_ok 125 _ (by kernel_rfl : Vc.look tab 125 = some { kind := 2, size := 2, zero := [.x (.pointer none), .x (.slice none 0 0)], flds := [(0, 1, false), (1, 1, false)] }))
 exact ⟨i, h1, by rw [h3]; decide⟩
theorem lies131 : liesAt Tryz.prog Tryz.prog.depth 125 (2 / Tryz.prog.cellsOf 125) 0 125 1 = true := by kernel_rfl
theorem noEscape_run (v : Value) (w : World) : (callFunc 144 #[v]).run Tryz.prog w = .ok (.value v) w := by
 rw [run_callFunc_extern Tryz.func144 (by kernel_rfl) (by kernel_rfl) (by kernel_rfl) (e := Extern.AbiNoEscape.same) (by kernel_rfl), Lib.run_noEscape]; rfl
theorem copyCheck_c (b : Nat) (v p : Value) (w : World) (hb : w.heap[b]? = some (.cells #[p, v] 125 (0, 0))) (hp : p = .pointer none ∨ p = ptr b) (hv : v.oneCell' = true) :
  Calls Tryz.prog 98 #[ptr b] w (fun e w' => e = .returned (.tuple #[]) ∧ w'.heap[b]? = some (.cells #[ptr b, v] 125 (0, 0)) ∧ Fr [b] w w') := by
 obtain ⟨j, hj, hj0⟩ := info131
 refine calls_atB [.s (.c (.p 0 b 0))] [(0, .box b 125 [.x p, .x v])] [b] Tryz.func98 rfl rfl (Nat.le_of_ble_eq_true rfl) ?_ (enter_objs (hp := [(0, .box b 125 [.x p, .x v])]) (fun o ho => by simp only [List.mem_singleton] at ho; subst ho; exact hb) (by simp [LO.blks])) fun B hB => ?_
 ·exact WF.objs (enter_objs (hp := [(0, .box b 125 [.x p, .x v])]) (fun o ho => by simp only [List.mem_singleton] at ho; subst ho; exact hb) (by simp [LO.blks])) ⟨⟨_, _, rfl⟩, trivial⟩ trivial
 rcases hp with rfl | rfl
 ·repeat refine zq ?_
  refine zr ?_; conv => whnf
  repeat refine zq ?_
  refine At.cond (t := true) rfl (fun hq => ?_) (fun hq => by cases hq)
  repeat refine zq ?_
  refine zr ?_; conv => whnf
  refine ⟨.x (ptr b), gq fun ρ hρ w' hw => ?_, ?_⟩
  ·have e := hρ (.tmp 8) _ rfl
   have hbk := hw.objs _ (List.mem_cons_self ..)
   simp only [LO.holds] at hbk
   have q := Lib.run_to_unsafe (P := Tryz.prog) (w := w') (src := 122) (dst := 220) (e := 125) (cells := 2) ⟨b, 0, none⟩ u128 u185 hj hj0 (by simp [World.shape?, hbk, dens]) (by show 0 < 2; decide)
   simp only [execOp, e, RV.den, SV.den, CV.den, Sem.run_bind, q, Result.andThen_ok, Sem.run_pure]
  conv => whnf
  refine .inr ⟨.x (ptr b), rfl, fun w' hw => noEscape_run _ _, ?_⟩; conv => whnf
  refine ⟨.x (ptr b), gq fun ρ hρ w' hw => ?_, ?_⟩
  ·have e := hρ (.tmp 10) _ rfl
   have hbk := hw.objs _ (List.mem_cons_self ..)
   simp only [LO.holds] at hbk
   have q := Lib.run_from_unsafe (P := Tryz.prog) (w := w') (src := 220) (dst := 122) (e := 125) (cells := 2) ⟨b, 0, none⟩ u185 u128 hj (by simp [World.shape?, hbk, dens]) lies131
   simp only [execOp, e, RV.den, SV.den, CV.den, Sem.run_bind, q, Result.andThen_ok, Sem.run_pure]
  conv => whnf
  refine ⟨rfl, ?_⟩; conv => whnf
  refine At.doneN tab_ok hB _ rfl fun w' hw => ⟨rfl, ?_, hw.fr⟩
  have hbk := hw.objs _ (List.mem_cons_self ..)
  exact hbk
 ·repeat refine zq ?_
  refine zr ?_; conv => whnf
  repeat refine zq ?_
  refine At.cond (t := false) rfl (fun hq => by cases hq) (fun hq => ?_)
  repeat refine zq ?_
  refine zr ?_; conv => whnf
  refine ⟨.b false, gq fun ρ hρ w' hw => ?_, ?_⟩
  ·have e1 := hρ (.tmp 17) _ rfl
   have e2 := hρ (.tmp 18) _ rfl
   have q := Lib.run_neq_ptr_same (P := Tryz.prog) (w := w') (tp := 122) (te := 125) ⟨b, 0, none⟩ u128 hj
   simp only [RV.den, SV.den, CV.den] at e1 e2
   simp only [execOp, e1, e2, RV.den, SV.den, CV.den, Sem.run_bind, eqGuard_ptr, q, Result.andThen_ok, Sem.run_pure]
  conv => whnf
  repeat refine zq ?_
  refine At.cond (t := false) rfl (fun hq => by cases hq) (fun hq => At.skip ?_)
  refine At.doneN tab_ok hB _ rfl fun w' hw => ⟨rfl, ?_, hw.fr⟩
  have hbk := hw.objs _ (List.mem_cons_self ..)
  exact hbk
structure BdAt (w : World) (b : Nat) (v : Value) (l : List UInt8) : Prop where
 box : ∃ p, (p = .pointer none ∨ p = ptr b) ∧ w.heap[b]? = some (.cells #[p, v] 125 (0, 0))
 row : ownsB w 5 v l
 dis : b ∉ blkOf v
def bufO (v : Value) (l : List UInt8) : LO := .ab (blkOf v) (fun w => ownsB w 5 v l)
theorem bufO_holds {w : World} {v : Value} {l : List UInt8} (h : ownsB w 5 v l) : (bufO v l).holds w := ⟨fun b hb => LO.blk_lt h.row b hb, fun w' hs => h.frame hs⟩
theorem bufO_at {w : World} {v : Value} {l : List UInt8} (h : (bufO v l).holds w) : ownsB w 5 v l := h.2 w fun _ _ => rfl
theorem bufO_blks {v : Value} {l : List UInt8} : ∀ x, x ∈ (bufO v l).blks ↔ x ∈ blkOf v := fun x => mem_nub
def bdO (b : Nat) (v : Value) (l : List UInt8) : LO := .ab (b :: blkOf v) (fun w => BdAt w b v l)
theorem BdAt.lt {w : World} {b : Nat} {v : Value} {l : List UInt8} (h : BdAt w b v l) : ∀ x ∈ b :: blkOf v, x < w.heap.size := fun x hx => by
 rcases List.mem_cons.1 hx with rfl | hx
 ·obtain ⟨p, _, hb⟩ := h.box; exact lt_of_get hb
 ·exact LO.blk_lt h.row.row x hx
theorem BdAt.frame {w w' : World} {b : Nat} {v : Value} {l : List UInt8} (h : BdAt w b v l) (hs : ∀ x ∈ b :: blkOf v, w'.heap[x]? = w.heap[x]?) : BdAt w' b v l := by
 refine ⟨?_, h.row.frame fun x hx => hs x (List.mem_cons_of_mem _ hx), h.dis⟩
 obtain ⟨p, hp, hb⟩ := h.box; exact ⟨p, hp, by rw [hs b (by simp)]; exact hb⟩
theorem bdO_holds {w : World} {b : Nat} {v : Value} {l : List UInt8} (h : BdAt w b v l) : (bdO b v l).holds w := ⟨h.lt, fun w' hs => h.frame hs⟩
theorem bdO_at {w : World} {b : Nat} {v : Value} {l : List UInt8} (h : (bdO b v l).holds w) : BdAt w b v l := h.2 w fun _ _ => rfl
theorem bdO_blks {b : Nat} {v : Value} {l : List UInt8} : ∀ x, x ∈ (bdO b v l).blks ↔ x = b ∨ x ∈ blkOf v := fun x => mem_nub.trans List.mem_cons
theorem u129 : Tryz.prog.underlying 123 = some (.slice 5) := by kernel_rfl
theorem u9 : Tryz.prog.underlying 9 = some .string := by kernel_rfl
theorem info5 : ∃ i z, Tryz.prog.info? 5 = some i ∧ i.zero = some z ∧ z.cells.size = i.size ∧ i.size = 1 ∧ i.bytes = 1 := by
 obtain ⟨i, d, h1, h2, h3, h4, z, h5, h6, h7⟩ := chk_info (tab_ok 5 _ (by kernel_rfl : Vc.look tab 5 = some { kind := 10, size := 1, zero := [.x (.int .u8 0)] }))
 obtain ⟨hu, j, hj, hj1, hj2⟩ := chk_slice (tab_ok 123 _ (by kernel_rfl : Vc.look tab 123 = some { kind := 1, size := 1, zero := [.x (.slice none 0 0)], elem := 5, esize := 1, ebytes := 1 })) rfl
 simp only at hj hj1 hj2
 rw [h1] at hj
 cases hj
 refine ⟨i, z, h1, h5, ?_, hj1, hj2⟩
 have := congrArg List.length h6
 simp [dens] at this
 rw [this, hj1]
theorem rawE_appStr {st : St} {dst : Option Nat} {ty : TypeId} {pos : String} {after : Array Edge} {guard : Option (Nat × Bool)} {K : St → Prop} {s x : Operand} {id : Nat} {v : Value} {l m : List UInt8} (hs : opv st [] s = some (.s (.c (.x v)))) (hx : opv st [] x = some (rS m))
  (hl : Vc.look st.hp id = some (bufO v l)) (hb : l.length + m.length ≤ 140737488355328)
  (hk : ∀ v' : Value, v'.oneCell' = true → hpSetK st.hp id (bufO v' (l ++ m)) (fun hp => st.withHp hp (fun st' => goPut st' dst (.s (.c (.x v'))) K))) :
  RawE Tryz.prog st { dst := dst, op := .call { callee := .builtin .append, args := #[s, x], argTypes := #[123, 9] }, type := ty, pos := pos, after := after, guard := guard } K := by
 refine ⟨fun ρ hρ hwf w hw => ?_⟩
 obtain ⟨i, z, h1, h2, h3, h4, h5⟩ := info5
 have es := hρ _ _ hs
 have ex := hρ _ _ hx
 simp only [RV.den, SV.den, CV.den] at es ex
 have hrow := bufO_at (hw.objs _ (look_mem hl))
 obtain ⟨v', w', hrun, hown, hfr, hbl⟩ := append_str (P := Tryz.prog) (w := w) 123 9 ty 5 i z u129 u9 h1 h2 h3 h4 h5 v l hrow m hb
 have hk' := hk v' (by obtain ⟨a, n, c, rfl⟩ := hown.sl; rfl)
 rw [hpSetK_eq] at hk'
 refine ⟨st.setHp (hpSet st.hp id (bufO v' (l ++ m))), w', .inl ⟨.s (.c (.x v')), ?_, trivial, hk'⟩, ⟨rfl, rfl, rfl, rfl⟩, hwf.setO hl (fun b T cells e => by cases e) trivial, hw.setG hl (hfr.mono fun k hk => .inl ((bufO_blks k).2 hk)) (bufO_holds hown) (fun b hb => (hbl b ((bufO_blks b).1 hb)).imp (fun h => (bufO_blks b).2 h) (fun h => h))⟩
 simp only [execOp, resolve, invoke, builtin, List.map_toArray, List.map_cons, List.map_nil, ex, es, Sem.run_bind, Sem.run_pure, Result.andThen_ok, hrun]
 rfl
theorem writeString_c (b : Nat) (v : Value) (l s : List UInt8) (w : World) (h : BdAt w b v l) (hl : l.length + s.length ≤ 140737488355328) :
  Calls Tryz.prog 58 #[ptr b, sv s] w (fun e w' => e = .returned (.tuple #[vI s.length, .nilIface]) ∧ ∃ v', BdAt w' b v' (l ++ s) ∧ Fr (b :: blkOf v) w w' ∧ ∀ x ∈ blkOf v', x ∈ blkOf v ∨ w.heap.size ≤ x) := by
 obtain ⟨p, hp, hb⟩ := h.box
 have hobj : ∀ o ∈ [(0, LO.box b 125 [.x p, .x v]), (1, bufO v l)], o.2.holds w := fun o ho => by
  simp only [List.mem_cons, List.not_mem_nil, or_false] at ho
  rcases ho with rfl | rfl
  ·exact hb
  ·exact bufO_holds h.row
 have hS : ([(0, LO.box b 125 [.x p, .x v]), (1, bufO v l)].flatMap fun o => o.2.blks) = b :: nub (blkOf v) := by simp [LO.blks, bufO]
 have hen := enter_objs (N := Tryz.f58.ntmps) (l := [.s (.c (.p 0 b 0)), rS s]) (hp := [(0, .box b 125 [.x p, .x v]), (1, bufO v l)]) hobj (by
  rw [hS]; exact List.nodup_cons.2 ⟨fun hm => h.dis (mem_nub.1 hm), nub_nodup _⟩)
 rw [hS] at hen
 refine calls_atB [.s (.c (.p 0 b 0)), rS s] [(0, .box b 125 [.x p, .x v]), (1, bufO v l)] (b :: nub (blkOf v)) Tryz.func58 rfl rfl (Nat.le_of_ble_eq_true rfl) (WF.objs hen ⟨⟨_, _, rfl⟩, trivial⟩ trivial) hen fun B hB => ?_
 repeat refine zq ?_
 refine zr ?_; conv => whnf
 repeat refine zq ?_
 refine zr ?_; conv => whnf
 have hvs := h.row.sl
 have one : v.oneCell' = true := by obtain ⟨a, n, c, rfl⟩ := hvs; rfl
 refine obj_call (id := 0) (o := .box b 125 [.x p, .x v]) b98 rfl (fun r o' => r = .tup [] ∧ o' = .box b 125 [.x (ptr b), .x v]) (fun w' hw => (copyCheck_c b v p w' (hw.box (id := 0) rfl) hp one).mono fun e w'' ⟨he, hb', hf⟩ => ⟨.tup [], _, he, ⟨rfl, rfl⟩, hb', hf, fun b hb => .inl hb⟩) ?_
 rintro r o' ⟨rfl, rfl⟩
 refine ⟨⟨stays_box, fun c hc => ?_, fun v hv => by cases hv⟩, ?_⟩
 ·simp only [List.mem_cons, List.not_mem_nil, or_false] at hc
  rcases hc with rfl | rfl <;> trivial
 conv => whnf
 repeat refine zq ?_
 refine zr ?_; conv => whnf
 refine rawE_appStr (id := 1) rfl rfl rfl hl ?_
 intro v' hv1; conv => whnf
 refine ⟨hv1, ?_⟩; conv => whnf
 repeat refine zq ?_
 refine zr ?_; conv => whnf
 repeat refine zq ?_
 refine At.ret (At.doneB tab_ok hB _ rfl fun w' hw => ?_)
 have hb0 := hw.box (id := 0) rfl
 have hb1 := bufO_at (hw.objs _ (look_mem (s := 1) rfl))
 have hap := hw.apart (i := 0) (j := 1) rfl rfl (by decide)
 refine ⟨rfl, v', ⟨⟨_, .inr rfl, hb0⟩, hb1, fun hm => hap b (by simp [LO.blks]) ((bufO_blks b).2 hm)⟩, hw.fr.mono fun x hx => .inl ?_, fun x hx => ?_⟩
 ·exact (List.mem_cons.1 hx).elim (fun e => e ▸ List.mem_cons_self ..) (fun h => List.mem_cons_of_mem _ (mem_nub.1 h))
 ·rcases hw.fresh (id := 1) rfl x ((bufO_blks x).2 hx) with hx' | hx'
  ·rcases List.mem_cons.1 hx' with rfl | hx'
   ·exact absurd ((bufO_blks x).2 hx) (hap x (by simp [LO.blks]))
   ·exact .inl (mem_nub.1 hx')
  ·exact .inr hx'
theorem string_c (n0 b : Nat) (v : Value) (l : List UInt8) (w : World) (h : BdAt w b v l) (hn : n0 ≤ w.heap.size) (h0 : ∀ x ∈ b :: blkOf v, n0 ≤ x) :
  Calls Tryz.prog 63 #[ptr b] w (fun e w' => e = .returned (sv l) ∧ RowKit.Below n0 w w') := by
 refine Tryz.Builder_String_any n0 b l w ?_ hn
 obtain ⟨p, hp, hb⟩ := h.box
 have hd := h.dis
 have key : ∀ q, w.heap[b]? = some (.cells #[q, v] 125 (0, 0)) → Lib.BuilderAt 125 5 n0 b q (Lib.byteCells l) w := fun q hq => by
  refine ⟨h0 b (by simp), v, hq, ?_, ?_⟩
  ·obtain ⟨h1, h2⟩ := h.row
   have e : Lib.byteCells l = l.map byteV := rfl
   rw [Lib.byteCells_length, e]
   refine ⟨h1, ?_⟩
   rcases h2 with h2 | ⟨g, cap, cur, rfl, _, hg, h4⟩
   ·exact .inl h2
   ·exact .inr ⟨g, cap, cur, rfl, h0 g (by simp [blkOf]), hg, h4⟩
  ·obtain ⟨a, n, c, rfl⟩ := h.row.sl
   cases a with
   | none => simp [Value.ownBlock]
   | some a => simp only [Value.ownBlock, ne_eq, Option.some.injEq]; exact fun e => hd (by simp [blkOf, e])
 rcases hp with rfl | rfl
 ·exact .inl (key _ hb)
 ·exact .inr (key _ hb)
end Go.Proofs.YtdigebokbhmfaaaGreatDoor
namespace Go.Bs
abbrev B := List UInt8
def intS (n : Int) : B := Lib.itoa n ++ [59]
def numS (n : Int) : B := if n < 0 then [] else intS n
def textS (s : B) : B := Lib.itoa s.length ++ [58] ++ s ++ [44]
def numsS (l : List Int) : B := Lib.itoa l.length ++ [91] ++ (l.map intS).flatten ++ [93]
theorem intS_len {n : Int} (h0 : -9223372036854775808 ≤ n) (h1 : n ≤ 9223372036854775807) : (intS n).length ≤ 22 := by
 have := Lib.itoa_length_le n h0 h1
 simp only [intS, List.length_append, List.length_cons, List.length_nil]; omega
theorem numS_len {n : Int} (h0 : -9223372036854775808 ≤ n) (h1 : n ≤ 9223372036854775807) : (numS n).length ≤ 22 := by
 unfold numS; split
 ·simp
 ·exact intS_len h0 h1
theorem ints_len : ∀ {l : List Int}, (∀ n ∈ l, -9223372036854775808 ≤ n ∧ n ≤ 9223372036854775807) → ((l.map intS).flatten).length ≤ 22 * l.length
 | [], _ => by simp
 | n :: l, h => by
  have h1 := intS_len (h n (by simp)).1 (h n (by simp)).2
  have h2 := ints_len (l := l) (fun m hm => h m (by simp [hm]))
  simp only [List.map_cons, List.flatten_cons, List.length_append, List.length_cons]; omega
theorem numsS_len {l : List Int} (h : ∀ n ∈ l, -9223372036854775808 ≤ n ∧ n ≤ 9223372036854775807) (hl : l.length ≤ 1000000) : (numsS l).length ≤ 23 + 22 * l.length := by
 have h1 := ints_len h
 have h2 := Lib.itoa_length_le l.length (by omega) (by omega)
 simp only [numsS, List.length_append, List.length_cons, List.length_nil]; omega
theorem textS_len {s : B} (hl : s.length ≤ 1000000) : (textS s).length ≤ 23 + s.length := by
 have h2 := Lib.itoa_length_le s.length (by omega) (by omega)
 simp only [textS, List.length_append, List.length_cons, List.length_nil]; omega
structure Rd where
 s : B
 bad : Bool
def failR : Rd := ⟨[], true⟩
def headOf (s : B) : B := s.take 21
def numberV (c : UInt8) (least : Int) (s : B) : Option (Int × B) :=
 let at' := Lib.indexByte (headOf s) c
 if at' < 0 then none else
 match Lib.atoiAll ((headOf s).take at'.toNat) with
 | .ok n => if Lib.itoa n ≠ (headOf s).take at'.toNat ∨ n < least then none else some (n, s.drop (at' + 1).toNat)
 | _ => none
def numberR (c : UInt8) (least : Int) (r : Rd) : Int × Rd :=
 match numberV c least r.s with
 | some (n, s) => (n, ⟨s, r.bad⟩)
 | none => (0, failR)
def closeR (p : B) (r : Rd) : Rd := if Lib.hasPrefix r.s p then ⟨Lib.trimPrefix r.s p, r.bad⟩ else failR
def numR (r : Rd) : Int × Rd := numberR 59 0 r
def intR (r : Rd) : Int × Rd := numberR 59 (-9223372036854775808) r
def textR (r : Rd) : B × Rd :=
 let (n, r) := numberR 58 0 r
 if n > r.s.length then ([], failR) else
 let s := r.s.take n.toNat
 let r := closeR [44] ⟨r.s.drop n.toNat, r.bad⟩
 if r.bad then ([], r) else (s, r)
def itemsL : Nat → List Int → Rd → List Int × Rd
 | 0, out, r => (out, r)
 | k + 1, out, r => if r.bad then (out, r) else
  let (n, r) := intR r
  itemsL k (out ++ [n]) r
def numsR (r : Rd) : List Int × Rd :=
 let (n, r) := numberR 91 0 r
 let (out, r) := itemsL n.toNat [] r
 let r := closeR [93] r
 if r.bad then ([], r) else (out, r)
theorem indexByte_lt : ∀ (l : B) (c : UInt8), Lib.indexByte l c < l.length
 | [], c => by simp [Lib.indexByte]
 | b :: l, c => by
  have ih := indexByte_lt l c
  unfold Lib.indexByte
  simp only [List.length_cons]
  split
  ·omega
  ·split <;> omega
theorem numberV_len {c : UInt8} {least : Int} {s : B} {n : Int} {t : B} (h : numberV c least s = some (n, t)) : t.length < s.length ∧ least ≤ n ∧ -9223372036854775808 ≤ n ∧ n ≤ 9223372036854775807 := by
 unfold numberV at h
 simp only at h
 split at h
 ·cases h
 ·rename_i h0
  split at h
  ·rename_i m hm
   split at h
   ·cases h
   ·rename_i hc
    simp only [Option.some.injEq, Prod.mk.injEq] at h
    obtain ⟨rfl, rfl⟩ := h
    have hb := Lib.atoiAll_bounds hm
    have hlt := indexByte_lt (headOf s) c
    have hl : (headOf s).length ≤ s.length := by unfold headOf; simp; omega
    refine ⟨?_, ?_, hb.1, hb.2⟩
    ·rw [List.length_drop]; omega
    ·simp only [not_or] at hc; omega
  ·cases h
theorem numberR_len (c : UInt8) (least : Int) (r : Rd) : (numberR c least r).2.s.length ≤ r.s.length := by
 unfold numberR
 split
 ·rename_i n s h; have := (numberV_len h).1; simp only; omega
 ·simp [failR]
theorem numberR_bd (c : UInt8) {least : Int} (r : Rd) (hl : -9223372036854775808 ≤ least) : (-9223372036854775808 ≤ (numberR c least r).1 ∧ (numberR c least r).1 ≤ 9223372036854775807) ∧ (0 ≤ least → 0 ≤ (numberR c least r).1) := by
 unfold numberR
 split
 ·rename_i n s h; have := numberV_len h; simp only; omega
 ·simp
theorem closeR_len (p : B) (r : Rd) : (closeR p r).s.length ≤ r.s.length := by
 unfold closeR Lib.trimPrefix; split
 ·simp only; simp [*]
 ·simp [failR]
theorem itemsL_len : ∀ (k : Nat) (out : List Int) (r : Rd), (itemsL k out r).1.length ≤ out.length + r.s.length + 1 ∧ (itemsL k out r).2.s.length ≤ r.s.length
 | 0, out, r => by simp [itemsL]; omega
 | k + 1, out, r => by
  unfold itemsL
  split
  ·simp; omega
  ·have ih := itemsL_len k (out ++ [(intR r).1]) (intR r).2
   simp only [List.length_append, List.length_cons, List.length_nil] at ih
   have hl := numberR_len 59 (-9223372036854775808) r
   refine ⟨?_, Nat.le_trans ih.2 hl⟩
   show (itemsL k (out ++ [(intR r).1]) (intR r).2).1.length ≤ _
   unfold intR numberR at ih ⊢
   cases hv : numberV 59 (-9223372036854775808) r.s with
   | some x =>
    obtain ⟨n, t⟩ := x
    have := (numberV_len hv).1
    rw [hv] at ih
    simp only at ih ⊢
    omega
   | none =>
    rw [hv] at ih
    simp only [failR, List.length_nil] at ih ⊢
    cases k with
    | zero => simp [itemsL]
    | succ k => simp [itemsL]
theorem itemsL_bd : ∀ (k : Nat) (out : List Int) (r : Rd), (∀ n ∈ out, -9223372036854775808 ≤ n ∧ n ≤ 9223372036854775807) → ∀ n ∈ (itemsL k out r).1, -9223372036854775808 ≤ n ∧ n ≤ 9223372036854775807
 | 0, out, r, h => by simpa [itemsL] using h
 | k + 1, out, r, h => by
  unfold itemsL
  split
  ·simpa using h
  ·refine itemsL_bd k _ _ fun n hn => ?_
   rcases List.mem_append.1 hn with hn | hn
   ·exact h n hn
   ·simp only [List.mem_singleton] at hn; subst hn; exact (numberR_bd 59 r (by decide)).1
end Go.Bs
namespace Go.Proofs.YtdigebokbhmfaaaGreatDoor
open Go.Vc Go.Bs
@[reducible] def fv (f : Nat) : Value := .func (.func f) #[] #[]
theorem int_c (n : Int) (h : inR n) (w : World) (hG : Gl w) : Ans Tryz.prog 61 [vI n] (rS (intS n)) w := by
 have hl := Lib.itoa_length_le n h.1 h.2
 refine calls_plainB [.i n] Tryz.func61 rfl rfl (Nat.le_of_ble_eq_true rfl) rfl fun B hB => ?_
 repeat refine zq ?_
 refine zr ?_; conv => whnf
 repeat refine zq ?_
 refine zr ?_; conv => whnf
 refine ans_call b100 rfl (fun w' hw => itoa_c n h w' (hG.ext hw.fr)) ?_; conv => whnf
 refine ⟨by simp; omega, ?_⟩; conv => whnf
 repeat refine zq ?_
 refine At.ret (At.doneB tab_ok hB _ rfl fun w' hw => ⟨rfl, hw.fr⟩)
theorem num_c (n : Int) (h : inR n) (w : World) (hG : Gl w) : Ans Tryz.prog 59 [vI n] (rS (numS n)) w := by
 refine calls_plainB [.i n] Tryz.func59 rfl rfl (Nat.le_of_ble_eq_true rfl) rfl fun B hB => ?_
 repeat refine zq ?_
 refine zr ?_; conv => whnf
 repeat refine zq ?_
 refine zr ?_; conv => whnf
 repeat refine zq ?_
 refine At.cond rfl (fun hq => ?_) (fun hq => At.skip ?_)
 ·have hn : n < 0 := of_decide_eq_true hq
  repeat refine zq ?_
  refine zr ?_; conv => whnf
  repeat refine zq ?_
  refine At.ret (At.doneB tab_ok hB _ rfl fun w' hw => ⟨by simp [numS, hn, RV.den, SV.den, CV.den], hw.fr⟩)
 ·have hn : ¬ n < 0 := of_decide_eq_false hq
  repeat refine zq ?_
  refine zr ?_; conv => whnf
  refine ans_call b61 rfl (fun w' hw => int_c n h w' (hG.ext hw.fr)) ?_; conv => whnf
  repeat refine zq ?_
  refine At.ret (At.doneB tab_ok hB _ rfl fun w' hw => ⟨by simp [numS, hn], hw.fr⟩)
theorem text_c (s : List UInt8) (hs : s.length ≤ 1000000000) (w : World) (hG : Gl w) : Ans Tryz.prog 62 [sv s] (rS (textS s)) w := by
 have hi : inR s.length := ⟨by omega, by omega⟩
 have hl := Lib.itoa_length_le s.length hi.1 hi.2
 refine calls_plainB [rS s] Tryz.func62 rfl rfl (Nat.le_of_ble_eq_true rfl) rfl fun B hB => ?_
 repeat refine zq ?_
 refine zr ?_; conv => whnf
 repeat refine zq ?_
 refine zr ?_; conv => whnf
 refine ans_call b100 rfl (fun w' hw => itoa_c _ hi w' (hG.ext hw.fr)) ?_; conv => whnf
 refine ⟨by simp; omega, ?_⟩; conv => whnf
 refine ⟨by simp; omega, ?_⟩; conv => whnf
 refine ⟨by simp; omega, ?_⟩; conv => whnf
 repeat refine zq ?_
 refine At.ret (At.doneB tab_ok hB _ rfl fun w' hw => ⟨rfl, hw.fr⟩)
theorem bd_write {st : St} {d : Option Nat} {K : St → Prop} {id b : Nat} {v : Value} {l s : List UInt8} (hl : Vc.look st.hp id = some (bdO b v l)) (hb : l.length + s.length ≤ 140737488355328)
  (hk : ∀ v' : Value, hpSetK st.hp id (bdO b v' (l ++ s)) (fun hp => st.withHp hp (fun st' => goPut st' d (.tup [.c (.i s.length), .c (.x .nilIface)]) K))) : UCall Tryz.prog st 58 [ptr b, sv s] d K :=
 obj_call (id := id) (o := bdO b v l) b58 hl (fun r o' => r = .tup [.c (.i s.length), .c (.x .nilIface)] ∧ ∃ v', o' = bdO b v' (l ++ s))
  (fun w hw => (writeString_c b v l s w (bdO_at (hw.objs _ (look_mem hl))) hb).mono fun e w' ⟨he, v', h1, h2, h3⟩ => ⟨.tup [.c (.i s.length), .c (.x .nilIface)], bdO b v' (l ++ s), he, ⟨rfl, v', rfl⟩, bdO_holds h1, h2.mono fun k hk => .inl ((bdO_blks k).2 (List.mem_cons.1 hk)), fun k hk => by
   rcases (bdO_blks k).1 hk with rfl | hk
   ·exact .inl ((bdO_blks _).2 (.inl rfl))
   ·exact (h3 k hk).imp (fun h => (bdO_blks k).2 (.inr h)) (fun h => h)⟩)
  (fun r o' ⟨hr, v', ho⟩ => by subst hr; subst ho; exact ⟨⟨(fun _ _ _ e => by cases e), trivial, (fun v hv => by
   simp only [List.mem_cons, List.not_mem_nil, or_false] at hv
   rcases hv with rfl | rfl <;> trivial)⟩, hk v'⟩)
theorem bd_string {st : St} {d : Option Nat} {K : St → Prop} {id b : Nat} {v : Value} {l : List UInt8} (hl : st.hp = [(id, bdO b v l)]) (hS : st.S = []) (hsl : ∀ s v, (s, some v) ∈ st.sl → noPr v = true)
  (hk : st.withHp [] (fun st' => goPut st' d (rS l) K)) : UCall Tryz.prog st 63 [ptr b] d K :=
 .inl ⟨b63, fun hwf w hw => by
  have hbd : BdAt w b v l := bdO_at (hw.objs (id, _) (by rw [hl]; exact List.mem_cons_self ..))
  have hfr := hw.fr
  rw [hS] at hfr
  refine (string_c st.ws.heap.size b v l w hbd hfr.size fun x hx => ?_).mono ?_
  ·have hm : x ∈ st.blks := by unfold St.blks; rw [hl]; simp only [List.flatMap_cons, List.flatMap_nil, List.append_nil]; exact (bdO_blks x).2 (List.mem_cons.1 hx)
   rcases hw.own x hm with h | h
   ·rw [hS] at h; cases h
   ·exact h
  ·rintro e w' ⟨he, hb⟩
   refine ⟨rS l, st.setHp [], he, ⟨rfl, rfl, rfl, rfl⟩, ?_, trivial, ⟨(fun o ho => by cases ho), List.nodup_nil, ?_, (fun b hb => by cases hb)⟩, ?_⟩
   ·exact ⟨(fun s v hm => noPr_ok (hsl s v hm)), (fun _ _ _ _ hm => by cases hm), (fun _ _ _ _ _ hm => by cases hm)⟩
   ·rw [show (st.setHp []).S = [] from hS]
    exact ⟨hb.os.trans hfr.os, hb.tape.trans hfr.tape, hb.output.trans hfr.output, Nat.le_trans hfr.size hb.size, fun k hk hn => (hb.block k hk).trans (hfr.block k hk hn)⟩
   ·obtain ⟨N, sl, gl, hp, S, ws, df⟩ := st
    exact hk⟩
theorem Holds.one {st st' : St} {w : World} {id : Nat} {o o' : LO} (h : Holds st w) (h1 : st.hp = [(id, o)]) (h2 : st'.hp = [(id, o')]) (ho : o'.holds w) (hb : ∀ b ∈ o'.blks, b ∈ o.blks) (hS : st'.S = st.S) (hws : st'.ws = st.ws) : Holds st' w := by
 have e1 : st.blks = o.blks := by unfold St.blks; rw [h1]; simp
 have e2 : st'.blks = o'.blks := by unfold St.blks; rw [h2]; simp
 refine ⟨fun x hx => ?_, by rw [e2]; exact LO.nodup, by rw [hS, hws]; exact h.fr, fun b hm => ?_⟩
 ·rw [h2, List.mem_singleton] at hx; subst hx; exact ho
 ·rw [e2] at hm
  rw [hS, hws]; exact h.own b (by rw [e1]; exact hb b hm)
theorem bd_new {w : World} {b : Nat} (h : w.heap[b]? = some (.cells #[.pointer none, .slice none 0 0] 125 (0, 0))) : (bdO b (.slice none 0 0) []).holds w :=
 bdO_holds ⟨⟨_, .inl rfl, h⟩, ⟨rfl, .inl ⟨rfl, rfl⟩⟩, by simp [blkOf]⟩
theorem list_c (xs : List Int) (hx : ∀ n ∈ xs, inR n) (hl : xs.length ≤ 1000000) (S : List Nat) (v : Value) (w : World) (h : SlOf intT S w v xs) (hG : Gl w) : Ans Tryz.prog 99 [v, fv 61] (rS (numsS xs)) w := by
 replace h := h.avoid (S' := []) (fun b hb => by cases hb)
 have hlen := h.len
 have hi : inR xs.length := ⟨by omega, by omega⟩
 have hil := Lib.itoa_length_le xs.length hi.1 hi.2
 refine calls_plainB [.x v, .x (fv 61)] Tryz.func99 rfl rfl (Nat.le_of_ble_eq_true rfl) rfl fun B hB => ?_
 repeat refine zq ?_
 refine zr ?_; conv => whnf
 repeat refine zq ?_
 refine zr ?_; conv => whnf
 intro b; conv => whnf
 refine At.reshapeH fun w' hw => ⟨{ N := Tryz.f99.ntmps, sl := [(0, some (.x v)), (1, some (.x (fv 61))), (5, some (.x (ptr b)))], gl := [], hp := [(0, bdO b (.slice none 0 0) [])], S := [], ws := w }, Le.of rfl rfl ⟨rfl, rfl, rfl, trivial⟩, ?_, trivial, trivial, ?_⟩
 ·exact Holds.one hw rfl rfl (bd_new (hw.box (id := 0) rfl)) (fun x hx => by rcases (bdO_blks x).1 hx with rfl | hx; exact List.mem_singleton.2 rfl; simp [blkOf] at hx) rfl rfl
 repeat refine zq ?_
 refine zr ?_; conv => whnf
 refine ⟨h.sl, ?_⟩; conv => whnf
 refine ans_call b100 rfl (fun w' hw => by rw [hlen]; exact itoa_c _ hi w' (hG.ext hw.fr)) ?_; conv => whnf
 refine ⟨by simp; omega, ?_⟩; conv => whnf
 refine bd_write (id := 0) rfl (by simp; omega) ?_
 intro v1; conv => whnf
 repeat refine zq ?_
 refine zr ?_; conv => whnf
 refine ⟨h.sl, ?_⟩; conv => whnf
 repeat refine zq ?_
 refine At.block ?_
 refine At.loopH (fun p' : Nat × Value => { N := Tryz.f99.ntmps, sl := [(1, some (.x (fv 61))), (5, some (.x (ptr b))), (13, some (.x v)), (14, some (.i xs.length)), (15, some (.i p'.1))], gl := [], hp := [(0, bdO b p'.2 (Lib.itoa xs.length ++ [91] ++ ((xs.take p'.1).map intS).flatten))], S := [], ws := w }) (fun p' => p'.1 ≤ xs.length) (fun p' => xs.length - p'.1)
  (fun w' hw => ⟨(0, v1), Nat.zero_le _, Le.of rfl rfl ⟨rfl, rfl, rfl, congrArg (Value.int .i64) h.len, rfl, trivial⟩, ?_, trivial, trivial⟩) ?_
 ·refine hw.keep [0] ?_ rfl rfl
  show [(0, bdO b v1 _)] = [(0, bdO b v1 _)]
  simp
 rintro ⟨k, v2⟩ hk
 simp only at hk ⊢
 have hfl := ints_len (l := xs.take k) (fun n hn => hx n (List.mem_of_mem_take hn))
 repeat refine zq ?_
 refine zr ?_; conv => whnf
 repeat refine zq ?_
 refine At.cond rfl (fun hc => At.skip ?_) (fun hc => At.exit ?_)
 ·have hlt : k < xs.length := by have := of_decide_eq_true hc; omega
  obtain ⟨x, hxk⟩ : ∃ x, xs[k]? = some x := ⟨_, List.getElem?_eq_getElem hlt⟩
  repeat refine zq ?_
  refine At.block ?_
  repeat refine zq ?_
  refine zr ?_; conv => whnf
  refine ⟨by omega, ?_⟩; conv => whnf
  refine ⟨by omega, ?_⟩; conv => whnf
  refine ⟨[.i x], fun w' hw => h.load (n := 1) hw.fr hxk rfl, ?_⟩; conv => whnf
  repeat refine zq ?_
  refine zr ?_; conv => whnf
  refine ans_call b61 rfl (fun w' hw => int_c x (hx x (List.mem_of_getElem? hxk)) w' (hG.ext hw.fr)) ?_; conv => whnf
  have hxl := intS_len (hx x (List.mem_of_getElem? hxk)).1 (hx x (List.mem_of_getElem? hxk)).2
  refine bd_write (id := 0) rfl (by simp only [List.length_append, List.length_cons, List.length_nil, List.length_take] at hfl ⊢; omega) ?_
  intro v3; conv => whnf
  repeat refine zq ?_
  refine zr ?_; conv => whnf
  refine ⟨⟨by omega, by omega⟩, ?_⟩; conv => whnf
  refine At.nextH fun w' hw => ⟨(k + 1, v3), by simp only; omega, by simp only; omega, Le.of rfl rfl ⟨rfl, rfl, rfl, rfl, rfl, trivial⟩, hw.keep [0] ?_ rfl rfl, trivial, trivial⟩
  show [(0, bdO b v3 _)] = [(0, bdO b v3 _)]
  rw [List.take_add_one, hxk]
  simp
 ·have hge : k = xs.length := by have := of_decide_eq_false hc; omega
  subst hge
  rw [List.take_length] at hfl ⊢
  repeat refine zq ?_
  refine zr ?_; conv => whnf
  refine bd_string rfl rfl (fun s v hm => by
   simp only [List.mem_cons, List.not_mem_nil, or_false, Prod.mk.injEq, Option.some.injEq] at hm
   rcases hm with ⟨_, rfl⟩ | ⟨_, rfl⟩ | ⟨_, rfl⟩ | ⟨_, rfl⟩ | ⟨_, rfl⟩ | ⟨_, rfl⟩ <;> rfl) ?_
  conv => whnf
  refine ⟨by simp only [List.length_append, List.length_cons, List.length_nil] at hfl ⊢; omega, ?_⟩; conv => whnf
  repeat refine zq ?_
  refine At.ret (At.doneB tab_ok hB _ rfl fun w' hw => ⟨rfl, hw.fr⟩)
theorem nums_c (xs : List Int) (hx : ∀ n ∈ xs, inR n) (hl : xs.length ≤ 1000000) (S : List Nat) (v : Value) (w : World) (h : SlOf intT S w v xs) (hG : Gl w) : Ans Tryz.prog 60 [v] (rS (numsS xs)) w := by
 replace h := h.avoid (S' := []) (fun b hb => by cases hb)
 refine calls_plainB [.x v] Tryz.func60 rfl rfl (Nat.le_of_ble_eq_true rfl) rfl fun B hB => ?_
 repeat refine zq ?_
 refine zr ?_; conv => whnf
 repeat refine zq ?_
 refine zr ?_; conv => whnf
 refine ans_call b99 rfl (fun w' hw => list_c xs hx hl [] v w' (h.fr hw.fr) (hG.ext hw.fr)) ?_; conv => whnf
 repeat refine zq ?_
 refine At.ret (At.doneB tab_ok hB _ rfl fun w' hw => ⟨rfl, hw.fr⟩)
end Go.Proofs.YtdigebokbhmfaaaGreatDoor
namespace Go.Proofs.YtdigebokbhmfaaaGreatDoor
open Go.Vc Go.Bs
@[reducible] def rdC (r : Rd) : List CV := [.s r.s, .b r.bad]
@[reducible] def rdO (b : Nat) (r : Rd) : LO := .box b 212 (rdC r)
def RdAt (w : World) (b : Nat) (r : Rd) : Prop := w.heap[b]? = some (.cells #[sv r.s, .bool r.bad] 212 (0, 0))
def RdF (f : FuncId) (args : List Value) (b : Nat) (v : RV) (r' : Rd) (w : World) : Prop :=
 Calls Tryz.prog f args.toArray w (fun e w' => e = .returned v.den ∧ RdAt w' b r' ∧ Fr [b] w w')
theorem rd_call {st : St} {d : Option Nat} {K : St → Prop} {id b : Nat} {f : FuncId} {args : List Value} {r r' : Rd} {v : RV} (hb : Body Tryz.prog f) (hl : Vc.look st.hp id = some (rdO b r)) (hv : noPr v = true)
  (h : ∀ w, Holds st w → RdAt w b r → RdF f args b v r' w) (hk : hpSetK st.hp id (rdO b r') (fun hp => st.withHp hp (fun st' => goPut st' d v K))) : UCall Tryz.prog st f args d K :=
 obj_call (id := id) (o := rdO b r) hb hl (fun u o' => u = v ∧ o' = rdO b r')
  (fun w hw => (h w hw (hw.box hl)).mono fun e w' ⟨he, h1, h2⟩ => ⟨v, rdO b r', he, ⟨rfl, rfl⟩, h1, h2, fun k hk => .inl hk⟩)
  (fun u o' ⟨hu, ho⟩ => by
   subst hu; subst ho
   exact ⟨⟨stays_box, (fun c hc => by
    simp only [List.mem_cons, List.not_mem_nil, or_false] at hc
    rcases hc with rfl | rfl <;> trivial), noPr_ok hv⟩, hk⟩)
theorem rd_enter {N : Nat} {l : List RV} {w : World} {b : Nat} {r : Rd} (h : RdAt w b r) : Holds (St.enter N l [(0, rdO b r)] [b] w) w :=
 enter_objs (hp := [(0, rdO b r)]) (fun o ho => by simp only [List.mem_singleton] at ho; subst ho; exact h) (by simp [LO.blks])
theorem fail_c (b : Nat) (r : Rd) (w : World) (h : RdAt w b r) : RdF 140 [ptr b] b (.tup []) failR w := by
 refine calls_atB [.s (.c (.p 0 b 0))] [(0, rdO b r)] [b] Tryz.func140 rfl rfl (Nat.le_of_ble_eq_true rfl) (WF.objs (rd_enter h) ⟨⟨_, _, rfl⟩, trivial⟩ trivial) (rd_enter h) fun B hB => ?_
 repeat refine zq ?_
 refine zr ?_; conv => whnf
 refine At.doneN tab_ok hB _ rfl fun w' hw => ⟨rfl, hw.box (id := 0) rfl, hw.fr⟩
theorem head_eq (s : List UInt8) : (s.take (min (s.length : Int) 21).toNat).drop (0 : Int).toNat = headOf s := by
 unfold headOf
 simp only [Int.toNat_zero, List.drop_zero]
 rcases Nat.le_total s.length 21 with h | h
 ·rw [List.take_of_length_le (by omega), List.take_of_length_le h]
 ·rw [show (min (s.length : Int) 21).toNat = 21 by omega]
theorem number_c (c : UInt8) (least : Int) (b : Nat) (r : Rd) (w : World) (h : RdAt w b r) (hG : Gl w) (hb : 8 ≤ b) : RdF 138 [ptr b, .int .u8 c.toNat, vI least] b (.i (numberR c least r).1) (numberR c least r).2 w := by
 have hG' : ∀ w', Fr [b] w w' → Gl w' := fun w' hf => hG.fr hf (fun x hx => by simp only [List.mem_singleton] at hx; omega)
 have hhl : (headOf r.s).length ≤ 21 := by unfold headOf; simp; omega
 refine calls_atB [.s (.c (.p 0 b 0)), .x (.int .u8 c.toNat), .i least] [(0, rdO b r)] [b] Tryz.func138 rfl rfl (Nat.le_of_ble_eq_true rfl) (WF.objs (rd_enter h) ⟨⟨_, _, rfl⟩, trivial⟩ trivial) (rd_enter h) fun B hB => ?_
 repeat refine zq ?_
 refine zr ?_; conv => whnf
 repeat refine zq ?_
 refine At.draw tab_ok mixed (by kernel_rfl) ?_; conv => whnf
 refine ⟨by simp, ?_⟩; conv => whnf
 refine ⟨by omega, ?_⟩; conv => whnf
 refine ⟨by omega, ?_⟩; conv => whnf
 refine At.reshapeH fun w' hw => ⟨{ N := Tryz.f138.ntmps, sl := [(0, some (.s (.c (.p 0 b 0)))), (1, some (.x (.int .u8 c.toNat))), (2, some (.i least)), (7, some (rS (headOf r.s)))], gl := [], hp := [(0, rdO b r)], S := [b], ws := w }, Le.of rfl rfl ⟨rfl, rfl, rfl, congrArg (fun l => Value.string (bs l)) (head_eq r.s), trivial⟩, hw.same rfl rfl rfl, ⟨⟨_, _, rfl⟩, trivial⟩, trivial, ?_⟩
 repeat refine zq ?_
 refine zr ?_; conv => whnf
 refine ans_call b196 rfl (fun w' hw => indexByte_c (headOf r.s) c.toNat w') ?_; conv => whnf
 have ec : ((c.toNat : Int).toNat).toUInt8 = c := by simp
 rw [ec]
 have hat := indexByte_lt (headOf r.s) c
 have hge := Lib.indexByte_ge (headOf r.s) c
 generalize hi : Lib.indexByte (headOf r.s) c = i at hat hge ⊢
 repeat refine zq ?_
 refine zr ?_; conv => whnf
 repeat refine zq ?_
 refine At.cond rfl (fun hq => ?_) (fun hq => At.skip ?_)
 ·have hn : i < 0 := of_decide_eq_true hq
  have ev : numberR c least r = (0, failR) := by unfold numberR numberV; simp [hi, hn]
  repeat refine zq ?_
  refine zr ?_; conv => whnf
  refine rd_call (id := 0) (v := .tup []) (r' := failR) b140 rfl rfl (fun w' hw h => fail_c b r w' h) ?_; conv => whnf
  repeat refine zq ?_
  refine zr ?_; conv => whnf
  repeat refine zq ?_
  refine At.ret (At.doneB tab_ok hB _ rfl fun w' hw => by rw [ev]; exact ⟨rfl, hw.box (id := 0) rfl, hw.fr⟩)
 ·have hn : ¬ i < 0 := of_decide_eq_false hq
  have htl : ((headOf r.s).take i.toNat).length ≤ 1000 := by simp; omega
  repeat refine zq ?_
  refine zr ?_; conv => whnf
  refine ⟨Int.le_refl _, ?_⟩; conv => whnf
  refine ⟨by omega, ?_⟩; conv => whnf
  refine ⟨by omega, ?_⟩; conv => whnf
  simp only [Int.toNat_zero, List.drop_zero]
  cases hv : Lib.atoiAll ((headOf r.s).take i.toNat)
  ·rename_i n
   have hb' := Lib.atoiAll_bounds hv
   refine ans_call b197 rfl (fun w' hw => atoi_ok _ n htl hv w') ?_; conv => whnf
   repeat refine zq ?_
   refine At.draw tab_ok mixed (by kernel_rfl) ?_; conv => whnf
   refine ⟨rS (Lib.itoa n), by simp only [gimp]; intro _; exact ans_quiet b100 (fun w' hw => itoa_c n hb' w' (hG' _ hw.fr)), ?_⟩; conv => whnf
   refine ⟨by simp only [gimp]; intro _; omega, ?_⟩; conv => whnf
   refine ⟨by simp only [gimp]; intro _; omega, ?_⟩; conv => whnf
   refine ⟨by simp only [gimp]; intro _; omega, ?_⟩; conv => whnf
   repeat refine zq ?_
   refine At.cond rfl (fun hq => ?_) (fun hq => At.skip ?_)
   ·simp at hq
    have ev : numberR c least r = (0, failR) := by
     unfold numberR numberV
     simp only [hi, hn, if_false, hv]
     rw [if_pos (by exact hq)]
    repeat refine zq ?_
    refine zr ?_; conv => whnf
    refine rd_call (id := 0) (v := .tup []) (r' := failR) b140 rfl rfl (fun w' hw h => fail_c b r w' h) ?_; conv => whnf
    repeat refine zq ?_
    refine zr ?_; conv => whnf
    repeat refine zq ?_
    refine At.ret (At.doneB tab_ok hB _ rfl fun w' hw => by rw [ev]; exact ⟨rfl, hw.box (id := 0) rfl, hw.fr⟩)
   ·simp at hq
    have hlt : i + 1 ≤ r.s.length := by
     have : (headOf r.s).length ≤ r.s.length := by unfold headOf; simp; omega
     omega
    have ev : numberR c least r = (n, ⟨r.s.drop (i + 1).toNat, r.bad⟩) := by
     unfold numberR numberV
     simp only [hi, hn, if_false, hv]
     rw [if_neg (by simp only [not_or, Decidable.not_not]; exact ⟨hq.1, by omega⟩)]
    repeat refine zq ?_
    refine zr ?_; conv => whnf
    refine ⟨⟨by omega, by omega⟩, ?_⟩; conv => whnf
    refine ⟨by omega, ?_⟩; conv => whnf
    refine ⟨hlt, ?_⟩; conv => whnf
    refine ⟨Int.le_refl _, ?_⟩; conv => whnf
    repeat refine zq ?_
    refine zr ?_; conv => whnf
    repeat refine zq ?_
    refine At.ret (At.doneB tab_ok hB _ rfl fun w' hw => ?_)
    rw [ev]
    refine ⟨rfl, ?_, hw.fr⟩
    have := hw.box (id := 0) rfl
    simp only [Int.toNat_natCast, List.take_length] at this
    exact this
  ·skip
   have ev : numberR c least r = (0, failR) := by
    unfold numberR numberV
    simp only [hi, hn, if_false, hv]
   refine ansP_call b197 (fun w' hw => atoi_bad _ htl (fun v h => by rw [hv] at h; cases h) w' (hG' _ hw.fr)) ?_
   rintro _ ⟨n, t, u, rfl⟩ _
   conv => whnf
   repeat refine zq ?_
   refine At.draw tab_ok mixed (by kernel_rfl) ?_; conv => whnf
   refine ⟨rS [], (by simp only [gimp]; intro h; cases h), ?_⟩; conv => whnf
   refine ⟨(by simp only [gimp]; intro h; cases h), ?_⟩; conv => whnf
   refine ⟨(by simp only [gimp]; intro h; cases h), ?_⟩; conv => whnf
   refine ⟨(by simp only [gimp]; intro h; cases h), ?_⟩; conv => whnf
   repeat refine zq ?_
   refine At.cond rfl (fun hq => ?_) (fun hq => by simp at hq)
   repeat refine zq ?_
   refine zr ?_; conv => whnf
   refine rd_call (id := 0) (v := .tup []) (r' := failR) b140 rfl rfl (fun w' hw h => fail_c b r w' h) ?_; conv => whnf
   repeat refine zq ?_
   refine zr ?_; conv => whnf
   repeat refine zq ?_
   refine At.ret (At.doneB tab_ok hB _ rfl fun w' hw => by rw [ev]; exact ⟨rfl, hw.box (id := 0) rfl, hw.fr⟩)
  ·skip
   have ev : numberR c least r = (0, failR) := by
    unfold numberR numberV
    simp only [hi, hn, if_false, hv]
   refine ansP_call b197 (fun w' hw => atoi_bad _ htl (fun v h => by rw [hv] at h; cases h) w' (hG' _ hw.fr)) ?_
   rintro _ ⟨n, t, u, rfl⟩ _
   conv => whnf
   repeat refine zq ?_
   refine At.draw tab_ok mixed (by kernel_rfl) ?_; conv => whnf
   refine ⟨rS [], (by simp only [gimp]; intro h; cases h), ?_⟩; conv => whnf
   refine ⟨(by simp only [gimp]; intro h; cases h), ?_⟩; conv => whnf
   refine ⟨(by simp only [gimp]; intro h; cases h), ?_⟩; conv => whnf
   refine ⟨(by simp only [gimp]; intro h; cases h), ?_⟩; conv => whnf
   repeat refine zq ?_
   refine At.cond rfl (fun hq => ?_) (fun hq => by simp at hq)
   repeat refine zq ?_
   refine zr ?_; conv => whnf
   refine rd_call (id := 0) (v := .tup []) (r' := failR) b140 rfl rfl (fun w' hw h => fail_c b r w' h) ?_; conv => whnf
   repeat refine zq ?_
   refine zr ?_; conv => whnf
   repeat refine zq ?_
   refine At.ret (At.doneB tab_ok hB _ rfl fun w' hw => by rw [ev]; exact ⟨rfl, hw.box (id := 0) rfl, hw.fr⟩)
theorem close_c (p : List UInt8) (b : Nat) (r : Rd) (w : World) (h : RdAt w b r) : RdF 141 [ptr b, sv p] b (.tup []) (closeR p r) w := by
 refine calls_atB [.s (.c (.p 0 b 0)), rS p] [(0, rdO b r)] [b] Tryz.func141 rfl rfl (Nat.le_of_ble_eq_true rfl) (WF.objs (rd_enter h) ⟨⟨_, _, rfl⟩, trivial⟩ trivial) (rd_enter h) fun B hB => ?_
 repeat refine zq ?_
 refine zr ?_; conv => whnf
 refine ans_call b198 rfl (fun w' hw => cutPrefix_c r.s p w') ?_; conv => whnf
 repeat refine zq ?_
 refine zr ?_; conv => whnf
 repeat refine zq ?_
 refine zr ?_; conv => whnf
 repeat refine zq ?_
 refine At.cond rfl (fun hq => ?_) (fun hq => At.skip ?_)
 ·have hn : Lib.hasPrefix r.s p = false := by simpa using hq
  have ev : closeR p r = failR := by unfold closeR; rw [hn]; rfl
  repeat refine zq ?_
  refine zr ?_; conv => whnf
  refine rd_call (id := 0) (v := .tup []) (r' := failR) b140 rfl rfl (fun w' hw h => fail_c b ⟨Lib.trimPrefix r.s p, r.bad⟩ w' h) ?_; conv => whnf
  refine At.doneN tab_ok hB _ rfl fun w' hw => by rw [ev]; exact ⟨rfl, hw.box (id := 0) rfl, hw.fr⟩
 ·have hn : Lib.hasPrefix r.s p = true := by simpa using hq
  have ev : closeR p r = ⟨Lib.trimPrefix r.s p, r.bad⟩ := by unfold closeR; rw [hn]; rfl
  refine At.doneN tab_ok hB _ rfl fun w' hw => by rw [ev]; exact ⟨rfl, hw.box (id := 0) rfl, hw.fr⟩
end Go.Proofs.YtdigebokbhmfaaaGreatDoor
namespace Go.Proofs.YtdigebokbhmfaaaGreatDoor
open Go.Vc Go.Bs
theorem Gl.rd {w w' : World} {b : Nat} (hG : Gl w) (hb : 8 ≤ b) (hf : Fr [b] w w') : Gl w' := hG.fr hf (fun x hx => by simp only [List.mem_singleton] at hx; omega)
theorem rnum_c (b : Nat) (r : Rd) (w : World) (h : RdAt w b r) (hG : Gl w) (hb : 8 ≤ b) : RdF 84 [ptr b] b (.i (numR r).1) (numR r).2 w := by
 refine calls_atB [.s (.c (.p 0 b 0))] [(0, rdO b r)] [b] Tryz.func84 rfl rfl (Nat.le_of_ble_eq_true rfl) (WF.objs (rd_enter h) ⟨⟨_, _, rfl⟩, trivial⟩ trivial) (rd_enter h) fun B hB => ?_
 repeat refine zq ?_
 refine zr ?_; conv => whnf
 repeat refine zq ?_
 refine zr ?_; conv => whnf
 refine rd_call (id := 0) (v := .i (numR r).1) (r' := (numR r).2) b138 rfl rfl (fun w' hw h => number_c 59 0 b r w' h (hG.rd hb hw.fr) hb) ?_; conv => whnf
 repeat refine zq ?_
 refine At.ret (At.doneB tab_ok hB _ rfl fun w' hw => ⟨rfl, hw.box (id := 0) rfl, hw.fr⟩)
theorem rint_c (b : Nat) (r : Rd) (w : World) (h : RdAt w b r) (hG : Gl w) (hb : 8 ≤ b) : RdF 86 [ptr b] b (.i (intR r).1) (intR r).2 w := by
 refine calls_atB [.s (.c (.p 0 b 0))] [(0, rdO b r)] [b] Tryz.func86 rfl rfl (Nat.le_of_ble_eq_true rfl) (WF.objs (rd_enter h) ⟨⟨_, _, rfl⟩, trivial⟩ trivial) (rd_enter h) fun B hB => ?_
 repeat refine zq ?_
 refine zr ?_; conv => whnf
 repeat refine zq ?_
 refine zr ?_; conv => whnf
 refine rd_call (id := 0) (v := .i (intR r).1) (r' := (intR r).2) b138 rfl rfl (fun w' hw h => number_c 59 (-9223372036854775808) b r w' h (hG.rd hb hw.fr) hb) ?_; conv => whnf
 repeat refine zq ?_
 refine At.ret (At.doneB tab_ok hB _ rfl fun w' hw => ⟨rfl, hw.box (id := 0) rfl, hw.fr⟩)
theorem rtext_c (b : Nat) (r : Rd) (w : World) (h : RdAt w b r) (hG : Gl w) (hb : 8 ≤ b) : RdF 88 [ptr b] b (rS (textR r).1) (textR r).2 w := by
 have hnb := (numberR_bd 58 r (least := 0) (by decide))
 have hn0 := hnb.2 (Int.le_refl _)
 generalize hx : numberR 58 0 r = x at hnb hn0
 obtain ⟨n, r1⟩ := x
 simp only at hnb hn0
 refine calls_atB [.s (.c (.p 0 b 0))] [(0, rdO b r)] [b] Tryz.func88 rfl rfl (Nat.le_of_ble_eq_true rfl) (WF.objs (rd_enter h) ⟨⟨_, _, rfl⟩, trivial⟩ trivial) (rd_enter h) fun B hB => ?_
 repeat refine zq ?_
 refine zr ?_; conv => whnf
 repeat refine zq ?_
 refine zr ?_; conv => whnf
 refine rd_call (id := 0) (v := .i n) (r' := r1) b138 rfl rfl (fun w' hw h => by have := number_c 58 0 b r w' h (hG.rd hb hw.fr) hb; rw [hx] at this; exact this) ?_; conv => whnf
 repeat refine zq ?_
 refine zr ?_; conv => whnf
 repeat refine zq ?_
 refine At.cond rfl (fun hq => ?_) (fun hq => At.skip ?_)
 ·have hn : (r1.s.length : Int) < n := of_decide_eq_true hq
  have ev : textR r = ([], failR) := by unfold textR; rw [hx]; simp only; rw [if_pos (by omega)]
  repeat refine zq ?_
  refine zr ?_; conv => whnf
  refine rd_call (id := 0) (v := .tup []) (r' := failR) b140 rfl rfl (fun w' hw h => fail_c b r1 w' h) ?_; conv => whnf
  repeat refine zq ?_
  refine zr ?_; conv => whnf
  repeat refine zq ?_
  refine At.ret (At.doneB tab_ok hB _ rfl fun w' hw => by rw [ev]; exact ⟨rfl, hw.box (id := 0) rfl, hw.fr⟩)
 ·have hn : ¬ (r1.s.length : Int) < n := of_decide_eq_false hq
  repeat refine zq ?_
  refine zr ?_; conv => whnf
  refine ⟨Int.le_refl _, ?_⟩; conv => whnf
  refine ⟨hn0, ?_⟩; conv => whnf
  refine ⟨by omega, ?_⟩; conv => whnf
  repeat refine zq ?_
  refine zr ?_; conv => whnf
  refine ⟨hn0, ?_⟩; conv => whnf
  refine ⟨by omega, ?_⟩; conv => whnf
  refine ⟨Int.le_refl _, ?_⟩; conv => whnf
  refine At.reshapeH fun w' hw => ⟨{ N := Tryz.f88.ntmps, sl := [(0, some (.s (.c (.p 0 b 0)))), (4, some (rS (r1.s.take n.toNat)))], gl := [], hp := [(0, rdO b ⟨r1.s.drop n.toNat, r1.bad⟩)], S := [b], ws := w }, Le.of rfl rfl ⟨rfl, rfl, trivial⟩, ?_, ⟨⟨_, _, rfl⟩, trivial⟩, trivial, ?_⟩
  ·refine hw.keep [0] ?_ rfl rfl
   show [(0, rdO b _)] = [(0, LO.box b 212 _)]
   simp
  repeat refine zq ?_
  refine zr ?_; conv => whnf
  refine rd_call (id := 0) (v := .tup []) (r' := closeR [44] ⟨r1.s.drop n.toNat, r1.bad⟩) b141 rfl rfl (fun w' hw h => close_c [44] b _ w' h) ?_; conv => whnf
  have ev : textR r = if (closeR [44] ⟨r1.s.drop n.toNat, r1.bad⟩).bad then ([], closeR [44] ⟨r1.s.drop n.toNat, r1.bad⟩) else (r1.s.take n.toNat, closeR [44] ⟨r1.s.drop n.toNat, r1.bad⟩) := by
   unfold textR; rw [hx]; simp only; rw [if_neg (by omega)]
  generalize closeR [44] ⟨r1.s.drop n.toNat, r1.bad⟩ = r2 at ev ⊢
  repeat refine zq ?_
  refine zr ?_; conv => whnf
  repeat refine zq ?_
  refine At.cond rfl (fun hq => ?_) (fun hq => At.skip ?_)
  ·repeat refine zq ?_
   refine zr ?_; conv => whnf
   repeat refine zq ?_
   refine At.ret (At.doneB tab_ok hB _ rfl fun w' hw => by rw [ev, if_pos hq]; exact ⟨rfl, hw.box (id := 0) rfl, hw.fr⟩)
  ·repeat refine zq ?_
   refine zr ?_; conv => whnf
   repeat refine zq ?_
   refine At.ret (At.doneB tab_ok hB _ rfl fun w' hw => by rw [ev, if_neg (by rw [hq]; decide)]; exact ⟨rfl, hw.box (id := 0) rfl, hw.fr⟩)
theorem left_c (b : Nat) (r : Rd) (w : World) (h : RdAt w b r) : RdF 87 [ptr b] b (.i r.s.length) r w := by
 refine calls_atB [.s (.c (.p 0 b 0))] [(0, rdO b r)] [b] Tryz.func87 rfl rfl (Nat.le_of_ble_eq_true rfl) (WF.objs (rd_enter h) ⟨⟨_, _, rfl⟩, trivial⟩ trivial) (rd_enter h) fun B hB => ?_
 repeat refine zq ?_
 refine zr ?_; conv => whnf
 repeat refine zq ?_
 refine zr ?_; conv => whnf
 repeat refine zq ?_
 refine At.ret (At.doneB tab_ok hB _ rfl fun w' hw => ⟨rfl, hw.box (id := 0) rfl, hw.fr⟩)
theorem done_c (b : Nat) (r : Rd) (w : World) (h : RdAt w b r) : RdF 89 [ptr b] b (.b (!r.bad && decide (r.s = []))) r w := by
 refine calls_atB [.s (.c (.p 0 b 0))] [(0, rdO b r)] [b] Tryz.func89 rfl rfl (Nat.le_of_ble_eq_true rfl) (WF.objs (rd_enter h) ⟨⟨_, _, rfl⟩, trivial⟩ trivial) (rd_enter h) fun B hB => ?_
 repeat refine zq ?_
 refine zr ?_; conv => whnf
 repeat refine zq ?_
 refine zr ?_; conv => whnf
 repeat refine zq ?_
 refine At.ret (At.doneB tab_ok hB _ rfl fun w' hw => ⟨by simp [RV.den, SV.den, CV.den, band], hw.box (id := 0) rfl, hw.fr⟩)
@[reducible] def encI (n : Int) : List CV := [.i n]
theorem nopI (xs : List Int) : NoP (xs.map encI) := NoP.map (fun _ => rfl) xs
def RdS (f : FuncId) (args : List Value) (b : Nat) (xs : List Int) (r' : Rd) (w : World) : Prop :=
 Calls Tryz.prog f args.toArray w (fun e w' => ∃ v, e = .returned v ∧ RdAt w' b r' ∧ (LO.row v 3 1 (xs.map encI)).holds w' ∧ (∀ x ∈ blkOf v, w.heap.size ≤ x) ∧ Fr [b] w w')
theorem rds_call {st : St} {d : Option Nat} {K : St → Prop} {id b : Nat} {f : FuncId} {args : List Value} {r r' : Rd} {xs : List Int} (hb : Body Tryz.prog f) (hl : Vc.look st.hp id = some (rdO b r))
  (h : ∀ w, Holds st w → RdAt w b r → RdS f args b xs r' w)
  (hk : ∀ v : Value, hpSetK st.hp id (rdO b r') (fun hp => st.withHp hp (fun st' => st'.pushK (.row v 3 1 (xs.map encI)) (fun n st'' => goPut st'' d (.s (.c (.o n v))) K)))) : UCall Tryz.prog st f args d K :=
 .inl ⟨hb, fun hwf w hw => (h w hw (hw.box hl)).mono fun e w' ⟨v, he, h1, h2, h3, h4⟩ => by
  have hk' := hk v
  rw [hpSetK_eq] at hk'
  replace hk' : (st.setHp (hpSet st.hp id (rdO b r'))).pushK (.row v 3 1 (xs.map encI)) (fun n st'' => goPut st'' d (.s (.c (.o n v))) K) := hk'
  rw [pushK_eq] at hk'
  have hw1 : Holds (st.setHp (hpSet st.hp id (rdO b r'))) w' := hw.setG hl h4 h1 (fun x hx => .inl hx)
  have hwf1 : WF (st.setHp (hpSet st.hp id (rdO b r'))) := hwf.setO hl stays_box (fun c hc => by
   simp only [List.mem_cons, List.not_mem_nil, or_false] at hc
   rcases hc with rfl | rfl <;> trivial)
  have hlt := hw.blk_lt
  refine ⟨.s (.c (.o (nid (st.setHp (hpSet st.hp id (rdO b r'))).hp) v)), (st.setHp (hpSet st.hp id (rdO b r'))).push (.row v 3 1 (xs.map encI)), he, ?_, hwf1.push (show LOok _ (.row v 3 1 (xs.map encI)) from ⟨rows_some h2, (nopI xs).ok⟩), ownsAt_slice h2.1, hw1.pushO h2 (fun x hx => ⟨fun hm => ?_, .inr (Nat.le_trans hw.fr.size (h3 x hx))⟩), hk'⟩
  ·exact ⟨rfl, rfl, rfl, rfl⟩
  ·have hm' : x ∈ st.blks := by
    unfold St.blks at hm ⊢
    obtain ⟨o, ho, hx'⟩ := List.mem_flatMap.1 hm
    rcases mem_hpSet ho with e | ho
    ·subst e
     exact List.mem_flatMap.2 ⟨_, look_mem hl, hx'⟩
    ·exact List.mem_flatMap.2 ⟨o, ho, hx'⟩
   have := hlt x hm'
   have := h3 x hx
   omega⟩
end Go.Proofs.YtdigebokbhmfaaaGreatDoor
namespace Go.Proofs.YtdigebokbhmfaaaGreatDoor
open Go.Vc Go.Bs
theorem open_c (s : List UInt8) (w : World) : Calls Tryz.prog 83 #[sv s] w (fun e w' => ∃ b, e = .returned (ptr b) ∧ RdAt w' b ⟨s, false⟩ ∧ w.heap.size ≤ b ∧ Ext w w') := by
 refine calls_plainB [rS s] Tryz.func83 rfl rfl (Nat.le_of_ble_eq_true rfl) rfl fun B hB => ?_
 repeat refine zq ?_
 refine zr ?_; conv => whnf
 repeat refine zq ?_
 refine zr ?_; conv => whnf
 intro b; conv => whnf
 repeat refine zq ?_
 refine At.ret (At.doneB tab_ok hB _ rfl fun w' hw => ⟨b, rfl, hw.box (id := 0) rfl, ?_, hw.fr⟩)
 rcases hw.fresh (id := 0) rfl b (by simp [LO.blks]) with h | h
 ·cases h
 ·exact h
theorem _root_.Go.Vc.Holds.newOf {st : St} {w : World} (h : Holds st w) {i j : Nat} {o o' : LO} (hi : Vc.look st.hp i = some o) (hj : Vc.look st.hp j = some o') (hne : i ≠ j) (hS : o'.blks = st.S) : ∀ x ∈ o.blks, st.ws.heap.size ≤ x := fun x hx =>
 (h.fresh hi x hx).elim (fun hm => absurd (hS ▸ hm) (h.apart hi hj hne x hx)) id
theorem items_c (b : Nat) (r : Rd) (w : World) (h : RdAt w b r) (hG : Gl w) (hb : 8 ≤ b) (hl : r.s.length ≤ 1000000000) : RdS 139 [ptr b, .func (.func 86) #[ptr b] #[]] b (numsR r).1 (numsR r).2 w := by
 have hnb := (numberR_bd 91 r (least := 0) (by decide))
 have hn0 := hnb.2 (Int.le_refl _)
 have hrl := numberR_len 91 0 r
 generalize hx : numberR 91 0 r = x at hnb hn0 hrl
 obtain ⟨n0, r1⟩ := x
 simp only at hnb hn0 hrl
 refine calls_atB [.s (.c (.p 0 b 0)), .x (.func (.func 86) #[ptr b] #[])] [(0, rdO b r)] [b] Tryz.func139 rfl rfl (Nat.le_of_ble_eq_true rfl) (WF.objs (rd_enter h) ⟨⟨_, _, rfl⟩, trivial⟩ trivial) (rd_enter h) fun B hB => ?_
 repeat refine zq ?_
 refine zr ?_; conv => whnf
 repeat refine zq ?_
 refine zr ?_; conv => whnf
 repeat refine zq ?_
 refine zr ?_; conv => whnf
 refine rd_call (id := 0) (v := .i n0) (r' := r1) b138 rfl rfl (fun w' hw h => by have := number_c 91 0 b r w' h (hG.rd hb hw.fr) hb; rw [hx] at this; exact this) ?_; conv => whnf
 repeat refine zq ?_
 refine At.block ?_
 refine At.loopH (fun p' : Nat × List Int × Rd × Value => { N := Tryz.f139.ntmps, sl := [(0, some (.s (.c (.p 0 b 0)))), (1, some (.x ((.func (.func 86) #[ptr b] #[])))), (5, some (.s (.c (.o 1 p'.2.2.2)))), (6, some (.i p'.1))], gl := [], hp := [(1, .row p'.2.2.2 3 1 (p'.2.1.map encI)), (0, rdO b p'.2.2.1)], S := [b], ws := w }) (fun p' : Nat × List Int × Rd × Value => itemsL p'.1 p'.2.1 p'.2.2.1 = itemsL n0.toNat [] r1 ∧ (p'.2.2.1.bad = false → p'.2.1.length + p'.2.2.1.s.length ≤ r1.s.length) ∧ p'.2.1.length ≤ r1.s.length + 1 ∧ (p'.1 : Int) ≤ n0) (fun p' : Nat × List Int × Rd × Value => p'.1)
  (fun w' hw => ⟨(n0.toNat, [], r1, .slice none 0 0), ⟨rfl, fun _ => by simp, by simp, by simp only; omega⟩, Le.of rfl rfl ⟨rfl, rfl, rfl, congrArg (Value.int .i64) (by simp only; omega), trivial⟩, hw.nil rfl rfl rfl, ⟨⟨_, _, rfl⟩, ⟨_, _, _, rfl⟩, trivial⟩, ⟨(nopI _).okH, trivial⟩⟩) ?_
 rintro ⟨k, out, r2, vo⟩ ⟨hI, hI2, hI3, hI4⟩
 simp only at hI hI2 hI3 hI4 ⊢
 repeat refine zq ?_
 refine zr ?_; conv => whnf
 repeat refine zq ?_
 refine At.cond rfl (fun hc => At.skip ?_) (fun hc => At.exit ?_)
 ·simp at hc
  obtain ⟨hk, hbad⟩ := hc
  obtain ⟨k, rfl⟩ : ∃ k', k = k' + 1 := ⟨k - 1, by omega⟩
  have hI2 := hI2 hbad
  have hbd := numberR_bd 59 r2 (least := -9223372036854775808) (by decide)
  have hlo : (intR r2).2.bad = false → (intR r2).2.s.length < r2.s.length := by
   unfold intR numberR
   cases hv : numberV 59 (-9223372036854775808) r2.s with
   | some x => obtain ⟨n, t⟩ := x; intro _; exact (numberV_len hv).1
   | none => intro h; cases h
  have hst : itemsL (k + 1) out r2 = itemsL k (out ++ [(intR r2).1]) (intR r2).2 := by
   show (if r2.bad then (out, r2) else _) = _
   rw [hbad]; rfl
  repeat refine zq ?_
  refine At.block ?_
  repeat refine zq ?_
  refine zr ?_; conv => whnf
  refine rd_call (id := 0) (v := .i (intR r2).1) (r' := (intR r2).2) b86 rfl rfl (fun w' hw h => rint_c b r2 w' h (hG.rd hb hw.fr) hb) ?_; conv => whnf
  intro v4; conv => whnf
  refine ⟨rfl, ?_⟩; conv => whnf
  refine ⟨⟨rfl, by simp; omega⟩, ?_⟩; conv => whnf
  intro v5; conv => whnf
  repeat refine zq ?_
  refine zr ?_; conv => whnf
  refine ⟨⟨by omega, by omega⟩, ?_⟩; conv => whnf
  refine At.nextH fun w' hw => ⟨(k, out ++ [(intR r2).1], (intR r2).2, v5), ⟨by rw [← hst]; exact hI, fun h => by have := hlo h; simp; omega, by simp; omega, by simp only; omega⟩, by simp only; omega, Le.of rfl rfl ⟨rfl, rfl, rfl, congrArg (Value.int .i64) (by simp only; omega), trivial⟩, hw.keep [1, 0] ?_ rfl rfl, ⟨⟨_, _, rfl⟩, ⟨_, _, _, rfl⟩, trivial⟩, ⟨(nopI _).okH, trivial⟩⟩
  simp only [List.map_append]; rfl
 ·simp at hc
  have hst : itemsL n0.toNat [] r1 = (out, r2) := by
   rw [← hI]
   cases k with
   | zero => rfl
   | succ k =>
    have : r2.bad = true := by cases hb2 : r2.bad with
     | true => rfl
     | false => exact absurd (hc (by omega)) (by simp [hb2])
    unfold itemsL; rw [this]; rfl
  have ev : numsR r = if (closeR [93] r2).bad then ([], closeR [93] r2) else (out, closeR [93] r2) := by
   unfold numsR; rw [hx]; simp only; rw [hst]
  repeat refine zq ?_
  refine zr ?_; conv => whnf
  refine rd_call (id := 0) (v := .tup []) (r' := closeR [93] r2) b141 rfl rfl (fun w' hw h => close_c [93] b r2 w' h) ?_; conv => whnf
  generalize closeR [93] r2 = r3 at ev ⊢
  repeat refine zq ?_
  refine zr ?_; conv => whnf
  repeat refine zq ?_
  refine At.cond rfl (fun hq => ?_) (fun hq => At.skip ?_)
  ·repeat refine zq ?_
   refine zr ?_; conv => whnf
   repeat refine zq ?_
   refine At.ret (At.doneB tab_ok hB _ rfl fun w' hw => by rw [ev, if_pos hq]; exact ⟨_, rfl, hw.box (id := 0) rfl, nil_holds, fun x hx => absurd (show x ∈ [] from hx) List.not_mem_nil, hw.fr⟩)
  ·repeat refine zq ?_
   refine zr ?_; conv => whnf
   repeat refine zq ?_
   refine At.ret (At.doneB tab_ok hB _ rfl fun w' hw => by rw [ev, if_neg (by rw [hq]; decide)]; exact ⟨_, rfl, hw.box (id := 0) rfl, hw.row (id := 1) rfl, hw.newOf (i := 1) (j := 0) rfl rfl (by decide) rfl, hw.fr⟩)
theorem nums_r (b : Nat) (r : Rd) (w : World) (h : RdAt w b r) (hG : Gl w) (hb : 8 ≤ b) (hl : r.s.length ≤ 1000000000) : RdS 85 [ptr b] b (numsR r).1 (numsR r).2 w := by
 refine calls_atB [.s (.c (.p 0 b 0))] [(0, rdO b r)] [b] Tryz.func85 rfl rfl (Nat.le_of_ble_eq_true rfl) (WF.objs (rd_enter h) ⟨⟨_, _, rfl⟩, trivial⟩ trivial) (rd_enter h) fun B hB => ?_
 repeat refine zq ?_
 refine zr ?_; conv => whnf
 repeat refine zq ?_
 refine zr ?_; conv => whnf
 refine rds_call (id := 0) (xs := (numsR r).1) (r' := (numsR r).2) b139 rfl (fun w' hw h => items_c b r w' h (hG.rd hb hw.fr) hb hl) ?_
 intro v; conv => whnf
 repeat refine zq ?_
 refine At.ret (At.doneB tab_ok hB _ rfl fun w' hw => ⟨_, rfl, hw.box (id := 0) rfl, hw.row (id := 1) rfl, hw.newOf (i := 1) (j := 0) rfl rfl (by decide) rfl, hw.fr⟩)
end Go.Proofs.YtdigebokbhmfaaaGreatDoor
namespace Rt
structure Span where
 m : Int
 f : Int
 t : Int
theorem Span.ext' {a b : Span} (h1 : a.m = b.m) (h2 : a.f = b.f) (h3 : a.t = b.t) : a = b := by cases a; cases b; simp_all
instance : DecidableEq Span := fun a b => if h : a.m = b.m ∧ a.f = b.f ∧ a.t = b.t then .isTrue (Span.ext' h.1 h.2.1 h.2.2) else .isFalse fun e => h (by subst e; exact ⟨rfl, rfl, rfl⟩)
instance : Inhabited Span := ⟨⟨0, 0, 0⟩⟩
structure Lot where
 s : Span
 o : Int
 h : Int
 u : Int
 p : Int
theorem Lot.ext' {a b : Lot} (h1 : a.s = b.s) (h2 : a.o = b.o) (h3 : a.h = b.h) (h4 : a.u = b.u) (h5 : a.p = b.p) : a = b := by cases a; cases b; simp_all
instance : DecidableEq Lot := fun a b => if h : a.s = b.s ∧ a.o = b.o ∧ a.h = b.h ∧ a.u = b.u ∧ a.p = b.p then .isTrue (Lot.ext' h.1 h.2.1 h.2.2.1 h.2.2.2.1 h.2.2.2.2) else .isFalse fun e => h (by subst e; exact ⟨rfl, rfl, rfl, rfl, rfl⟩)
instance : Inhabited Lot := ⟨⟨default, 0, 0, 0, 0⟩⟩
structure Deed where
 mark : Int
 kind : Int
 author : Int
 who : Int
 day : Int
 til : Int
 spans : List Span
instance : Inhabited Deed := ⟨⟨0, 0, 0, 0, 0, 0, []⟩⟩
def isMark (n : Int) : Bool := decide (0 ≤ n) && decide (n ≤ 1073741824)
def valid (s : Span) : Bool := isMark s.m && (decide (0 ≤ s.f) && (decide (s.f < s.t) && decide (s.t ≤ 1048576)))
def okAt (l : List Span) (i : Nat) : Bool :=
 match l[i]? with
 | none => false
 | some s => valid s && (i == 0 || (match l[i - 1]? with
  | none => false
  | some r => !(decide (s.m < r.m) || (decide (r.m = s.m) && decide (s.f ≤ r.t)))))
def normal (l : List Span) : Bool := (List.range l.length).all (okAt l)
def join (out : List Span) (s : Span) : List Span :=
 match out.getLast? with
 | none => out ++ [s]
 | some r => if r.m = s.m ∧ s.f ≤ r.t then out.dropLast ++ [⟨r.m, r.f, max r.t s.t⟩] else out ++ [s]
end Rt
namespace Go.Proofs.YtdigebokbhmfaaaGreatDoor
open Go.Vc Rt Go.Bs
def encS (s : Span) : List CV := [.i s.m, .i s.f, .i s.t]
def spT : Ty Span := flat 3 encS (fun _ => rfl)
theorem encS_ints (s : Span) : intsOnly (encS s) = true := rfl
theorem nopS (xs : List Span) : NoP (xs.map encS) := NoP.map (fun _ => rfl) xs
def vS (s : Span) : Value := .agg #[.int .i64 s.m, .int .i64 s.f, .int .i64 s.t]
end Go.Proofs.YtdigebokbhmfaaaGreatDoor
namespace Go.Proofs.YtdigebokbhmfaaaGreatDoor
open Go.Vc Rt Go.Bs
theorem mark_c (n : Int) (w : World) : Ans Tryz.prog 94 [vI n] (.b (isMark n)) w := by
 refine calls_plainB [.i n] Tryz.func94 rfl rfl (Nat.le_of_ble_eq_true rfl) rfl fun B hB => ?_
 repeat refine zq ?_
 refine zr ?_; conv => whnf
 repeat refine zq ?_
 refine zr ?_; conv => whnf
 repeat refine zq ?_
 refine At.ret (At.doneB tab_ok hB _ rfl fun w' hw => ⟨?_, hw.fr⟩)
 simp only [RV.den, SV.den, CV.den, band, isMark]
theorem isKey_c (n : Int) (w : World) : Ans Tryz.prog 90 [vI n] (.b (decide (0 ≤ n) && decide (n < 200))) w := by
 refine calls_plainB [.i n] Tryz.func90 rfl rfl (Nat.le_of_ble_eq_true rfl) rfl fun B hB => ?_
 repeat refine zq ?_
 refine zr ?_; conv => whnf
 repeat refine zq ?_
 refine zr ?_; conv => whnf
 repeat refine zq ?_
 refine At.ret (At.doneB tab_ok hB _ rfl fun w' hw => ⟨?_, hw.fr⟩)
 simp only [RV.den, SV.den, CV.den, band]
theorem valid_c (s : Span) (w : World) : Ans Tryz.prog 143 [vS s] (.b (valid s)) w := by
 refine calls_plainB [.s (.agg (encS s))] Tryz.func143 rfl rfl (Nat.le_of_ble_eq_true rfl) rfl fun B hB => ?_
 repeat refine zq ?_
 refine zr ?_; conv => whnf
 intro b; conv => whnf
 repeat refine zq ?_
 refine zr ?_; conv => whnf
 refine ans_call b94 rfl (fun w _ => mark_c s.m w) ?_; conv => whnf
 repeat refine zq ?_
 refine At.ret (At.doneB tab_ok hB _ rfl fun w' hw => ⟨?_, hw.fr⟩)
 simp only [RV.den, SV.den, CV.den, band, valid, Bool.and_assoc]
end Go.Proofs.YtdigebokbhmfaaaGreatDoor
namespace Go.Proofs.YtdigebokbhmfaaaGreatDoor
open Go.Vc Rt Go.Bs
theorem normal_false {xs : List Span} {k : Nat} (hk : k < xs.length) (h : okAt xs k = false) : normal xs = false := by
 unfold normal
 rw [List.all_eq_false]
 exact ⟨k, List.mem_range.2 hk, by simp [h]⟩
theorem normal_true {xs : List Span} (h : ∀ j, j < xs.length → okAt xs j = true) : normal xs = true := by
 unfold normal
 rw [List.all_eq_true]
 intro k hk
 exact h k (List.mem_range.1 hk)
theorem normal_c (xs : List Span) (S : List Nat) (v : Value) (w : World) (h : SlOf spT S w v xs) : Ans Tryz.prog 95 [v] (.b (normal xs)) w := by
 replace h := h.avoid (S' := []) (fun b hb => by cases hb)
 have hsm := h.small
 refine calls_plainB [.x v] Tryz.func95 rfl rfl (Nat.le_of_ble_eq_true rfl) rfl fun B hB => ?_
 repeat refine zq ?_
 refine zr ?_; conv => whnf
 repeat refine zq ?_
 refine zr ?_; conv => whnf
 refine ⟨h.sl, ?_⟩; conv => whnf
 repeat refine zq ?_
 refine At.block ?_
 refine At.loopF (fun k : Nat => { N := Tryz.f95.ntmps, sl := [(0, some (.x v)), (5, some (.x v)), (6, some (.i xs.length)), (7, some (.i k))], gl := [], hp := [], S := [], ws := w }) (fun k => k ≤ xs.length ∧ ∀ j, j < k → okAt xs j = true) (fun k => xs.length - k)
  (fun w' hw => ⟨0, ⟨Nat.zero_le _, fun j hj => by omega⟩, Le.of rfl rfl ⟨rfl, rfl, congrArg (Value.int .i64) h.len, rfl, trivial⟩, WF.plain rfl, hw.same rfl rfl rfl⟩) ?_
 intro k ⟨hk, hall⟩
 repeat refine zq ?_
 refine zr ?_; conv => whnf
 repeat refine zq ?_
 refine At.cond rfl (fun hc => At.skip ?_) (fun hc => At.exit ?_)
 ·have hlt : k < xs.length := by simpa using hc
  obtain ⟨x, hx⟩ : ∃ x, xs[k]? = some x := ⟨_, List.getElem?_eq_getElem hlt⟩
  obtain ⟨y, hy⟩ : ∃ y, xs[k - 1]? = some y := ⟨_, List.getElem?_eq_getElem (by omega)⟩
  have hy' : ∀ {q : Int}, q = k - 1 → 0 < (k : Int) → xs[q.toNat]? = some y := fun e h0 => by rw [← hy]; congr 1; omega
  have hln := h.len
  repeat refine zq ?_
  refine At.block ?_
  repeat refine zq ?_
  refine zr ?_; conv => whnf
  refine ⟨by omega, ?_⟩; conv => whnf
  refine ⟨by rw [h.len]; omega, ?_⟩; conv => whnf
  refine ⟨encS x, fun w' hw => h.load (n := 3) hw.fr hx rfl, ?_⟩; conv => whnf
  intro b; conv => whnf
  repeat refine zq ?_
  refine At.draw tab_ok mixed (by kernel_rfl) ?_; conv => whnf
  refine ⟨.b (valid x), ans_quiet b143 (fun w _ => valid_c x w), ?_⟩; conv => whnf
  refine ⟨by simp only [gimp]; intro h1; have := of_decide_eq_true h1; exact fun _ => ⟨by omega, by omega⟩, ?_⟩; conv => whnf
  refine ⟨by simp only [gimp]; intro h1; have := of_decide_eq_true h1; exact fun _ => by omega, ?_⟩; conv => whnf
  refine ⟨by simp only [gimp]; intro h1; have := of_decide_eq_true h1; exact fun _ => by omega, ?_⟩; conv => whnf
  refine ⟨[.i y.m], by simp only [gimp]; intro h1 _ w' hw; have := of_decide_eq_true h1; exact h.loadI (n := 1) hw.fr (by omega) (hy' rfl (by omega)) rfl, ?_⟩; conv => whnf
  refine ⟨by simp only [gimp]; intro _ h1; have := of_decide_eq_true h1; exact fun _ => ⟨by omega, by omega⟩, ?_⟩; conv => whnf
  refine ⟨by simp only [gimp]; intro _ h1; have := of_decide_eq_true h1; exact fun _ => by omega, ?_⟩; conv => whnf
  refine ⟨by simp only [gimp]; intro _ h1; have := of_decide_eq_true h1; exact fun _ => by omega, ?_⟩; conv => whnf
  refine ⟨[.i y.m], by simp only [gimp]; intro _ h1 _ w' hw; have := of_decide_eq_true h1; exact h.loadI (n := 1) hw.fr (by omega) (hy' rfl (by omega)) rfl, ?_⟩; conv => whnf
  refine ⟨by simp only [gimp]; intro _ _ h1; have := of_decide_eq_true h1; exact fun _ => ⟨by omega, by omega⟩, ?_⟩; conv => whnf
  refine ⟨by simp only [gimp]; intro _ _ h1; have := of_decide_eq_true h1; exact fun _ => by omega, ?_⟩; conv => whnf
  refine ⟨by simp only [gimp]; intro _ _ h1; have := of_decide_eq_true h1; exact fun _ => by omega, ?_⟩; conv => whnf
  refine ⟨[.i y.t], by simp only [gimp]; intro _ _ h1 _ w' hw; have := of_decide_eq_true h1; exact h.loadI (n := 1) hw.fr (by omega) (hy' rfl (by omega)) rfl, ?_⟩; conv => whnf
  have hok : okAt xs k = (valid x && (k == 0 || !(decide (x.m < y.m) || (decide (y.m = x.m) && decide (x.f ≤ y.t))))) := by
   unfold okAt; rw [hx]; simp only [hy]
  repeat refine zq ?_
  refine At.cond rfl (fun hq => ?_) (fun hq => ?_)
  ·repeat refine zq ?_
   refine zr ?_; conv => whnf
   repeat refine zq ?_
   refine At.ret (At.doneB tab_ok hB _ rfl fun w' hw => ⟨?_, hw.fr⟩)
   rw [normal_false hlt]
   rw [hok]
   simp only [band, bor] at hq
   revert hq
   cases valid x <;> cases decide (x.m < y.m) <;> cases decide (y.m = x.m) <;> cases decide (x.f ≤ y.t) <;> simp <;> try omega
  ·refine At.skip ?_
   repeat refine zq ?_
   refine zr ?_; conv => whnf
   refine ⟨⟨by omega, by omega⟩, ?_⟩; conv => whnf
   refine At.next fun w' hw => ⟨k + 1, ⟨by omega, fun j hj => ?_⟩, by omega, Le.of rfl rfl ⟨rfl, rfl, rfl, rfl, trivial⟩, WF.plain rfl, hw.keep [] rfl rfl rfl⟩
   rcases Nat.lt_or_ge j k with hj' | hj'
   ·exact hall j hj'
   ·obtain rfl : j = k := by omega
    rw [hok]
    simp only [band, bor] at hq
    revert hq
    cases valid x <;> cases decide (x.m < y.m) <;> cases decide (y.m = x.m) <;> cases decide (x.f ≤ y.t) <;> simp <;> try omega
 ·have hge : k = xs.length := by simp at hc; omega
  subst hge
  repeat refine zq ?_
  refine zr ?_; conv => whnf
  repeat refine zq ?_
  refine At.ret (At.doneB tab_ok hB _ rfl fun w' hw => ⟨?_, hw.fr⟩)
  rw [normal_true hall]
end Go.Proofs.YtdigebokbhmfaaaGreatDoor
namespace Go.Proofs.YtdigebokbhmfaaaGreatDoor
open Go.Vc Rt Go.Bs
def cmpI (x y : Int) : Int := if x < y then -1 else if y < x then 1 else 0
def orI (xs : List Int) : Int := (xs.find? (fun x => decide (x ≠ 0))).getD 0
def idxOf {α : Type} (p : α → Bool) (xs : List α) : Int := match xs.findIdx? p with | some i => i | none => -1
theorem idx_some {α : Type} {p : α → Bool} {xs : List α} {k : Nat} {x : α} (hx : xs[k]? = some x) (hp : p x = true) (hall : ∀ j y, j < k → xs[j]? = some y → p y = false) : idxOf p xs = k := by
 have : xs.findIdx? p = some k := by
  rw [List.findIdx?_eq_some_iff_getElem]
  obtain ⟨hlt, e⟩ := List.getElem?_eq_some_iff.1 hx
  refine ⟨hlt, by rw [e]; exact hp, fun j hj => ?_⟩
  rw [hall j _ hj (List.getElem?_eq_getElem (by omega))]; simp
 unfold idxOf; rw [this]
theorem idx_none {α : Type} {p : α → Bool} {xs : List α} (hall : ∀ (j : Nat) y, xs[j]? = some y → p y = false) : idxOf p xs = -1 := by
 have : xs.findIdx? p = none := by
  rw [List.findIdx?_eq_none_iff]
  intro x hx
  obtain ⟨j, hj, e⟩ := List.getElem_of_mem hx
  exact hall j x (by rw [List.getElem?_eq_getElem hj, e])
 unfold idxOf; rw [this]
theorem cloneS_c (xs : List Span) (S : List Nat) (v : Value) (w : World) (h : SlOf spT S w v xs) (hB : xs.length ≤ 1000000) : AnsR Tryz.prog 46 [v] [.row 99 3 (xs.map encS)] w := by
 replace h := h.avoid (S' := []) (fun b hb => by cases hb)
 refine calls_plainB [.x v] Tryz.func46 rfl rfl (Nat.le_of_ble_eq_true rfl) rfl fun B hB => ?_
 repeat refine zq ?_
 refine zr ?_; conv => whnf
 repeat refine zq ?_
 refine zr ?_; conv => whnf
 refine ⟨h.sl, ?_⟩; conv => whnf
 repeat refine zq ?_
 refine At.cond rfl (fun hq => ?_) (fun hq => ?_)
 ·have hx : xs = [] := by
   obtain ⟨a, n, c, rfl, hnil, _⟩ := h.sl
   have hl := h.len
   cases a with
   | none => simp [slen] at hl; exact List.eq_nil_of_length_eq_zero (by omega)
   | some a => simp [isNilS] at hq
  subst hx
  repeat refine zq ?_
  refine zr ?_; conv => whnf
  repeat refine zq ?_
  refine At.ret (At.doneB tab_ok hB _ rfl fun w' hw => ansR_nil hw rfl rfl)
 ·refine At.skip ?_
  repeat refine zq ?_
  refine zr ?_; conv => whnf
  intro v1; conv => whnf
  refine ⟨xs.map encS, ⟨fun w' hw => (h.fr hw.fr).src encS_ints, nopS xs⟩, ?_⟩; conv => whnf
  refine ⟨⟨rfl, by simp; omega⟩, ?_⟩; conv => whnf
  intro v2; conv => whnf
  repeat refine zq ?_
  refine At.ret (At.doneB tab_ok hB _ rfl fun w' hw => ansR_row (id := 0) hw rfl rfl rfl)
end Go.Proofs.YtdigebokbhmfaaaGreatDoor
namespace Go.Proofs.YtdigebokbhmfaaaGreatDoor
open Go.Vc Rt Go.Bs
theorem enter_row {N : Nat} {l : List RV} {v : Value} {E size : Nat} {L : List (List CV)} {w : World} (h : (LO.row v E size L).holds w) : Holds (St.enter N l [(0, .row v E size L)] (blkOf v) w) w := by
 refine ⟨fun o ho => ?_, ?_, Fr.refl _ _, fun b hb => Or.inl ?_⟩
 ·rcases List.mem_cons.1 ho with rfl | ho
  ·exact h
  ·cases ho
 ·have : (St.enter N l [(0, .row v E size L)] (blkOf v) w).blks = (LO.row v E size L).blks := by simp [St.enter, St.blks]
  rw [this]; exact LO.nodup
 ·simpa [St.enter, St.blks, LO.blks] using hb
end Go.Proofs.YtdigebokbhmfaaaGreatDoor
namespace Go.Proofs.YtdigebokbhmfaaaGreatDoor
open Go.Vc Rt Go.Bs
end Go.Proofs.YtdigebokbhmfaaaGreatDoor
namespace Go.Bs
open Rt
structure En where
 author : Int
 seq : Int
 day : Int
 knows : List Int
 kind : Int
 circle : Int
 who : Int
 n : Int
 m : Int
 ref : Int
 keys : List Int
 spans : List Span
 text : B
instance : Inhabited En := ⟨⟨0, 0, 0, [], 0, 0, 0, 0, 0, 0, [], [], []⟩⟩
def isDayB (n : Int) : Bool := decide (0 ≤ n) && decide (n ≤ 1048576)
def isKeyB (n : Int) : Bool := decide (0 ≤ n) && decide (n < 200)
def ascAt (l : List Int) (i : Nat) : Bool :=
 match l[i - 1]?, l[i]? with
 | some x, some y => i == 0 || decide (x < y)
 | _, _ => true
def ascB (l : List Int) : Bool := (List.range l.length).all (ascAt l)
theorem ascB_false {l : List Int} {k : Nat} (hk : k < l.length) (h : ascAt l k = false) : ascB l = false := by
 unfold ascB; rw [List.all_eq_false]; exact ⟨k, List.mem_range.2 hk, by simp [h]⟩
theorem ascB_true {l : List Int} (h : ∀ j, j < l.length → ascAt l j = true) : ascB l = true := by
 unfold ascB; rw [List.all_eq_true]; intro k hk; exact h k (List.mem_range.1 hk)
def keysB (l : List Int) : Bool := decide (0 < l.length) && decide (l.length ≤ 60) && ascB l && isKeyB (l.getD 0 0) && isKeyB (l.getD (l.length - 1) 0)
def usesB : List B := [[107, 116], [99], [99], [99, 119, 110, 109], [110, 114], [119, 115], [119, 109, 115], [99, 119, 109, 114, 115], [99, 110, 109, 114], [110, 114], [99, 110, 109, 116], [114, 116], [110, 114], [114], [99, 116], [119, 110], [99, 109], [99, 107], [110, 109, 114], [110, 109, 114], [110, 109, 114]]
def useOf (e : En) : B := usesB.getD e.kind.toNat []
def hasC (s : B) (c : UInt8) : Bool := decide (0 ≤ Lib.indexByte s c)
def letters : B := [99, 119, 110, 109, 114, 107, 115, 116]
def empties (e : En) : List Bool := [decide (e.circle = 0), decide (e.who = 0), decide (e.n = 0), decide (e.m = 0), decide (e.ref = -1), decide (e.keys.length = 0), decide (e.spans.length = 0), decide (e.text = [])]
def okC (e : En) (i : Nat) : Bool := (empties e).getD i true || hasC (useOf e) (letters.getD i 0)
def plainB (e : En) : Bool := (List.range 8).all (okC e)
theorem plainB_false {e : En} {k : Nat} (hk : k < 8) (h : okC e k = false) : plainB e = false := by
 unfold plainB; rw [List.all_eq_false]; exact ⟨k, List.mem_range.2 hk, by simp [h]⟩
theorem plainB_true {e : En} (h : ∀ j, j < 8 → okC e j = true) : plainB e = true := by
 unfold plainB; rw [List.all_eq_true]; intro k hk; exact h k (List.mem_range.1 hk)
def coinsB (e : En) : Bool := decide (0 ≤ e.n) && decide (e.n ≤ 1099511627776)
def numbersB (e : En) : Bool :=
 if e.kind = 3 then (decide (1 ≤ e.n) && decide (e.n ≤ 1048576)) && isDayB e.m
 else if e.kind = 4 then (isMark e.ref && decide (1 ≤ e.n)) && decide (e.n ≤ 1048576)
 else if e.kind = 6 then isDayB e.m
 else if e.kind = 7 then isDayB e.m && (decide (e.ref = -1) || isMark e.ref)
 else if e.kind = 8 then isDayB e.m && ((coinsB e && decide (e.ref = -1)) || (decide (e.n = -1) && isMark e.ref))
 else if e.kind = 9 then isMark e.ref && coinsB e
 else if e.kind = 10 then (coinsB e && decide (0 < e.n)) && isDayB e.m
 else if e.kind = 11 ∨ e.kind = 13 then isMark e.ref
 else if e.kind = 12 then isMark e.ref && (decide (e.n = 0) || decide (e.n = 1))
 else if e.kind = 15 then isKeyB e.n && !decide (e.n = e.who)
 else if e.kind = 16 then isMark e.m && !decide (e.m = e.circle)
 else if e.kind = 18 ∨ e.kind = 19 then (isDayB e.m && isDayB e.n) && (decide (e.ref = -1) || isMark e.ref)
 else if e.kind = 20 then (isDayB e.m && isDayB e.n) && isMark e.ref
 else true
def badA (e : En) : Bool := ((((((!isKeyB e.author) || decide (e.seq < 0)) || decide (1048576 ≤ e.seq)) || !isDayB e.day) || decide (e.kind < 0)) || decide (21 ≤ e.kind)) || !plainB e
def badK (e : En) : Bool := (decide (40 < e.knows.length) || !ascB e.knows) || (decide (0 < e.knows.length) && ((!isMark (e.knows.getD 0 0)) || !isMark (e.knows.getD (e.knows.length - 1) 0)))
def badS (e : En) : Bool := ([5, 6, 7].any fun x => decide (e.kind = x)) && ((decide (e.spans.length = 0) || decide (40 < e.spans.length)) || !normal e.spans)
def badM (e : En) : Bool := ((((decide (e.kind = 0) || decide (e.kind = 17)) && !keysB e.keys) || decide (2000 < e.text.length)) || !isMark e.circle) || !isKeyB e.who
def rightB (e : En) : Bool := if badA e then false else if badK e then false else if badS e then false else if badM e then false else numbersB e
def spanS (s : Span) : B := numS s.m ++ numS s.f ++ numS s.t
def spansS (l : List Span) : B := (l.map spanS).flatten
def headS (e : En) : B := numS e.author ++ numS e.seq ++ numS e.day ++ numsS e.knows ++ numS e.kind ++ numS e.circle ++ numS e.who
def midS (e : En) : B := intS e.n ++ intS e.m ++ intS e.ref ++ numsS e.keys ++ numS e.spans.length
def entryS (e : En) : B := if rightB e then headS e ++ midS e ++ spansS e.spans ++ textS e.text else []
def iR (n : Int) : Prop := -9223372036854775808 ≤ n ∧ n ≤ 9223372036854775807
structure EnR (e : En) : Prop where
 author : iR e.author
 seq : iR e.seq
 day : iR e.day
 kind : iR e.kind
 circle : iR e.circle
 who : iR e.who
 n : iR e.n
 m : iR e.m
 ref : iR e.ref
 knows : ∀ x ∈ e.knows, iR x
 keys : ∀ x ∈ e.keys, iR x
 spans : ∀ s ∈ e.spans, iR s.m ∧ iR s.f ∧ iR s.t
 lk : e.knows.length ≤ 1000000
 ly : e.keys.length ≤ 1000000
 ls : e.spans.length ≤ 1000000
 lt : e.text.length ≤ 1000000
theorem spanS_len {s : Span} (h : iR s.m ∧ iR s.f ∧ iR s.t) : (spanS s).length ≤ 66 := by
 have h1 := numS_len h.1.1 h.1.2
 have h2 := numS_len h.2.1.1 h.2.1.2
 have h3 := numS_len h.2.2.1 h.2.2.2
 simp only [spanS, List.length_append]; omega
theorem spansS_len : ∀ {l : List Span}, (∀ s ∈ l, iR s.m ∧ iR s.f ∧ iR s.t) → (spansS l).length ≤ 66 * l.length
 | [], _ => by simp [spansS]
 | s :: l, h => by
  have h1 := spanS_len (h s (by simp))
  have h2 := spansS_len (l := l) (fun m hm => h m (by simp [hm]))
  simp only [spansS, List.map_cons, List.flatten_cons, List.length_append, List.length_cons] at h2 ⊢; omega
theorem spansS_snoc (l : List Span) (s : Span) : spansS (l ++ [s]) = spansS l ++ spanS s := by simp [spansS]
end Go.Bs
namespace Go.Proofs.YtdigebokbhmfaaaGreatDoor.Dr
open Go.Vc Rt Go.Bs Go.RowKit Go.Sort
theorem cmp_w (x y : Int) (w : World) : Calls Tryz.prog 73 #[.int .i64 x, .int .i64 y] w fun e w' => e = .returned (.int .i64 (cmpI x y)) ∧ w' = w := Tryz.cmp_Compare_int x y w
theorem mixed' : Tryz.prog.follows .mixedOrders = true := by kernel_rfl
theorem orI_step {zs : List Int} {k : Nat} (hk : k < zs.length) (h : zs.getD k 0 = 0) : orI (zs.drop k) = orI (zs.drop (k + 1)) := by
 rw [List.drop_eq_getElem_cons hk]
 have e : zs[k] = 0 := by rw [List.getD_eq_getElem?_getD, List.getElem?_eq_getElem hk] at h; exact h
 simp [orI, e]
theorem orI_hit {zs : List Int} {k : Nat} (hk : k < zs.length) (h : zs.getD k 0 ≠ 0) : orI (zs.drop k) = zs.getD k 0 := by
 rw [List.drop_eq_getElem_cons hk]
 have e : zs.getD k 0 = zs[k] := by rw [List.getD_eq_getElem?_getD, List.getElem?_eq_getElem hk]; rfl
 rw [e] at h ⊢
 unfold orI
 rw [List.find?_cons_of_pos (by simpa using h)]; rfl
set_option maxHeartbeats 1000000 in
theorem or_w (b cap len : Nat) (zs : List Int) (w : World) (hz : zs.length = len) (hl : len ≤ 100) (hc : ∀ j, j < len → w.cell? ⟨b, j, none⟩ = some (.int .i64 (zs.getD j 0))) :
  Calls Tryz.prog 72 #[.slice (some ⟨b, 0, none⟩) len cap] w fun e w' => e = .returned (.int .i64 (orI zs)) ∧ w' = w := by
 go_enter Tryz.func72, Tryz.ntmps72
 go_wp2
 go_loop [8] (fun i => ∃ k : Nat, k ≤ len ∧ i = .int .i64 k ∧ orI zs = orI (zs.drop k)) (fun i => len - (intOf i).toNat)
 case atStart => exact ⟨0, Nat.zero_le _, rfl, rfl⟩
 case round =>
  obtain ⟨k, hk, rfl, hor⟩ := hrel
  have hcell : k < len → w.cell? ⟨b, k, none⟩ = some (.int .i64 (zs.getD k 0)) := fun h => hc k h
  go_wp2
  ·rename_i h0 hw0
   have hlt : k < zs.length := by omega
   have e0 : zs.getD k 0 = zs[k] := by rw [List.getD_eq_getElem?_getD, List.getElem?_eq_getElem hlt]; rfl
   have e : zs.getD k 0 ≠ 0 := by rw [e0]; simpa using h0
   go_ret
   refine ⟨?_, rfl⟩
   rw [orI_hit hlt e, e0]; rfl
  ·rename_i h0
   have hlt : k < zs.length := by omega
   have e0 : zs.getD k 0 = zs[k] := by rw [List.getD_eq_getElem?_getD, List.getElem?_eq_getElem hlt]; rfl
   have e : zs.getD k 0 = 0 := by rw [e0]; simpa using h0
   refine ⟨⟨k + 1, by omega, by simp, by rw [hor, orI_step hlt e]⟩, by simp [intOf]; omega⟩
  ·have : k = zs.length := by omega
   go_ret
   refine ⟨?_, rfl⟩
   rw [this, List.drop_length]; rfl
theorem two_cell1 (W : World) (C1 C2 : Array Value) (T : TypeId) (j : Nat) : ((W.alloc (.cells C1 T)).alloc (.cells C2 T)).cell? ⟨W.heap.size, j, none⟩ = C1[j]? := by
 have e : ((W.alloc (.cells C1 T)).alloc (.cells C2 T)).heap[W.heap.size]? = some (.cells C1 T) := by
  show ((W.heap.push _).push _)[W.heap.size]? = _
  rw [Array.getElem?_push, if_neg (by simp), Array.getElem?_push, if_pos rfl]
 simp [World.cell?, e]
theorem two_cell2 (W : World) (C1 C2 : Array Value) (T : TypeId) (j : Nat) : ((W.alloc (.cells C1 T)).alloc (.cells C2 T)).cell? ⟨W.heap.size + 1, j, none⟩ = C2[j]? := by
 have e : ((W.alloc (.cells C1 T)).alloc (.cells C2 T)).heap[W.heap.size + 1]? = some (.cells C2 T) := by
  show ((W.heap.push _).push _)[W.heap.size + 1]? = _
  rw [Array.getElem?_push, if_pos (by simp)]
 unfold World.cell?
 simp only [e]; rfl
theorem list_value {P : Program} {ops : Array Oper} {Q : Exit → Act → World → Prop} {o : Oper} {rest : List Oper} {a : Act} {w w' : World} {v : Value} (hg : o.guard = none) (e : (execOp a.eval o).run P w = .ok (.value v) w') (h : wpList P ops Q rest (a.put o.dst v) w') : wpList P ops Q (o :: rest) a w :=
 wpList_plain hg fun K hK => by unfold Oper.wp; rw [e]; exact hK _ _ h
theorem list_call {P : Program} {ops : Array Oper} {Q : Exit → Act → World → Prop} {o : Oper} {rest : List Oper} {a : Act} {w : World} {v : Value} {f : FuncId} {args : Array Value} (hg : o.guard = none) (e : (execOp a.eval o).run P w = .ok (.enter f args) w)
  (hc : Calls P f args w (fun e w' => e = .returned v ∧ w' = w)) (h : wpList P ops Q rest (a.put o.dst v) w) : wpList P ops Q (o :: rest) a w :=
 wpList_plain hg fun K hK => by
  unfold Oper.wp; rw [e]; simp only [Oper.upon]
  exact hc.mono fun e w'' ⟨he, hw⟩ => by subst he; subst hw; exact hK _ _ h
theorem u22' : Tryz.prog.underlying 23 = some (.slice 3) := by kernel_rfl
theorem fill4 (x y z u a b c d : Value) (ha : a.cells = #[a]) (hb : b.cells = #[b]) (hc : c.cells = #[c]) (hd : d.cells = #[d]) : Instr.fill (fun k => some (k * 1, 1)) #[x, y, z, u] [(0, a), (1, b), (2, c), (3, d)] = some #[a, b, c, d] := by
 simp [Instr.fill, ha, hb, hc, hd]
theorem lit4 (c1 c2 c3 c4 : Int) (w : World) : (Instr.buildSlice 23 4 #[(0, .int .i64 c1), (1, .int .i64 c2), (2, .int .i64 c3), (3, .int .i64 c4)]).run Tryz.prog w = .ok (.slice (some ⟨w.heap.size, 0, none⟩) 4 4) (w.alloc (.cells #[.int .i64 c1, .int .i64 c2, .int .i64 c3, .int .i64 c4] 3)) := by
 obtain ⟨i, d, h1, h2, h3, h4, z, h5, h6, h7⟩ := chk_info (tab_ok 3 _ (by kernel_rfl : Vc.look tab 3 = some { kind := 6, size := 1, zero := [.i 0] }))
 replace h3 : i.size = 1 := h3
 exact run_buildSlice (P := Tryz.prog) 23 3 i u22' h1 ⟨z, h5⟩ 4 [(0, .int .i64 c1), (1, .int .i64 c2), (2, .int .i64 c3), (3, .int .i64 c4)] [.int .i64 c1, .int .i64 c2, .int .i64 c3, .int .i64 c4] w (by rw [h3]; decide) (fun cs hcs => by
  rw [h3] at hcs ⊢
  match cs, hcs with
  | ⟨[x, y, z, u]⟩, _ => exact fill4 x y z u _ _ _ _ rfl rfl rfl rfl)
def cmpN (l1 a1 q1 m1 l2 a2 q2 m2 : Int) : Int := orI [cmpI l1 l2, cmpI a1 a2, cmpI q1 q2, cmpI m1 m2]
@[reducible] def nV (key : Int) (text : List UInt8) (mark : Int) (e : En) (lv : Int) (k y s p : Value) : Array Value :=
 #[.int .i64 key, sv text, .int .i64 mark, .int .i64 e.author, .int .i64 e.seq, .int .i64 e.day, k, .int .i64 e.kind, .int .i64 e.circle, .int .i64 e.who, .int .i64 e.n, .int .i64 e.m, .int .i64 e.ref, y, s, sv e.text, .int .i64 lv, p]
set_option maxRecDepth 100000 in
set_option maxHeartbeats 2000000 in
theorem compare_w (c0 c1 m1 a1 q1 c5 c6 c7 c8 c9 c10 c11 c12 c13 c14 c15 l1 c17 d0 d1 m2 a2 q2 d5 d6 d7 d8 d9 d10 d11 d12 d13 d14 d15 l2 d17 : Value) (im1 ia1 iq1 il1 im2 ia2 iq2 il2 : Int)
  (hm1 : m1 = .int .i64 im1) (ha1 : a1 = .int .i64 ia1) (hq1 : q1 = .int .i64 iq1) (hl1 : l1 = .int .i64 il1) (hm2 : m2 = .int .i64 im2) (ha2 : a2 = .int .i64 ia2) (hq2 : q2 = .int .i64 iq2) (hl2 : l2 = .int .i64 il2) (W : World) :
  Calls Tryz.prog 43 #[.agg #[c0, c1, m1, a1, q1, c5, c6, c7, c8, c9, c10, c11, c12, c13, c14, c15, l1, c17], .agg #[d0, d1, m2, a2, q2, d5, d6, d7, d8, d9, d10, d11, d12, d13, d14, d15, l2, d17]] W fun e w' => e = .returned (.int .i64 (orI [cmpI il1 il2, cmpI ia1 ia2, cmpI iq1 iq2, cmpI im1 im2])) ∧ ∃ q os', w' = grow (W.drewN q) os' := by
 have hc1 := fun W' => cmp_w il1 il2 W'
 have hc2 := fun W' => cmp_w ia1 ia2 W'
 have hc3 := fun W' => cmp_w iq1 iq2 W'
 have hc4 := fun W' => cmp_w im1 im2 W'
 generalize hX : (#[c0, c1, m1, a1, q1, c5, c6, c7, c8, c9, c10, c11, c12, c13, c14, c15, l1, c17] : Array Value) = X
 generalize hY : (#[d0, d1, m2, a2, q2, d5, d6, d7, d8, d9, d10, d11, d12, d13, d14, d15, l2, d17] : Array Value) = Y
 go_enter Tryz.func43, Tryz.ntmps43
 go_wp2
 have e1 := two_cell1 W X Y 86
 have e2 := two_cell2 W X Y 86
 have hw2 : ∃ q os, ((W.alloc (.cells X 86)).alloc (.cells Y 86)).drew = grow (W.drewN q) os := ⟨1, _, by rw [alloc_eq_grow, alloc_eq_grow, grow_grow, drew_grow]; rfl⟩
 generalize (W.alloc (.cells X 86)).alloc (.cells Y 86) = w2 at *
 have x2 : w2.cell? _ = _ := e1 2
 have x3 : w2.cell? _ = _ := e1 3
 have x4 : w2.cell? _ = _ := e1 4
 have x16 : w2.cell? _ = _ := e1 16
 have y2 : w2.cell? _ = _ := e2 2
 have y3 : w2.cell? _ = _ := e2 3
 have y4 : w2.cell? _ = _ := e2 4
 have y16 : w2.cell? _ = _ := e2 16
 rw [← hX] at x2 x3 x4 x16
 rw [← hY] at y2 y3 y4 y16
 simp only [List.getElem?_toArray, List.getElem?_cons_zero, List.getElem?_cons_succ, hm1, ha1, hq1, hl1, hm2, ha2, hq2, hl2] at x2 x3 x4 x16 y2 y3 y4 y16
 clear e1 e2 hX hY hm1 ha1 hq1 hl1 hm2 ha2 hq2 hl2
 refine wp_region_still_tail 26 mixed' (by kernel_rfl) ?_
 simp only [List.take_succ_cons, List.take_zero, List.drop_succ_cons, List.drop_zero]
 repeat still_step
 still_call (hc1 _)
 repeat still_step
 still_call (hc2 _)
 repeat still_step
 still_call (hc3 _)
 repeat still_step
 still_call (hc4 _)
 repeat still_step
 refine wpStill_nil ?_
 change wpList _ _ _ _ _ w2.drew
 generalize w2.drew = w3 at hw2 ⊢
 obtain ⟨q, os, hw3⟩ := hw2
 have hor := or_w w3.heap.size 4 4 [cmpI il1 il2, cmpI ia1 ia2, cmpI iq1 iq2, cmpI im1 im2] (w3.alloc (.cells #[.int .i64 (cmpI il1 il2), .int .i64 (cmpI ia1 ia2), .int .i64 (cmpI iq1 iq2), .int .i64 (cmpI im1 im2)] 3)) rfl (by decide) (fun j hj => by
  rw [World.cell?_alloc_mark]
  obtain rfl | rfl | rfl | rfl : j = 0 ∨ j = 1 ∨ j = 2 ∨ j = 3 := by omega
  ·rfl
  ·rfl
  ·rfl
  ·rfl)
 clear hc1 hc2 hc3 hc4 x2 x3 x4 x16 y2 y3 y4 y16
 have er := lit4 (cmpI il1 il2) (cmpI ia1 ia2) (cmpI iq1 iq2) (cmpI im1 im2) w3
 refine list_value (v := .slice (some ⟨w3.heap.size, 0, none⟩) 4 4) (w' := w3.alloc (.cells #[.int .i64 (cmpI il1 il2), .int .i64 (cmpI ia1 ia2), .int .i64 (cmpI iq1 iq2), .int .i64 (cmpI im1 im2)] 3)) rfl (by simp [execOp, Act.eval, er]) ?_
 refine list_call (v := .int .i64 (orI [cmpI il1 il2, cmpI ia1 ia2, cmpI iq1 iq2, cmpI im1 im2])) rfl (by simp [go_sem]) hor ?_
 simp only [Act.put]
 go_wp2
 go_ret
 exact ⟨rfl, q, _, by rw [alloc_eq_grow, grow_grow]⟩
theorem compareN_c (key1 key2 : Int) (t1 t2 : List UInt8) (m1 m2 : Int) (e1 e2 : En) (l1 l2 : Int) (k1 y1 s1 p1 k2 y2 s2 p2 : Value) (w : World) :
  Calls Tryz.prog 43 #[.agg (nV key1 t1 m1 e1 l1 k1 y1 s1 p1), .agg (nV key2 t2 m2 e2 l2 k2 y2 s2 p2)] w fun e w' => e = .returned (.int .i64 (cmpN l1 e1.author e1.seq m1 l2 e2.author e2.seq m2)) ∧ ∃ q os', w' = grow (w.drewN q) os' :=
 compare_w _ _ _ _ _ _ _ _ _ _ _ _ _ _ _ _ _ _ _ _ _ _ _ _ _ _ _ _ _ _ _ _ _ _ _ _ m1 e1.author e1.seq l1 m2 e2.author e2.seq l2 rfl rfl rfl rfl rfl rfl rfl rfl w
end Go.Proofs.YtdigebokbhmfaaaGreatDoor.Dr
namespace Go.Proofs
open Go.Shelf
def Tryz.sortNd_ren : Go.Shelf.Ren := ⟨fun | 6 => 42 | 15 => 71 | 14 => 70 | 28 => 114 | 29 => 115 | 20 => 106 | 21 => 107 | 22 => 108 | 23 => 109 | 24 => 110 | 25 => 111 | 26 => 112 | 27 => 113 | 46 => 156 | 47 => 157 | 48 => 158 | 49 => 159 | 50 => 160 | 57 => 202 | n => n, fun | 22 => 78 | 24 => 86 | 25 => 95 | 3 => 3 | 39 => 142 | 0 => 0 | 53 => 173 | 55 => 136 | 4 => 4 | 46 => 167 | 45 => 166 | 50 => 93 | 5 => 5 | 9 => 9 | 66 => 223 | 70 => 227 | 76 => 283 | 77 => 284 | n => n, fun | n => n⟩
theorem Tryz.sortNd : Go.Proofs.SlLaysF0.n6 Tryz.prog Tryz.sortNd_ren := {
 mixed := by kernel_rfl
 f6 := ⟨Tryz.f42.name, by decide, Tryz.func42.trans (congrArg some (by kernel_rfl))⟩
 f14 := ⟨Tryz.f70.name, by decide, Tryz.func70.trans (congrArg some (by kernel_rfl))⟩
 f15 := Tryz.func71.trans (congrArg some (by kernel_rfl))
 f20 := ⟨Tryz.f106.name, by decide, Tryz.func106.trans (congrArg some (by kernel_rfl))⟩
 f21 := ⟨Tryz.f107.name, by decide, Tryz.func107.trans (congrArg some (by kernel_rfl))⟩
 f22 := ⟨Tryz.f108.name, by decide, Tryz.func108.trans (congrArg some (by kernel_rfl))⟩
 f23 := ⟨Tryz.f109.name, by decide, Tryz.func109.trans (congrArg some (by kernel_rfl))⟩
 f24 := ⟨Tryz.f110.name, by decide, Tryz.func110.trans (congrArg some (by kernel_rfl))⟩
 f25 := ⟨Tryz.f111.name, by decide, Tryz.func111.trans (congrArg some (by kernel_rfl))⟩
 f26 := ⟨Tryz.f112.name, by decide, Tryz.func112.trans (congrArg some (by kernel_rfl))⟩
 f27 := ⟨Tryz.f113.name, by decide, Tryz.func113.trans (congrArg some (by kernel_rfl))⟩
 f28 := Tryz.func114.trans (congrArg some (by kernel_rfl))
 f29 := Tryz.func115.trans (congrArg some (by kernel_rfl))
 f46 := ⟨Tryz.f156.name, by decide, Tryz.func156.trans (congrArg some (by kernel_rfl))⟩
 f47 := Tryz.func157.trans (congrArg some (by kernel_rfl))
 f48 := Tryz.func158.trans (congrArg some (by kernel_rfl))
 f49 := ⟨Tryz.f159.name, by decide, Tryz.func159.trans (congrArg some (by kernel_rfl))⟩
 f50 := ⟨Tryz.f160.name, by decide, Tryz.func160.trans (congrArg some (by kernel_rfl))⟩
 f57 := ⟨Tryz.f202.name, by decide, Tryz.func202.trans (congrArg some (by kernel_rfl))⟩
 t0 := Tryz.underlying0
 a0 := Tryz.isAgg0
 z0 := Tryz.sizeOf0
 v0 := Tryz.zeroValue0
 t3 := Tryz.underlying3
 a3 := Tryz.isAgg3
 z3 := Tryz.sizeOf3
 v3 := Tryz.zeroValue3
 t4 := Tryz.underlying4
 a4 := Tryz.isAgg4
 z4 := Tryz.sizeOf4
 v4 := Tryz.zeroValue4
 t5 := Tryz.underlying5
 a5 := Tryz.isAgg5
 z5 := Tryz.sizeOf5
 v5 := Tryz.zeroValue5
 t9 := Tryz.underlying9
 a9 := Tryz.isAgg9
 z9 := Tryz.sizeOf9
 v9 := Tryz.zeroValue9
 t22 := Tryz.underlying78
 a22 := Tryz.isAgg78
 z22 := Tryz.sizeOf78
 v22 := Tryz.zeroValue78
 t25 := Tryz.underlying95
 a25 := Tryz.isAgg95
 z25 := Tryz.sizeOf95
 v25 := Tryz.zeroValue95
 t39 := Tryz.underlying142
 a39 := Tryz.isAgg142
 z39 := Tryz.sizeOf142
 v39 := Tryz.zeroValue142
 t45 := Tryz.underlying166
 a45 := Tryz.isAgg166
 z45 := Tryz.sizeOf166
 v45 := Tryz.zeroValue166
 t46 := Tryz.underlying167
 a46 := Tryz.isAgg167
 z46 := Tryz.sizeOf167
 v46 := Tryz.zeroValue167
 t50 := Tryz.underlying93
 a50 := Tryz.isAgg93
 z50 := Tryz.sizeOf93
 v50 := Tryz.zeroValue93
 t53 := Tryz.underlying173
 a53 := Tryz.isAgg173
 z53 := Tryz.sizeOf173
 v53 := Tryz.zeroValue173
 t55 := Tryz.underlying136
 a55 := Tryz.isAgg136
 z55 := Tryz.sizeOf136
 v55 := Tryz.zeroValue136
 t66 := Tryz.underlying223
 a66 := Tryz.isAgg223
 z66 := Tryz.sizeOf223
 v66 := Tryz.zeroValue223
 t70 := Tryz.underlying227
 a70 := Tryz.isAgg227
 z70 := Tryz.sizeOf227
 v70 := Tryz.zeroValue227
 t76 := Tryz.underlying283
 a76 := Tryz.isAgg283
 z76 := Tryz.sizeOf283
 v76 := Tryz.zeroValue283
 t77 := Tryz.underlying284
 a77 := Tryz.isAgg284
 z77 := Tryz.sizeOf284
 v77 := Tryz.zeroValue284 }
end Go.Proofs
namespace Go.Proofs.YtdigebokbhmfaaaGreatDoor
open Go.Vc Rt Go.Bs
theorem cmpI_neg {x y : Int} : cmpI x y < 0 ↔ x < y := by unfold cmpI; split <;> (try split) <;> omega
theorem cmpI_zero {x y : Int} : cmpI x y = 0 ↔ x = y := by unfold cmpI; split <;> (try split) <;> omega
end Go.Proofs.YtdigebokbhmfaaaGreatDoor
namespace Rt
def Has (l : List Span) (m n : Int) : Prop := ∃ s ∈ l, s.m = m ∧ s.f ≤ n ∧ n < s.t
def gap (a b : Span) : Prop := a.m < b.m ∨ (a.m = b.m ∧ a.t < b.f)
structure NF (l : List Span) : Prop where
 ne : ∀ s ∈ l, s.f < s.t
 ord : l.Pairwise gap
theorem Has.cons {s : Span} {l : List Span} {m n : Int} : Has (s :: l) m n ↔ (s.m = m ∧ s.f ≤ n ∧ n < s.t) ∨ Has l m n := by
 unfold Has
 constructor
 ·rintro ⟨x, hx, h⟩
  rcases List.mem_cons.1 hx with rfl | hx
  ·exact .inl h
  ·exact .inr ⟨x, hx, h⟩
 ·rintro (h | ⟨x, hx, h⟩)
  ·exact ⟨s, List.mem_cons_self .., h⟩
  ·exact ⟨x, List.mem_cons_of_mem _ hx, h⟩
theorem Has.append {a b : List Span} {m n : Int} : Has (a ++ b) m n ↔ Has a m n ∨ Has b m n := by
 unfold Has
 constructor
 ·rintro ⟨x, hx, h⟩
  rcases List.mem_append.1 hx with hx | hx
  ·exact .inl ⟨x, hx, h⟩
  ·exact .inr ⟨x, hx, h⟩
 ·rintro (⟨x, hx, h⟩ | ⟨x, hx, h⟩)
  ·exact ⟨x, List.mem_append.2 (.inl hx), h⟩
  ·exact ⟨x, List.mem_append.2 (.inr hx), h⟩
theorem Has.nil {m n : Int} : ¬ Has [] m n := fun ⟨x, hx, _⟩ => by cases hx
theorem NF.tail {s : Span} {l : List Span} (h : NF (s :: l)) : NF l := ⟨fun x hx => h.ne x (List.mem_cons_of_mem _ hx), (List.pairwise_cons.1 h.ord).2⟩
theorem NF.first {s : Span} {l : List Span} (h : NF (s :: l)) {m n : Int} (hh : Has (s :: l) m n) : s.m < m ∨ (s.m = m ∧ s.f ≤ n) := by
 rcases Has.cons.1 hh with ⟨h1, h2, h3⟩ | ⟨x, hx, h1, h2, h3⟩
 ·exact .inr ⟨h1, h2⟩
 ·have := (List.pairwise_cons.1 h.ord).1 x hx
  have := h.ne s (List.mem_cons_self ..)
  have := h.ne x (List.mem_cons_of_mem _ hx)
  unfold gap at *
  omega
theorem NF.rest {s : Span} {l : List Span} (h : NF (s :: l)) {m n : Int} (hh : Has l m n) : s.m < m ∨ (s.m = m ∧ s.t < n) := by
 obtain ⟨x, hx, h1, h2, h3⟩ := hh
 have := (List.pairwise_cons.1 h.ord).1 x hx
 unfold gap at *
 omega
theorem NF.ext : ∀ {a b : List Span}, NF a → NF b → (∀ m n, Has a m n ↔ Has b m n) → a = b
 | [], [], _, _, _ => rfl
 | [], y :: b, _, hb, h => by
  have := hb.ne y (List.mem_cons_self ..)
  exact (Has.nil ((h y.m y.f).2 (Has.cons.2 (.inl ⟨rfl, by omega, by omega⟩)))).elim
 | x :: a, [], ha, _, h => by
  have := ha.ne x (List.mem_cons_self ..)
  exact (Has.nil ((h x.m x.f).1 (Has.cons.2 (.inl ⟨rfl, by omega, by omega⟩)))).elim
 | x :: a, y :: b, ha, hb, h => by
  have hx := ha.ne x (List.mem_cons_self ..)
  have hy := hb.ne y (List.mem_cons_self ..)
  have h1 := hb.first ((h x.m x.f).1 (Has.cons.2 (.inl ⟨rfl, by omega, by omega⟩)))
  have h2 := ha.first ((h y.m y.f).2 (Has.cons.2 (.inl ⟨rfl, by omega, by omega⟩)))
  have em : x.m = y.m := by omega
  have ef : x.f = y.f := by omega
  have et : x.t = y.t := by
   rcases Int.lt_trichotomy x.t y.t with hlt | he | hgt
   ·have hh := (h x.m x.t).2 (Has.cons.2 (.inl ⟨em.symm, by omega, hlt⟩))
    rcases Has.cons.1 hh with h3 | h3
    ·omega
    ·have := ha.rest h3; omega
   ·exact he
   ·have hh := (h y.m y.t).1 (Has.cons.2 (.inl ⟨em, by omega, hgt⟩))
    rcases Has.cons.1 hh with h3 | h3
    ·omega
    ·have := hb.rest h3; omega
  have e : x = y := Span.ext' em ef et
  subst e
  rw [NF.ext ha.tail hb.tail fun m n => ?_]
  constructor
  ·intro hh
   have h3 := ha.rest hh
   rcases Has.cons.1 ((h m n).1 (Has.cons.2 (.inr hh))) with h4 | h4
   ·omega
   ·exact h4
  ·intro hh
   have h3 := hb.rest hh
   rcases Has.cons.1 ((h m n).2 (Has.cons.2 (.inr hh))) with h4 | h4
   ·omega
   ·exact h4
end Rt
namespace Go.Proofs.YtdigebokbhmfaaaGreatDoor
open Go.Vc Rt Go.Bs
theorem rd1 {E size : Nat} {L : List (List CV)} (h : NoP L) : rdOk [.row E size L] := ⟨h, trivial⟩
end Go.Proofs.YtdigebokbhmfaaaGreatDoor
namespace Go.Proofs.YtdigebokbhmfaaaGreatDoor
open Go.Vc Rt Go.Bs
end Go.Proofs.YtdigebokbhmfaaaGreatDoor
namespace Rt
end Rt
namespace Go.Proofs.YtdigebokbhmfaaaGreatDoor
open Go.Vc Rt Go.Bs
def relAll {α : Type} (T : Ty α) (S : List Nat) (w : World) : List α → List (List CV) → Prop
 | [], [] => True
 | x :: xs, l :: L => (∃ l', dens l' = dens l ∧ T.rel S w x l') ∧ relAll T S w xs L
 | _, _ => False
theorem relAll_len {α : Type} {T : Ty α} {S : List Nat} {w : World} : ∀ {xs : List α} {L : List (List CV)}, relAll T S w xs L → xs.length = L.length
 | [], [], _ => rfl
 | x :: xs, l :: L, h => by simp [relAll_len h.2]
 | [], _ :: _, h => h.elim
 | _ :: _, [], h => h.elim
theorem relAll_get {α : Type} {T : Ty α} {S : List Nat} {w : World} : ∀ {xs : List α} {L : List (List CV)}, relAll T S w xs L → ∀ (i : Nat) x, xs[i]? = some x → ∃ l l', L[i]? = some l ∧ dens l' = dens l ∧ T.rel S w x l'
 | [], [], _, i, x, hx => by simp at hx
 | y :: xs, l :: L, h, 0, x, hx => by
  simp at hx; subst hx
  obtain ⟨l', h1, h2⟩ := h.1
  exact ⟨l, l', rfl, h1, h2⟩
 | y :: xs, l :: L, h, i + 1, x, hx => relAll_get h.2 i x (by simpa using hx)
 | [], _ :: _, h, _, _, _ => h.elim
 | _ :: _, [], h, _, _, _ => h.elim
theorem SlOf.of_rows {α : Type} {T : Ty α} {S : List Nat} {w : World} {v : Value} {E : Nat} {xs : List α} {L : List (List CV)} (h : (LO.row v E T.size L).holds w) (hS : ∀ b ∈ blkOf v, b ∉ S) (hsm : xs.length ≤ 9223372036854775807) (hr : relAll T S w xs L) : SlOf T S w v xs := by
 obtain ⟨a, c, rfl, hlc, hnil⟩ := row_slice h
 have hll := relAll_len hr
 refine ⟨⟨a, L.length, c, rfl, hnil, hlc⟩, ?_, hsm, fun b n c' e hp => ?_, fun i x hx => ?_⟩
 ·cases a with
  | none => simp [slen]; have := (hnil rfl).1; omega
  | some a => simp [slen, hll]
 ·cases e
  refine ⟨hS _ (by simp [blkOf]), ?_⟩
  obtain ⟨⟨_, ⟨he, _⟩ | ⟨g, o, cap, cur, he, hg, _⟩⟩, _⟩ := h
  ·cases he
  ·cases he
   exact (Array.getElem?_eq_some_iff.1 hg).1
 ·obtain ⟨l, l', h1, h2, h3⟩ := relAll_get hr i x hx
  refine ⟨l', h3, fun a' n c' e j u hu => ?_⟩
  rw [h2] at hu
  exact row_cells h h1 a' n c' e j u hu
theorem nilS {b : Nat} : b ∉ ([] : List Nat) := fun h => by cases h
theorem slS {w : World} {v : Value} {E : Nat} (xs : List Span) (h : (LO.row v E 3 (xs.map encS)).holds w) (hl : xs.length ≤ 1000000) : SlOf spT [] w v xs := SlOf.of_row h (fun _ _ => nilS) (by omega)
theorem slI {w : World} {v : Value} {E : Nat} (xs : List Int) (h : (LO.row v E 1 (xs.map encI)).holds w) (hl : xs.length ≤ 1000000) : SlOf intT [] w v xs := SlOf.of_row (enc := fun n => [.i n]) h (fun _ _ => nilS) (by omega)
end Go.Proofs.YtdigebokbhmfaaaGreatDoor
namespace Go.Proofs.YtdigebokbhmfaaaGreatDoor
open Go.Vc Rt Go.Bs
theorem idx_any {α : Type} (p : α → Bool) (xs : List α) : decide (0 ≤ idxOf p xs) = xs.any p := by
 unfold idxOf
 split
 ·rename_i i h
  rw [List.findIdx?_eq_some_iff_getElem] at h
  obtain ⟨h1, h2, _⟩ := h
  rw [decide_eq_true (by omega)]
  exact (List.any_eq_true.2 ⟨_, List.getElem_mem h1, h2⟩).symm
 ·rename_i h
  rw [decide_eq_false (by omega)]
  rw [List.findIdx?_eq_none_iff] at h
  refine (Bool.eq_false_iff.2 fun hc => ?_).symm
  obtain ⟨x, hx, hp⟩ := List.any_eq_true.1 hc
  rw [h x hx] at hp; cases hp
end Go.Proofs.YtdigebokbhmfaaaGreatDoor
namespace Go.Proofs.YtdigebokbhmfaaaGreatDoor
open Go.Vc Rt Go.Bs
theorem key_c (n : Int) (w : World) : Ans Tryz.prog 90 [vI n] (.b (isKeyB n)) w := isKey_c n w
theorem day_c (n : Int) (w : World) : Ans Tryz.prog 91 [vI n] (.b (isDayB n)) w := by
 refine calls_plainB [.i n] Tryz.func91 rfl rfl (Nat.le_of_ble_eq_true rfl) rfl fun B hB => ?_
 repeat refine zq ?_
 refine zr ?_; conv => whnf
 repeat refine zq ?_
 refine zr ?_; conv => whnf
 repeat refine zq ?_
 refine At.ret (At.doneB tab_ok hB _ rfl fun w' hw => ⟨?_, hw.fr⟩)
 simp only [RV.den, SV.den, CV.den, band, isDayB]
theorem asc_c (xs : List Int) (S : List Nat) (v : Value) (w : World) (h : SlOf intT S w v xs) : Ans Tryz.prog 93 [v] (.b (ascB xs)) w := by
 replace h := h.avoid (S' := []) (fun b hb => by cases hb)
 have hsm := h.small
 refine calls_plainB [.x v] Tryz.func93 rfl rfl (Nat.le_of_ble_eq_true rfl) rfl fun B hB => ?_
 repeat refine zq ?_
 refine zr ?_; conv => whnf
 repeat refine zq ?_
 refine zr ?_; conv => whnf
 repeat refine zq ?_
 refine At.block ?_
 refine At.loopF (fun k : Nat => { N := Tryz.f93.ntmps, sl := [(0, some (.x v)), (3, some (.i k))], gl := [], hp := [], S := [], ws := w }) (fun k => 1 ≤ k ∧ (k ≤ xs.length ∨ k = 1) ∧ ∀ j, j < k → ascAt xs j = true) (fun k => xs.length + 1 - k)
  (fun w' hw => ⟨1, ⟨Nat.le_refl _, .inr rfl, fun j hj => by obtain rfl : j = 0 := (by omega); unfold ascAt; split <;> rfl⟩, Le.of rfl rfl ⟨rfl, rfl, trivial⟩, WF.plain rfl, hw.same rfl rfl rfl⟩) ?_
 intro k ⟨hk, hk1, hall⟩
 repeat refine zq ?_
 refine zr ?_; conv => whnf
 refine ⟨h.sl, ?_⟩; conv => whnf
 repeat refine zq ?_
 refine At.cond rfl (fun hc => At.skip ?_) (fun hc => At.exit ?_)
 ·have hlt : k < xs.length := by have := of_decide_eq_true hc; rw [h.len] at this; omega
  obtain ⟨x, hx⟩ : ∃ x, xs[k]? = some x := ⟨_, List.getElem?_eq_getElem hlt⟩
  obtain ⟨y, hy⟩ : ∃ y, xs[k - 1]? = some y := ⟨_, List.getElem?_eq_getElem (by omega)⟩
  have hln := h.len
  have hat : ascAt xs k = decide (y < x) := by unfold ascAt; rw [hx, hy]; simp only; rw [show (k == 0) = false by simp; omega]; rfl
  repeat refine zq ?_
  refine At.block ?_
  repeat refine zq ?_
  refine At.draw tab_ok mixed (by kernel_rfl) ?_; conv => whnf
  refine ⟨by omega, ?_⟩; conv => whnf
  refine ⟨by rw [h.len]; omega, ?_⟩; conv => whnf
  refine ⟨[.i x], fun w' hw => h.load (n := 1) hw.fr hx rfl, ?_⟩; conv => whnf
  refine ⟨⟨by omega, by omega⟩, ?_⟩; conv => whnf
  refine ⟨by omega, ?_⟩; conv => whnf
  refine ⟨by rw [h.len]; omega, ?_⟩; conv => whnf
  refine ⟨[.i y], fun w' hw => h.loadI (n := 1) hw.fr (by omega) (by rw [← hy]; congr 1; omega) rfl, ?_⟩; conv => whnf
  repeat refine zq ?_
  refine At.cond rfl (fun hq => ?_) (fun hq => ?_)
  ·repeat refine zq ?_
   refine zr ?_; conv => whnf
   repeat refine zq ?_
   refine At.ret (At.doneB tab_ok hB _ rfl fun w' hw => ⟨?_, hw.fr⟩)
   have hq := of_decide_eq_true hq
   rw [ascB_false hlt (by rw [hat]; exact decide_eq_false (by omega))]
  ·refine At.skip ?_
   have hq := of_decide_eq_false hq
   repeat refine zq ?_
   refine zr ?_; conv => whnf
   refine ⟨⟨by omega, by omega⟩, ?_⟩; conv => whnf
   refine At.next fun w' hw => ⟨k + 1, ⟨by omega, by omega, fun j hj => ?_⟩, by omega, Le.of rfl rfl ⟨rfl, rfl, trivial⟩, WF.plain rfl, hw.keep [] rfl rfl rfl⟩
   rcases Nat.lt_or_ge j k with hj' | hj'
   ·exact hall j hj'
   ·obtain rfl : j = k := by omega
    rw [hat]; exact decide_eq_true (by omega)
 ·have hge : xs.length ≤ k := by have := of_decide_eq_false hc; rw [h.len] at this; omega
  repeat refine zq ?_
  refine zr ?_; conv => whnf
  repeat refine zq ?_
  refine At.ret (At.doneB tab_ok hB _ rfl fun w' hw => ⟨?_, hw.fr⟩)
  rw [ascB_true fun j hj => hall j (by omega)]
theorem getD_some {xs : List Int} {i : Nat} (h : i < xs.length) : xs[i]? = some (xs.getD i 0) := by
 rw [List.getElem?_eq_getElem h, List.getD_eq_getElem?_getD, List.getElem?_eq_getElem h]; rfl
theorem keys_c (xs : List Int) (S : List Nat) (v : Value) (w : World) (h : SlOf intT S w v xs) : Ans Tryz.prog 96 [v] (.b (keysB xs)) w := by
 replace h := h.avoid (S' := []) (fun b hb => by cases hb)
 have hsm := h.small
 have hln := h.len
 refine calls_plainB [.x v] Tryz.func96 rfl rfl (Nat.le_of_ble_eq_true rfl) rfl fun B hB => ?_
 repeat refine zq ?_
 refine zr ?_; conv => whnf
 repeat refine zq ?_
 refine zr ?_; conv => whnf
 refine ⟨h.sl, ?_⟩; conv => whnf
 refine ⟨by simp only [gimp]; intro _; exact h.sl, ?_⟩; conv => whnf
 refine ⟨.b (ascB xs), by simp only [gimp]; intro _; exact ans_quiet b93 (fun w' hw => asc_c xs [] v w' (h.fr hw.fr)), ?_⟩; conv => whnf
 refine ⟨by simp only [gimp]; intro h1; omega, ?_⟩; conv => whnf
 refine ⟨by simp only [gimp]; intro h1; simp at h1; omega, ?_⟩; conv => whnf
 refine ⟨[.i (xs.getD 0 0)], by simp only [gimp]; intro h1 w' hw; simp at h1; exact h.loadI (n := 1) hw.fr (by omega) (getD_some (i := 0) (by omega)) rfl, ?_⟩; conv => whnf
 refine ⟨.b (isKeyB (xs.getD 0 0)), by simp only [gimp]; intro _; exact ans_quiet b90 (fun w' hw => key_c _ w'), ?_⟩; conv => whnf
 refine ⟨by simp only [gimp]; intro _; exact h.sl, ?_⟩; conv => whnf
 refine ⟨by simp only [gimp]; intro h1; simp at h1; exact ⟨by omega, by omega⟩, ?_⟩; conv => whnf
 refine ⟨by simp only [gimp]; intro h1; simp at h1; omega, ?_⟩; conv => whnf
 refine ⟨by simp only [gimp]; intro h1; simp at h1; omega, ?_⟩; conv => whnf
 refine ⟨[.i (xs.getD (xs.length - 1) 0)], by simp only [gimp]; intro h1 w' hw; simp at h1; exact h.loadI (n := 1) hw.fr (by omega) (by rw [← getD_some (by omega)]; congr 1; omega) rfl, ?_⟩; conv => whnf
 refine ⟨.b (isKeyB (xs.getD (xs.length - 1) 0)), by simp only [gimp]; intro _; exact ans_quiet b90 (fun w' hw => key_c _ w'), ?_⟩; conv => whnf
 repeat refine zq ?_
 refine At.ret (At.doneB tab_ok hB _ rfl fun w' hw => ⟨?_, hw.fr⟩)
 simp only [RV.den, SV.den, CV.den, band, keysB, hln, Int.natCast_pos]
 rw [show decide ((xs.length : Int) ≤ 60) = decide (xs.length ≤ 60) by rw [decide_eq_decide]; omega]
end Go.Proofs.YtdigebokbhmfaaaGreatDoor
