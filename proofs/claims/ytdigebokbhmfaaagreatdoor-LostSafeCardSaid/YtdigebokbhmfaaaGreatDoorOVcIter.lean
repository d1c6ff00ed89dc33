/- Texts that the law leans on. -/
import Derived.Test.YtdigebokbhmfaaaGreatDoorOVcStr
set_option linter.unusedVariables false
set_option linter.unusedSimpArgs false
namespace Go.Vc
variable {P : Program}
def iterO (r : Nat) (l : List UInt8) (pos : Nat) : LO := .ab [r] (fun w => w.heap[r]? = some (.stringIter (bs l) pos))
theorem iterO_holds {w : World} {r pos : Nat} {l : List UInt8} (h : w.heap[r]? = some (.stringIter (bs l) pos)) : (iterO r l pos).holds w :=
 ⟨fun b hb => by rw [List.mem_singleton.1 hb]; exact (Array.getElem?_eq_some_iff.1 h).1, fun w' hs => (hs r (by simp)).trans h⟩
theorem iterO_at {w : World} {r pos : Nat} {l : List UInt8} (h : (iterO r l pos).holds w) : w.heap[r]? = some (.stringIter (bs l) pos) := h.2 w fun _ _ => rfl
def ptrI (r : Nat) : Value := .pointer (some ⟨r, 0, none⟩)
theorem decode_ascii {l : List UInt8} {pos : Nat} {c : UInt8} (h : l[pos]? = some c) (hc : c.toNat < 128) : Utf8.decode (bs l) pos = (c.toNat, 1) := by
 obtain ⟨hlt, e⟩ := List.getElem?_eq_some_iff.1 h
 have e1 : (bs l).get! pos = c := by
  show (l.toArray)[pos]! = c
  rw [getElem!_pos _ _ (by simpa using hlt)]; simpa using e
 unfold Utf8.decode
 simp only [Nat.add_zero, e1]
 rw [if_pos (by omega)]
theorem range_str {st : St} {dst : Option Nat} {t ty : TypeId} {pos : String} {after : Array Edge} {guard : Option (Nat × Bool)} {K : St → Prop} {x : Operand} {l : List UInt8} (hx : opv st [] x = some (.s (.c (.s l)))) (hu : P.underlying t = some .string)
  (hk : ∀ r : Nat, st.pushK (iterO r l 0) (fun n st' => goPut st' dst (.s (.c (.x (ptrI r)))) K)) :
  RawE P st { dst := dst, op := .range t x, type := ty, pos := pos, after := after, guard := guard } K := by
 refine ⟨fun ρ hρ hwf w hw => ?_⟩
 have ex := hρ _ _ hx
 simp only [RV.den, SV.den, CV.den] at ex
 have hk' := hk w.heap.size
 rw [pushK_eq] at hk'
 have hn : (w.alloc (.stringIter (bs l) 0)).heap[w.heap.size]? = some (.stringIter (bs l) 0) := by show (w.heap.push _)[w.heap.size]? = _; simp
 refine ⟨st.push (iterO w.heap.size l 0), w.alloc (.stringIter (bs l) 0), .inl ⟨.s (.c (.x (ptrI w.heap.size))), ?_, trivial, hk'⟩, ⟨rfl, rfl, rfl, rfl⟩, hwf.push trivial, hw.pushG ?_ (iterO_holds hn) (fun b hb => ?_)⟩
 ·simp only [execOp, ex, Instr.range, run_underlying hu, Sem.run_bind, Sem.run_pure, Result.andThen_ok]
  rfl
 ·exact (Fr.refl [] w).alloc _
 ·have : b ∈ [w.heap.size] := mem_nub.1 hb
  rw [List.mem_singleton.1 this]; exact Nat.le_refl _
theorem next_str {st : St} {dst : Option Nat} {ty : TypeId} {pos : String} {after : Array Edge} {guard : Option (Nat × Bool)} {K : St → Prop} {x : Operand} {l : List UInt8} {r k id : Nat} (hx : opv st [] x = some (.s (.c (.x (ptrI r)))))
  (hl : look st.hp id = some (iterO r l k)) (hasc : ∀ c ∈ l, c.toNat < 128)
  (h1 : ∀ c, l[k]? = some c → hpSetK st.hp id (iterO r l (k + 1)) (fun hp => st.withHp hp (fun st' => goPut st' dst (.tup [.c (.b true), .c (.i k), .c (.x (.int .i32 c.toNat))]) K)))
  (h2 : l[k]? = none → goPut st dst (.tup [.c (.b false)]) K) :
  RawE P st { dst := dst, op := .next x true, type := ty, pos := pos, after := after, guard := guard } K := by
 refine ⟨fun ρ hρ hwf w hw => ?_⟩
 have ex := hρ _ _ hx
 simp only [RV.den, SV.den, CV.den] at ex
 have hit := iterO_at (hw.objs _ (look_mem hl))
 have hget : (getObj r).run P w = .ok (.stringIter (bs l) k) w := by simp [getObj, Sem.run, hit]
 cases hc : l[k]? with
 | some c =>
  have hk' := h1 c hc
  rw [hpSetK_eq] at hk'
  obtain ⟨hlt, e⟩ := List.getElem?_eq_some_iff.1 hc
  have hd := decode_ascii hc (hasc c (e ▸ List.getElem_mem hlt))
  have hr : r < w.heap.size := (Array.getElem?_eq_some_iff.1 hit).1
  refine ⟨st.setHp (hpSet st.hp id (iterO r l (k + 1))), { w with heap := w.heap.setIfInBounds r (.stringIter (bs l) (k + 1)) }, .inl ⟨.tup [.c (.b true), .c (.i k), .c (.x (.int .i32 c.toNat))], ?_, fun v hv => ?_, hk'⟩, ⟨rfl, rfl, rfl, rfl⟩, hwf.setO hl (fun b T cells e => by cases e) trivial, hw.setG hl ?_ (iterO_holds (by simp [hr])) (fun b hb => .inl hb)⟩
  ·have hset : (setObj r (.stringIter (bs l) (k + 1))).run P w = .ok () { w with heap := w.heap.setIfInBounds r (.stringIter (bs l) (k + 1)) } := by simp [setObj, Sem.run, hit]
   simp only [execOp, ex, Instr.next, ptrI, Sem.run_bind, Sem.run_pure, Result.andThen_ok, hget, size_bs, if_pos hlt, hd, hset]
   rfl
  ·simp only [List.mem_cons, List.not_mem_nil, or_false] at hv
   rcases hv with rfl | rfl | rfl <;> trivial
  ·refine ⟨rfl, rfl, rfl, by simp, fun j hj hn => ?_⟩
   have hne : r ≠ j := fun e => hn (mem_nub.2 (by simp [e]))
   simp [Array.getElem?_setIfInBounds, hne]
 | none =>
  have hge : ¬ k < l.length := by rw [List.getElem?_eq_none_iff] at hc; omega
  refine ⟨st, w, .inl ⟨.tup [.c (.b false)], ?_, fun v hv => ?_, h2 hc⟩, ⟨rfl, rfl, rfl, rfl⟩, hwf, hw⟩
  ·simp only [execOp, ex, Instr.next, ptrI, Sem.run_bind, Sem.run_pure, Result.andThen_ok, hget, size_bs]
   simp [hge]
   rfl
  ·rw [List.mem_singleton.1 hv]; trivial
end Go.Vc
