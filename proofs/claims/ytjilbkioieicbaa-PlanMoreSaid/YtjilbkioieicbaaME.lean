/- Texts that the law uses: L0. -/
import Derived.Test.YtjilbkioieicbaaMC
import Derived.Deep.Slices
import Derived.ProofKit
import Derived.OpenShut
import Derived.ChangeSame
import Derived.Carry
/- Arguments in memory, opened. -/
namespace Go.Proofs.Ytjilbkioieicbaa
open Go.Vc Rt
set_option linter.unusedVariables false
set_option linter.unusedSimpArgs false
section
variable {H : Type} {enc : TypeId × Value → H} {w : World} {spare : Nat → Bool} {held : Bool}
theorem cells_get {base k : Nat} {a : Addr} {cs : List Value} (h : w.cells? base a k = some cs) : cs.length = k ∧ ∀ (j : Nat) u, cs[j]? = some u → w.cell? (a.add j) = some u := by
  unfold World.cells? at h
  split at h
  · have hl := mapM_some_length h
    simp at hl
    refine ⟨hl, fun j u hu => ?_⟩
    have hj : j < k := by have := (List.getElem?_eq_some_iff.1 hu).1; omega
    have := mapM_some_get h j j (by simp [hj])
    rw [this]; exact hu
  · cases h
theorem inR_of_wf {n : Int} (h : (Lit.int .i64 n).wf = true) : inR n := by
  simp only [Lit.wf, Bool.and_eq_true, decide_eq_true_eq] at h
  exact ⟨h.1, h.2⟩
/-- A slice, its elements opened one by one. -/
theorem slOf_open {α : Type} [Inhabited α] {T : Ty α} {t e : TypeId} (ht : Try.prog.underlying t = some (.slice e)) (hc : Try.prog.cellsOf e = T.size) (hpos : 0 < T.size) (hT : ∀ cs n x, DataW.trod enc Try.prog w 0 spare held n e cs = some x → ∃ (a : α) (l : List CV), T.rel [] w a l ∧ dens l = cs)
    {fuel : Nat} {cs : List Value} {x : DataW H × List MemPlace} (h : DataW.trod enc Try.prog w 0 spare held fuel t cs = some x) : ∃ v xs, cs = [v] ∧ SlOf T [] w v xs := by
  rcases Deep.open_slice ht h with ⟨rfl, _⟩ | ⟨a, len, cap, m, n, D, Pl, rfl, hb, hlc, hcm, hm, _, hx⟩
  · exact ⟨_, [], rfl, ⟨⟨none, 0, 0, rfl, fun _ => ⟨rfl, rfl⟩, Nat.le_refl _⟩, rfl, by simp, fun a n c e => (by cases e), fun i x hx => (by simp at hx)⟩⟩
  · have hlm : len ≤ m := by rw [hm]; split <;> omega
    have key : ∀ i : Nat, ∃ (y : α) (l : List CV), i < len → T.rel [] w y l ∧ ∀ j u, (dens l)[j]? = some u → w.cell? ((a.add (i * T.size)).add j) = some u := by
      intro i
      by_cases hi : i < len
      · obtain ⟨cs', h1, h2⟩ := hx i (by omega)
        obtain ⟨y, l, h3, h4⟩ := hT cs' n _ h2
        rw [hc] at h1
        exact ⟨y, l, fun _ => ⟨h3, fun j u hu => (cells_get h1).2 j u (by rw [← h4]; exact hu)⟩⟩
      · exact ⟨default, [], fun h => absurd h hi⟩
    let Y : Nat → α := fun i => Classical.choose (key i)
    have hY : ∀ i, i < len → ∃ l, T.rel [] w (Y i) l ∧ ∀ j u, (dens l)[j]? = some u → w.cell? ((a.add (i * T.size)).add j) = some u := fun i hi => by
      obtain ⟨l, hl⟩ := Classical.choose_spec (key i)
      exact ⟨l, hl hi⟩
    refine ⟨_, (List.range len).map Y, rfl, ⟨⟨some a, len, cap, rfl, fun h => (by cases h), hlc⟩, by simp [slen], by simp; unfold maxLen at hcm; omega, fun b n' c' e hp => ?_, fun i y hy => ?_⟩⟩
    · cases e
      refine ⟨(fun h => (by cases h)), ?_⟩
      simp at hp
      obtain ⟨l, h1, h2⟩ := hY 0 hp
      have hll := T.len h1
      have := h2 0 ((dens l)[0]'(by simp [dens]; omega)) (List.getElem?_eq_getElem _)
      unfold World.cell? at this
      split at this
      · rename_i c _ _ hh
        rw [add_block, add_block] at hh
        exact (Array.getElem?_eq_some_iff.1 hh).1
      · cases this
    · have hi : i < len := by have := (List.getElem?_eq_some_iff.1 hy).1; simpa using this
      simp [hi] at hy
      subst hy
      obtain ⟨l, h1, h2⟩ := hY i hi
      refine ⟨l, h1, fun a' n' c' e j u hu => ?_⟩
      cases e
      have := h2 j u hu
      unfold elemAddr
      rw [Int.toNat_natCast, add_add (a.add (i * T.size)) 0 j, Nat.zero_add]
      exact this
/-- A struct of fields of one cell. -/
theorem struct_open {t : TypeId} {fs : Array Field} (ht : Try.prog.underlying t = some (.struct fs)) {types : List TypeId} (hf : fs.toList.map (fun f => (f.type, f.offset)) = types.zipIdx) (hc : ∀ u ∈ types, Try.prog.cellsOf u = 1) (hk : Try.prog.cellsOf t = types.length)
    {fuel : Nat} {cs : List Value} {x : DataW H × List MemPlace} (h : DataW.trod enc Try.prog w 0 spare held fuel t cs = some x) :
    cs.length = types.length ∧ ∀ (i : Nat) u, types[i]? = some u → ∃ c n y, cs[i]? = some c ∧ DataW.trod enc Try.prog w 0 spare held n u [c] = some y := by
  obtain ⟨xs, n, _, _, hl, hxl, hget⟩ := DataW.trod_struct ht h
  refine ⟨by rw [hl, hk], fun i u hu => ?_⟩
  have hfl : fs.size = types.length := by have := congrArg List.length hf; simpa using this
  have hi : i < types.length := (List.getElem?_eq_some_iff.1 hu).1
  have hfi : (fs.toList.map (fun f => (f.type, f.offset)))[i]? = some (u, i) := by rw [hf]; simp [hu]
  rw [List.getElem?_map] at hfi
  obtain ⟨f, hf1, hf2⟩ := Option.map_eq_some_iff.1 hfi
  simp only [Prod.mk.injEq] at hf2
  obtain ⟨e1, e2⟩ := hf2
  have := hget i f (by simpa using hf1)
  rw [e1, e2, hc u (List.mem_of_getElem? hu), List.getElem?_eq_getElem (by omega)] at this
  have hcs : i < cs.length := by omega
  rw [List.drop_eq_getElem_cons hcs] at this
  exact ⟨cs[i], n, _, List.getElem?_eq_getElem hcs, this⟩
theorem u4 : Try.prog.underlying 4 = some .bool := by kernel_rfl
theorem laid : laidOutB Try.prog = true := by kernel_rfl
theorem u3 : Try.prog.underlying 3 = some (.int .i64) := by kernel_rfl
theorem u45 : Try.prog.underlying 45 = some (.slice 54) := by kernel_rfl
theorem u52 : Try.prog.underlying 52 = some (.slice 56) := by kernel_rfl
theorem u54 : Try.prog.underlying 54 = some (.struct (Try.prog.fieldsOf 54)) := by kernel_rfl
theorem u56 : Try.prog.underlying 56 = some (.struct (Try.prog.fieldsOf 56)) := by kernel_rfl
theorem f56 : (Try.prog.fieldsOf 56).toList.map (fun f => (f.type, f.offset)) = [3, 3, 3].zipIdx := by kernel_rfl
theorem f54 : (Try.prog.fieldsOf 54).toList.map (fun f => (f.type, f.offset)) = [3, 3, 3, 3, 3, 3, 52].zipIdx := by kernel_rfl
theorem c3 : Try.prog.cellsOf 3 = 1 := by kernel_rfl
theorem c52 : Try.prog.cellsOf 52 = 1 := by kernel_rfl
theorem c54 : Try.prog.cellsOf 54 = 7 := by kernel_rfl
theorem c56 : Try.prog.cellsOf 56 = 3 := by kernel_rfl
theorem span_open {fuel : Nat} {cs : List Value} {x : DataW H × List MemPlace} (h : DataW.trod enc Try.prog w 0 spare held fuel 56 cs = some x) : ∃ (s : Span) (l : List CV), spT.rel [] w s l ∧ dens l = cs := by
  obtain ⟨hl, hg⟩ := struct_open u56 f56 (fun u hu => by simp at hu; subst hu; exact c3) c56 h
  match cs, hl with
  | [a, b, c], _ =>
    obtain ⟨_, _, _, e0, t0⟩ := hg 0 3 rfl
    obtain ⟨_, _, _, e1, t1⟩ := hg 1 3 rfl
    obtain ⟨_, _, _, e2, t2⟩ := hg 2 3 rfl
    obtain ⟨m, q0, _⟩ := DataW.trod_int u3 t0
    obtain ⟨f, q1, _⟩ := DataW.trod_int u3 t1
    obtain ⟨t, q2, _⟩ := DataW.trod_int u3 t2
    simp at e0 e1 e2 q0 q1 q2
    subst e0 e1 e2 q0 q1 q2
    exact ⟨⟨m, f, t⟩, _, rfl, rfl⟩
theorem deed_open {fuel : Nat} {cs : List Value} {x : DataW H × List MemPlace} (h : DataW.trod enc Try.prog w 0 spare held fuel 54 cs = some x) : ∃ (d : Deed) (l : List CV), deT.rel [] w d l ∧ dens l = cs := by
  obtain ⟨hl, hg⟩ := struct_open u54 f54 (fun u hu => by simp at hu; rcases hu with rfl | rfl; exact c3; exact c52) c54 h
  match cs, hl with
  | [c0, c1, c2, c3, c4, c5, c6], _ =>
    obtain ⟨_, _, _, e0, t0⟩ := hg 0 3 rfl
    obtain ⟨_, _, _, e1, t1⟩ := hg 1 3 rfl
    obtain ⟨_, _, _, e2, t2⟩ := hg 2 3 rfl
    obtain ⟨_, _, _, e3, t3⟩ := hg 3 3 rfl
    obtain ⟨_, _, _, e4, t4⟩ := hg 4 3 rfl
    obtain ⟨_, _, _, e5, t5⟩ := hg 5 3 rfl
    obtain ⟨_, _, _, e6, t6⟩ := hg 6 52 rfl
    obtain ⟨n0, q0, _⟩ := DataW.trod_int u3 t0
    obtain ⟨n1, q1, _⟩ := DataW.trod_int u3 t1
    obtain ⟨n2, q2, _⟩ := DataW.trod_int u3 t2
    obtain ⟨n3, q3, _⟩ := DataW.trod_int u3 t3
    obtain ⟨n4, q4, _⟩ := DataW.trod_int u3 t4
    obtain ⟨n5, q5, _⟩ := DataW.trod_int u3 t5
    obtain ⟨v, xs, q6, hv⟩ := slOf_open (T := spT) u52 c56 (by decide) (fun cs n x h => span_open h) t6
    simp at e0 e1 e2 e3 e4 e5 e6 q0 q1 q2 q3 q4 q5 q6
    subst e0 e1 e2 e3 e4 e5 e6 q0 q1 q2 q3 q4 q5 q6
    exact ⟨⟨n0, n1, n2, n3, n4, n5, xs⟩, _, ⟨_, rfl, hv⟩, rfl⟩
theorem deeds_open {v : Value} {d : DataW H} {ps : List MemPlace} (hs : ∃ a n c, v = .slice a n c) (h : DataW.Trod enc Try.prog w 0 spare held 45 v d ps) : ∃ l, SlOf deT [] w v l := by
  obtain ⟨a, n, c, rfl⟩ := hs
  obtain ⟨fuel, hf⟩ := h
  obtain ⟨v, xs, e, hv⟩ := slOf_open (T := deT) u45 c54 (by decide) (fun cs n x h => deed_open h) hf
  simp [Value.cells] at e
  subst e
  exact ⟨xs, hv⟩
end
end Go.Proofs.Ytjilbkioieicbaa
