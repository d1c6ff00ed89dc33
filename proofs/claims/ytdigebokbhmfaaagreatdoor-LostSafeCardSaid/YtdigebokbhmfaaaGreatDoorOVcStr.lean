/- Texts that the law leans on. -/
import Derived.Test.YtdigebokbhmfaaaGreatDoorOVcFam
set_option linter.unusedVariables false
set_option linter.unusedSimpArgs false
namespace Go.Vc
open Go.RowKit
def byteV (b : UInt8) : Value := .int .u8 b.toNat
def byteRow (l : List UInt8) : List (List CV) := l.map fun b => [.x (.int .u8 b.toNat)]
theorem byteRow_dens (l : List UInt8) : dens (byteRow l).flatten = l.map byteV := by
 induction l with
 | nil => rfl
 | cons b l ih => simp only [byteRow, List.map_cons, List.flatten_cons, dens, List.map_append, List.map_nil] at ih ⊢; rw [ih]; rfl
theorem byteRow_one (l : List UInt8) : ∀ r ∈ byteRow l, r.length = 1 := fun r hr => by obtain ⟨b, _, rfl⟩ := List.mem_map.1 hr; rfl
theorem byteRow_len (l : List UInt8) : (byteRow l).length = l.length := List.length_map _
section
variable {P : Program} {w : World}
theorem run_firstCells_str (size n : Nat) (s : List UInt8) (w : World) (hn : n = s.length) : (Builtin.firstCells size n (.string (bs s))).run P w = .ok (s.map byteV).toArray w := by
 subst hn
 simp only [Builtin.firstCells, Sem.run_pure]
 congr 1
 have e : (bs s).extract 0 s.length = bs s := by rw [extract_bs]; simp
 rw [e]
 apply Array.ext'
 simp [bs, byteV]
def ownsB (w : World) (e : TypeId) (v : Value) (l : List UInt8) : Prop := w.ownsRow 0 e 1 v l.length (l.map byteV)
theorem ownsB.row {e : TypeId} {v : Value} {l : List UInt8} (h : ownsB w e v l) : (LO.row v e 1 (byteRow l)).holds w := by
 refine ⟨?_, byteRow_one l⟩
 rw [byteRow_dens, byteRow_len]
 obtain ⟨h1, h2⟩ := h
 refine ⟨h1, ?_⟩
 rcases h2 with ⟨rfl, hn⟩ | ⟨g, cap, cur, rfl, _, hg, hnc, hcm, hcs, ht⟩
 ·exact .inl ⟨rfl, hn⟩
 ·exact .inr ⟨g, 0, cap, cur, rfl, hg, hnc, hcm, by omega, by simpa using ht⟩
theorem ownsB_new {e : TypeId} {l : List UInt8} {cap : Nat} (hc : l.length ≤ cap) (hm : cap ≤ maxLen) (zs : Array Value) (hz : zs.size = cap - l.length) :
  ownsB (w.drew.alloc (.cells ((l.map byteV).toArray ++ zs) e)) e (.slice (some ⟨w.heap.size, 0, none⟩) l.length cap) l := by
 refine ⟨by simp, .inr ⟨w.heap.size, cap, _, rfl, Nat.zero_le _, alloc_new w _, hc, hm, ?_, ?_⟩⟩
 ·simp [hz]; omega
 ·simp
theorem append_str (t u ty e : TypeId) (i : TypeInfo) (z : Value) (ht : P.underlying t = some (.slice e)) (hu : P.underlying u = some .string) (hi : P.info? e = some i) (hz : i.zero = some z) (hzs : z.cells.size = i.size) (hs1 : i.size = 1) (hby : i.bytes = 1)
  (v : Value) (l : List UInt8) (hown : ownsB w e v l) (s : List UInt8) (hbytes : l.length + s.length ≤ 140737488355328) :
  ∃ v' w', (Builtin.append_ #[t, u] ty #[v, .string (bs s)]).run P w = .ok v' w' ∧ ownsB w' e v' (l ++ s) ∧ Fr (blkOf v) w w' ∧ (∀ b ∈ blkOf v', b ∈ blkOf v ∨ w.heap.size ≤ b) := by
 have h63 : l.length + s.length ≤ maxLen := by unfold maxLen; omega
 have h1 : ∀ q ∈ s.map byteV, q.oneCell' = true := fun q hq => by obtain ⟨b, _, rfl⟩ := List.mem_map.1 hq; rfl
 have e2 : (l ++ s).length = l.length + s.length := List.length_append
 rcases hown.2 with ⟨rfl, hl0⟩ | ⟨g, cap, cur, rfl, _, hg, hnc, hcm, hcs, htake⟩
 ·have hl : l = [] := List.eq_nil_of_length_eq_zero hl0
  subst hl
  by_cases hm : s.length = 0
  ·have hn : s = [] := List.eq_nil_of_length_eq_zero hm
   subst hn
   refine ⟨.slice none 0 0, w, ?_, ⟨by simp, .inl ⟨rfl, rfl⟩⟩, Fr.refl _ _, fun b hb => by simp [blkOf] at hb⟩
   simp [Builtin.append_, run_underlying ht, run_underlying hu, sizeOf, typeInfo, hi, Builtin.lenOf, size_bs, Builtin.firstCells]
  ·have hr := run_append_nil_string (P := P) (w := w) t u ty e i z ht hu hi hz (bs s) (by rw [size_bs]; omega) (by rw [size_bs]; omega) (by rw [size_bs, hby]; omega)
   rw [size_bs] at hr
   have hge := grownCap_ge w s.length 0 e
   have hcm := grownCap_le_maxLen w s.length 0 e (by simpa using h63)
   have em : (bs s).data.map (fun b => Value.int .u8 b.toNat) = (s.map byteV).toArray := by apply Array.ext'; simp [bs, byteV]
   rw [em] at hr
   refine ⟨_, _, hr, ownsB_new hge hcm _ (by rw [size_zeroCells, hzs, hs1, Nat.mul_one]), fr_drew_alloc _ _ _, fun b hb => ?_⟩
   simp only [blkOf, List.mem_singleton] at hb
   exact .inr (by omega)
 ·by_cases hroom : l.length + s.length ≤ cap
  ·have hfit : 0 + l.length * i.size + (s.map byteV).length ≤ cur.size := by rw [hs1]; simp; omega
   have hf := run_firstCells_str (P := P) i.size s.length s w rfl
   have hst := run_storeCells_at P g (0 + l.length * i.size) e (s.map byteV) 0 cur w hg (by simpa using hfit) h1
   simp only [Nat.add_zero] at hst
   have ha : (⟨g, 0, none⟩ : Addr).add (l.length * i.size) = ⟨g, 0 + l.length * i.size, none⟩ := addr_add _ _ _
   have hr : (Builtin.append_ #[t, u] ty #[.slice (some ⟨g, 0, none⟩) l.length cap, .string (bs s)]).run P w =
     .ok (.slice (some ⟨g, 0, none⟩) (l.length + s.length) cap) (w.setRow g (cur.toList.take (0 + l.length * i.size) ++ s.map byteV ++ cur.toList.drop (0 + l.length * i.size + (s.map byteV).length)).toArray) := by
    simp [Builtin.append_, run_underlying ht, run_underlying hu, sizeOf, typeInfo, hi, Builtin.lenOf, size_bs, hroom, hf]
    simp at hst ha
    rw [ha, hst]; simp
   refine ⟨_, _, hr, ⟨by simp, .inr ⟨g, cap, _, by rw [e2], Nat.zero_le _, setRow_heap w g cur _ e _ hg, by rw [e2]; exact hroom, hcm, ?_, ?_⟩⟩, (Fr.refl _ _).setRow (.inl (by simp [blkOf])) _, fun b hb => .inl hb⟩
   ·simp only [List.size_toArray, List.length_append, List.length_take, List.length_drop, Array.length_toList, hs1, List.length_map]
    omega
   ·have e1 : cur.toList.take l.length = l.map byteV := by simpa using htake
    simp only [hs1, Nat.mul_one, Nat.zero_add, e1, List.map_append, e2]
    rw [← List.map_append, List.take_append_of_le_length (by simp)]
    rw [List.take_of_length_le (by simp)]
  ·have holds : ∀ j q, (l.map byteV)[j]? = some q → w.cell? ((⟨g, 0, none⟩ : Addr).add j) = some q := by
    intro j q hq
    rw [addr_add, cell_of_row w g _ _ _ _ hg]
    have hj : j < l.length := by
     rcases Nat.lt_or_ge j l.length with h' | h'
     ·exact h'
     ·rw [List.getElem?_eq_none (by simpa using h')] at hq; cases hq
    have e1 : cur.toList.take l.length = l.map byteV := by simpa using htake
    rw [← e1, List.getElem?_take_of_lt hj] at hq
    simpa using hq
   have hfits := growslice_fits (need := l.length + s.length) (old := cap) (bytes := i.bytes) (by omega) (by rw [hby]; omega)
   have hn : ¬ (l.length + s.length ≤ cap) := hroom
   have h63' : ¬ (9223372036854775807 < ((l.length : Int) + (s.length : Int))) := by omega
   have h48' : ¬ (281474976710656 < Builtin.nextslicecap (l.length + s.length) cap * i.bytes) := by omega
   have hf := run_firstCells_str (P := P) i.size s.length s w.drew rfl
   have hfo := run_firstCells_some (P := P) w.drew i.size l.length ⟨g, 0, none⟩ l.length cap (l.map byteV) (by rw [hs1]; simp) (by simpa using holds)
   have hr : (Builtin.append_ #[t, u] ty #[.slice (some ⟨g, 0, none⟩) l.length cap, .string (bs s)]).run P w =
     .ok (.slice (some ⟨w.heap.size, 0, none⟩) (l.length + s.length) (grownCap w (l.length + s.length) cap e))
      (w.drew.alloc (.cells (((l ++ s).map byteV).toArray ++ Builtin.zeroCells z.cells (grownCap w (l.length + s.length) cap e - (l.length + s.length))) e)) := by
    simp [Builtin.append_, run_underlying ht, run_underlying hu, sizeOf, typeInfo, zeroValue, hi, hz, Builtin.lenOf, size_bs, hn, h63', h48', Question.forced, hf, hfo, newRow, grownCap]
    congr 2
    apply Array.ext'
    simp [List.append_assoc]
   have hge := grownCap_ge w (l.length + s.length) cap e
   have hcm' := grownCap_le_maxLen w (l.length + s.length) cap e h63
   have ow := ownsB_new (w := w) (e := e) (l := l ++ s) (cap := grownCap w (l.length + s.length) cap e) (by rw [e2]; exact hge) hcm' (Builtin.zeroCells z.cells (grownCap w (l.length + s.length) cap e - (l.length + s.length))) (by rw [size_zeroCells, hzs, hs1, e2, Nat.mul_one])
   rw [e2] at ow
   refine ⟨_, _, hr, ow, fr_drew_alloc _ _ _, fun b hb => ?_⟩
   simp only [blkOf, List.mem_singleton] at hb
   exact .inr (by omega)
theorem ownsB.sl {w : World} {e : TypeId} {v : Value} {l : List UInt8} (h : ownsB w e v l) : ∃ a n c, v = .slice a n c := ownsAt_slice h.row.1
theorem ownsB.frame {w w' : World} {e : TypeId} {v : Value} {l : List UInt8} (h : ownsB w e v l) (hs : ∀ x ∈ blkOf v, w'.heap[x]? = w.heap[x]?) : ownsB w' e v l := by
 obtain ⟨h1, h2⟩ := h
 refine ⟨h1, ?_⟩
 rcases h2 with h2 | ⟨g, cap, cur, rfl, h0, hg, h4⟩
 ·exact .inl h2
 ·exact .inr ⟨g, cap, cur, rfl, h0, by rw [hs g (by simp [blkOf])]; exact hg, h4⟩
end
end Go.Vc
