/- Texts that the law leans on. -/
import Derived.Test.YtdigebokbhmfaaaGreatDoorOVcMem
set_option linter.unusedVariables false
set_option linter.unusedSimpArgs false
namespace Go.Vc
open Go.RowKit
section
variable {P : Program} {w : World}
theorem fr_drew_alloc (S : List Nat) (w : World) (o : Obj) : Fr S w (w.drew.alloc o) := ((Fr.refl S w).drew).alloc o
theorem alloc_new (w : World) (o : Obj) : (w.drew.alloc o).heap[w.heap.size]? = some o := by
 show (w.heap.push o)[w.heap.size]? = _
 simp
theorem append_room (t ty e : TypeId) (i : TypeInfo) (ht : P.underlying t = some (.slice e)) (hi : P.info? e = some i)
  (g o sLen sCap : Nat) (cur : Array Value) (hg : w.heap[g]? = some (.cells cur e (0, 0)))
  (x : Value) (m : Nat) (hlen : (Builtin.lenOf x).run P w = .ok m w) (news : List Value) (hl : news.length = m * i.size) (hx : ¬ ∃ k n, x = .int k n) (hnews : (Builtin.firstCells i.size m x).run P w = .ok news.toArray w) (h1 : ∀ u ∈ news, u.oneCell' = true)
  (hroom : sLen + m ≤ sCap) (hfit : o + sLen * i.size + news.length ≤ cur.size) :
  (Builtin.append_ #[t, t] ty #[.slice (some ⟨g, o, none⟩) sLen sCap, x]).run P w =
   .ok (.slice (some ⟨g, o, none⟩) (sLen + m) sCap) (w.setRow g (cur.toList.take (o + sLen * i.size) ++ news ++ cur.toList.drop (o + sLen * i.size + news.length)).toArray) := by
 have hst := run_storeCells_at P g (o + sLen * i.size) e news 0 cur w hg (by simpa using hfit) h1
 simp only [Nat.add_zero] at hst
 have ha : (⟨g, o, none⟩ : Addr).add (sLen * i.size) = ⟨g, o + sLen * i.size, none⟩ := addr_add _ _ _
 simp [Builtin.append_, run_underlying ht, sizeOf, typeInfo, hi, hlen, hroom, hnews, ha, hst]
theorem ownsAt_new {E size n : Nat} {xs : List Value} {cap : Nat} (hx : xs.length = n * size) (hc : n ≤ cap) (hm : cap ≤ maxLen) (zs : Array Value) (hz : zs.size = (cap - n) * size) :
  ownsAt (w.drew.alloc (.cells (xs.toArray ++ zs) E)) E size (.slice (some ⟨w.heap.size, 0, none⟩) n cap) n xs := by
 refine ⟨hx, .inr ⟨w.heap.size, 0, cap, _, rfl, alloc_new w _, hc, hm, ?_, ?_⟩⟩
 ·refine Nat.le_of_eq ?_
  simp only [Array.size_append, List.size_toArray, hx, hz, Nat.zero_add, ← Nat.add_mul]
  congr 1; omega
 ·simp only [List.drop_zero, Array.toList_append]
  rw [← hx]; exact List.take_left
theorem append_own (t ty e : TypeId) (i : TypeInfo) (z : Value) (ht : P.underlying t = some (.slice e)) (hi : P.info? e = some i) (hz : i.zero = some z) (hzs : z.cells.size = i.size) (hby : 1 ≤ i.bytes)
  (v : Value) (n : Nat) (xs : List Value) (hown : ownsAt w e i.size v n xs)
  (a : Addr) (m c : Nat) (news : List Value) (hl : news.length = m * i.size) (hnews : ∀ j u, news[j]? = some u → w.cell? (a.add j) = some u) (h1 : ∀ u ∈ news, u.oneCell' = true)
  (hbytes : (n + m) * i.bytes ≤ 140737488355328) :
  ∃ v' w', (Builtin.append_ #[t, t] ty #[v, .slice (some a) m c]).run P w = .ok v' w' ∧ ownsAt w' e i.size v' (n + m) (xs ++ news) ∧ Fr (blkOf v) w w' ∧ (∀ b ∈ blkOf v', b ∈ blkOf v ∨ w.heap.size ≤ b) := by
 have hnm : n + m ≤ 140737488355328 := Nat.le_trans (Nat.le_mul_of_pos_right _ hby) hbytes
 have h63 : n + m ≤ maxLen := by unfold maxLen; omega
 have hlen : (xs ++ news).length = (n + m) * i.size := by rw [List.length_append, hown.1, hl, Nat.add_mul]
 rcases hown.2 with ⟨rfl, rfl⟩ | ⟨g, o, cap, cur, rfl, hg, hnc, hcm, hcs, htake⟩
 ·have hx : xs = [] := List.eq_nil_of_length_eq_zero (by simpa using hown.1)
  subst hx
  by_cases hm : m = 0
  ·subst hm
   have hn : news = [] := List.eq_nil_of_length_eq_zero (by simpa using hl)
   subst hn
   refine ⟨.slice none 0 0, w, ?_, ⟨by simp, .inl ⟨rfl, rfl⟩⟩, Fr.refl _ _, fun b hb => by simp [blkOf] at hb⟩
   simp [Builtin.append_, run_underlying ht, sizeOf, typeInfo, hi, Builtin.lenOf, Builtin.firstCells, loadCells, loadCellsFrom]
  ·have hr := run_append_nil (P := P) w t ty e i z ht hi hz a m c news hl hnews (by omega) (by omega) (by simp only [Nat.zero_add] at hbytes; omega)
   have hge := grownCap_ge w m 0 e
   have hcm := grownCap_le_maxLen w m 0 e (by simpa using h63)
   simp only [Nat.zero_add, List.nil_append] at hlen ⊢
   refine ⟨_, _, hr, ownsAt_new hlen hge hcm _ (by rw [size_zeroCells, hzs]), fr_drew_alloc _ _ _, fun b hb => ?_⟩
   simp only [blkOf, List.mem_singleton] at hb
   exact .inr (by omega)
 ·by_cases hroom : n + m ≤ cap
  ·have hfit : o + n * i.size + news.length ≤ cur.size := by
    refine Nat.le_trans ?_ hcs; rw [hl, Nat.add_assoc, ← Nat.add_mul]; exact Nat.add_le_add_left (Nat.mul_le_mul_right _ hroom) _
   have hf := run_firstCells_some (P := P) w i.size m a m c news hl hnews
   have hr := append_room (P := P) (w := w) t ty e i ht hi g o n cap cur hg (.slice (some a) m c) m rfl news hl (by rintro ⟨k, q, h⟩; cases h) hf h1 hroom hfit
   refine ⟨_, _, hr, ⟨hlen, .inr ⟨g, o, cap, _, rfl, setRow_heap w g cur _ e _ hg, hroom, hcm, ?_, ?_⟩⟩, (Fr.refl _ _).setRow (.inl (by simp [blkOf])) _, fun b hb => .inl hb⟩
   ·simp only [List.size_toArray, List.length_append, List.length_take, List.length_drop, Array.length_toList]
    omega
   ·have hol : o + n * i.size ≤ cur.toList.length := by simp only [Array.length_toList]; omega
    have e1 : (cur.toList.take (o + n * i.size)).drop o = xs := by
     rw [← htake, List.drop_take, Nat.add_sub_cancel_left]
    rw [List.append_assoc, List.drop_append_of_le_length (by rw [List.length_take]; omega), e1, ← hlen, ← List.append_assoc]
    exact List.take_left
  ·have holds : ∀ j u, xs[j]? = some u → w.cell? ((⟨g, o, none⟩ : Addr).add j) = some u := by
    intro j u hu
    rw [addr_add, cell_of_row w g _ _ _ _ hg]
    have hj : j < n * i.size := by
     rcases Nat.lt_or_ge j (n * i.size) with h' | h'
     ·exact h'
     ·rw [List.getElem?_eq_none (by rw [hown.1]; exact h')] at hu; cases hu
    rw [← htake, List.getElem?_take_of_lt hj, List.getElem?_drop] at hu
    simpa using hu
   have hr := run_append_grow (P := P) w t ty e i z ht hi hz ⟨g, o, none⟩ n cap xs hown.1 holds a m c news hl hnews (by omega) (by omega) (growslice_fits (by omega) hbytes)
   have hge := grownCap_ge w (n + m) cap e
   have hcm' := grownCap_le_maxLen w (n + m) cap e h63
   have ow := ownsAt_new (w := w) (E := e) hlen hge hcm' (Builtin.zeroCells z.cells (grownCap w (n + m) cap e - (n + m))) (by rw [size_zeroCells, hzs])
   refine ⟨_, _, hr, ?_, fr_drew_alloc _ _ _, fun b hb => ?_⟩
   ·simpa using ow
   ·simp only [blkOf, List.mem_singleton] at hb
    exact .inr (by omega)
end
end Go.Vc
