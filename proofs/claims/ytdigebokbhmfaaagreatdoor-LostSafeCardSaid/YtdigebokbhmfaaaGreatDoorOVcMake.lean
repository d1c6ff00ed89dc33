/- Texts that the law leans on. -/
import Derived.Test.YtdigebokbhmfaaaGreatDoorOVcEff
set_option linter.unusedVariables false
set_option linter.unusedSimpArgs false
namespace Go.Vc
open Go.RowKit
theorem made_eq (z : Array Value) (zero : List CV) (hz : z.toList = dens zero) (n : Nat) (hpos : 0 < zero.length) :
  (madeCells z (n * zero.length)).toList = dens (List.replicate n zero).flatten := by
 have hsz : z.size = zero.length := by rw [← Array.length_toList, hz]; simp [dens]
 apply List.ext_getElem?
 intro k
 by_cases hk : k < n * zero.length
 ·have hq : k / zero.length < n := Nat.div_lt_of_lt_mul (by rw [Nat.mul_comm]; exact hk)
  have hr := Nat.mod_lt k hpos
  have hk' : k / zero.length * zero.length + k % zero.length = k := by rw [Nat.mul_comm]; exact Nat.div_add_mod k zero.length
  have e := flatten_get (size := zero.length) (L := List.replicate n zero) (fun l hl => by rw [List.eq_of_mem_replicate hl]) (k := k / zero.length) (row := zero) (by simp [hq]) (k % zero.length) hr
  rw [hk'] at e
  have e2 : (dens (List.replicate n zero).flatten)[k]? = (dens zero)[k % zero.length]? := by
   simp only [dens, List.getElem?_map, e]
  rw [e2, ← hz]
  unfold madeCells
  simp [hk, hsz, hr]
 ·rw [List.getElem?_eq_none (by simp [madeCells]; omega), List.getElem?_eq_none (by simp only [dens, List.length_map]; rw [flatten_len (size := zero.length) (fun l hl => by rw [List.eq_of_mem_replicate hl])]; simp; omega)]
theorem flatten_take {β : Type} {size : Nat} : ∀ {L : List (List β)} (_ : ∀ l ∈ L, l.length = size) (k : Nat), (L.take k).flatten = L.flatten.take (k * size)
 | [], _, k => by simp
 | l :: L, h, 0 => by simp
 | l :: L, h, k + 1 => by
  have h1 := h l (by simp)
  have ih := flatten_take (L := L) (fun x hx => h x (by simp [hx])) k
  simp only [List.take_succ_cons, List.flatten_cons, ih]
  have e : (k + 1) * size - l.length = k * size := by rw [h1, Nat.add_mul]; omega
  have e2 : l.take ((k + 1) * size) = l := List.take_of_length_le (by rw [h1, Nat.add_mul]; omega)
  rw [List.take_append, e, e2]
theorem flatten_drop {β : Type} {size : Nat} : ∀ {L : List (List β)} (_ : ∀ l ∈ L, l.length = size) (k : Nat), (L.drop k).flatten = L.flatten.drop (k * size)
 | [], _, k => by simp
 | l :: L, h, 0 => by simp
 | l :: L, h, k + 1 => by
  have h1 := h l (by simp)
  have ih := flatten_drop (L := L) (fun x hx => h x (by simp [hx])) k
  simp only [List.drop_succ_cons, List.flatten_cons, ih]
  have e : (k + 1) * size - l.length = k * size := by rw [h1, Nat.add_mul]; omega
  have e2 : l.drop ((k + 1) * size) = [] := List.drop_eq_nil_of_le (by rw [h1, Nat.add_mul]; omega)
  rw [List.drop_append, e, e2, List.nil_append]
def spliceR (L rows : List (List CV)) (lo : Nat) : List (List CV) := L.take lo ++ rows ++ L.drop (lo + rows.length)
theorem spliceR_length {L rows : List (List CV)} {lo : Nat} (h : lo + rows.length ≤ L.length) : (spliceR L rows lo).length = L.length := by
 simp [spliceR]; omega
theorem row_write {P : Program} {w : World} {E size : Nat} {L rows : List (List CV)} {ad : Addr} {n c : Nat} (h : (LO.row (.slice (some ad) n c) E size L).holds w) {lo : Nat} (hlo : lo + rows.length ≤ L.length)
  (hrows : ∀ l ∈ rows, l.length = size) (hone : ∀ u ∈ dens rows.flatten, u.oneCell' = true) :
  ∃ w', (storeCells (ad.add (lo * size)) (dens rows.flatten)).run P w = .ok () w' ∧ Fr (blkOf (.slice (some ad) n c)) w w' ∧ (LO.row (.slice (some ad) n c) E size (spliceR L rows lo)).holds w' := by
 obtain ⟨⟨hlen, hown⟩, hL⟩ := h
 rcases hown with ⟨he, _⟩ | ⟨g, o, cap, cur, he, hg, hn, hcm, hcs, htake⟩
 ·cases he
 ·cases he
  have hb : lo * size + rows.length * size ≤ L.length * size := by
   rw [← Nat.add_mul]; exact Nat.mul_le_mul_right _ hlo
  have hcapn : L.length * size ≤ c * size := Nat.mul_le_mul_right _ hn
  have hdl : (dens rows.flatten).length = rows.length * size := by simp only [dens, List.length_map]; exact flatten_len hrows
  have hst := run_storeCells_at P g (o + lo * size) E (dens rows.flatten) 0 cur w hg (by rw [hdl]; omega) hone
  rw [Nat.add_zero, hdl] at hst
  have hset : ∀ x ∈ spliceR L rows lo, x.length = size := by
   intro x hx
   simp only [spliceR, List.mem_append] at hx
   rcases hx with (hx | hx) | hx
   ·exact hL x (List.mem_of_mem_take hx)
   ·exact hrows x hx
   ·exact hL x (List.mem_of_mem_drop hx)
  refine ⟨_, by rw [addr_add]; exact hst, (Fr.refl _ _).setRow (.inl (by simp [blkOf])) _, ⟨by simp only [dens, List.length_map]; exact flatten_len hset, .inr ⟨g, o, c, _, by rw [spliceR_length hlo], setRow_heap w g cur _ E _ hg, by rw [spliceR_length hlo]; exact hn, hcm, ?_, ?_⟩⟩, hset⟩
  ·simp only [List.size_toArray, List.length_append, List.length_take, List.length_drop, Array.length_toList, hdl]
   omega
  ·have hol : o + lo * size ≤ cur.toList.length := by simp only [Array.length_toList]; omega
   rw [spliceR_length hlo]
   rw [List.append_assoc, List.drop_append_of_le_length (by rw [List.length_take]; omega), List.drop_take, Nat.add_sub_cancel_left, ← List.append_assoc]
   have e3 : cur.toList.drop (o + lo * size + rows.length * size) = (cur.toList.drop o).drop (lo * size + (dens rows.flatten).length) := by
    rw [List.drop_drop, hdl, Nat.add_assoc]
   rw [e3, splice_take _ _ _ _ (by rw [hdl]; omega) (by simp only [List.length_drop, Array.length_toList]; omega), htake, hdl]
   simp only [spliceR, dens, List.flatten_append, List.map_append, flatten_take hL, flatten_drop hL, List.map_take, List.map_drop, Nat.add_mul]
theorem row_slice {w : World} {v : Value} {E size : Nat} {L : List (List CV)} (h : (LO.row v E size L).holds w) : ∃ a c, v = .slice a L.length c ∧ L.length ≤ c ∧ (a = none → L.length = 0 ∧ c = 0) := by
 obtain ⟨⟨_, ⟨rfl, h0⟩ | ⟨g, o, cap, cur, rfl, hg, hlc, _⟩⟩, _⟩ := h
 ·exact ⟨none, 0, by rw [h0], by omega, fun _ => ⟨h0, rfl⟩⟩
 ·exact ⟨_, cap, rfl, hlc, fun h => by cases h⟩
theorem SrcOk.len {P : Program} {w : World} {u : Value} {size : Nat} {rows : List (List CV)} (h : SrcOk w u size rows) : (Builtin.lenOf u).run P w = .ok rows.length w := by
 obtain ⟨_, _, ⟨a, c, rfl, _⟩ | ⟨rfl, rfl⟩⟩ := h
 ·simp [Builtin.lenOf]
 ·simp [Builtin.lenOf]
theorem SrcOk.first {P : Program} {w : World} {u : Value} {size : Nat} {rows : List (List CV)} (h : SrcOk w u size rows) {m : Nat} (hm : m ≤ rows.length) : (Builtin.firstCells size m u).run P w = .ok (dens (rows.take m).flatten).toArray w := by
 obtain ⟨h1, _, ⟨a, c, rfl, h3⟩ | ⟨rfl, rfl⟩⟩ := h
 ·refine run_firstCells_some (P := P) w size m a rows.length c (dens (rows.take m).flatten) ?_ ?_
  ·simp only [dens, List.length_map]
   rw [flatten_len (size := size) fun l hl => h1 l (List.mem_of_mem_take hl), List.length_take, Nat.min_eq_left hm]
  ·intro j u hu
   refine h3 j u ?_
   rw [flatten_take h1] at hu
   simp only [dens, List.map_take] at hu ⊢
   rw [List.getElem?_take] at hu
   split at hu
   ·exact hu
   ·cases hu
 ·simp [Builtin.firstCells, dens]
def SrcN (w : World) (u : Value) (size : Nat) (rows : List (List CV)) (k : Nat) : Prop :=
 (∀ l ∈ rows, l.length = size) ∧ (∀ l ∈ rows, ∀ c ∈ l, c.den.oneCell' = true) ∧
  ((∃ a n c, u = .slice (some a) n c ∧ rows.length = Nat.min n k ∧ ∀ j x, (dens rows.flatten)[j]? = some x → w.cell? (a.add j) = some x) ∨ (∃ c, u = .slice none 0 c ∧ rows = []))
theorem copy_own {P : Program} {w : World} (t t' ty e : TypeId) (i : TypeInfo) (ht : P.underlying t = some (.slice e)) (hi : P.info? e = some i) {v : Value} {E : Nat} {L rows : List (List CV)} (h : (LO.row v E i.size L).holds w) {lo : Nat} (hlo : lo + rows.length ≤ L.length)
  {u : Value} (hsrc : SrcN w u i.size rows (L.length - lo)) : ∃ w', (Builtin.copy_ #[t, t'] ty #[subV v i.size lo L.length, u]).run P w = .ok (.int .i64 rows.length) w' ∧ Fr (blkOf v) w w' ∧
   (LO.row v E i.size (spliceR L rows lo)).holds w' := by
 obtain ⟨a, c, rfl, hlc, hnil⟩ := row_slice h
 obtain ⟨h1, h2, h3⟩ := hsrc
 have hone : ∀ u ∈ dens rows.flatten, u.oneCell' = true := by
  intro u hu
  simp only [dens, List.mem_map, List.mem_flatten] at hu
  obtain ⟨c, ⟨l, hl, hc⟩, rfl⟩ := hu
  exact h2 l hl c hc
 have hlen : (dens rows.flatten).length = rows.length * i.size := by simp only [dens, List.length_map]; exact flatten_len h1
 obtain ⟨n, hl, hm, hf⟩ : ∃ n, (Builtin.lenOf u).run P w = .ok n w ∧ Nat.min n (L.length - lo) = rows.length ∧ (Builtin.firstCells i.size rows.length u).run P w = .ok (dens rows.flatten).toArray w := by
  rcases h3 with ⟨a', n, c', rfl, h4, h5⟩ | ⟨c', rfl, rfl⟩
  ·exact ⟨n, by simp [Builtin.lenOf], h4.symm, run_firstCells_some (P := P) w i.size rows.length a' n c' _ hlen h5⟩
  ·exact ⟨0, by simp [Builtin.lenOf], by simp, by simp [Builtin.firstCells, dens]⟩
 by_cases h0 : rows.length = 0
 ·have hr : rows = [] := List.eq_nil_of_length_eq_zero h0
  subst hr
  refine ⟨w, ?_, Fr.refl _ _, by simpa [spliceR] using h⟩
  simp only [List.flatten_nil, List.length_nil] at hf hm ⊢
  simp only [Builtin.copy_, subV, Sem.run_bind, Result.andThen_ok, List.getElem?_toArray, List.getElem?_cons_zero, List.getElem?_cons_succ, run_underlying ht, hl, ok_sizeOf hi, Int.toNat_natCast, hm, hf, goInt]
  split
  ·simp [dens, storeCells]
  ·simp
 ·cases a with
  | none => have := (hnil rfl).1; omega
  | some ad =>
   have hne : c ≠ lo := by omega
   obtain ⟨w', k1, k2, k3⟩ := row_write (P := P) h (rows := rows) (lo := lo) hlo h1 hone
   refine ⟨w', ?_, k2, k3⟩
   simp only [Builtin.copy_, subV, Sem.run_bind, Result.andThen_ok, List.getElem?_toArray, List.getElem?_cons_zero, List.getElem?_cons_succ, run_underlying ht, hl, ok_sizeOf hi, Int.toNat_natCast, hm, hf, goInt, hne, if_false, Option.map_some, k1, Sem.run_pure]
theorem clear_own {P : Program} {w : World} (t ty e : TypeId) (i : TypeInfo) (z : Value) (ht : P.underlying t = some (.slice e)) (hi : P.info? e = some i) (hz : i.zero = some z) {zero : List CV} (hzc : z.cells.toList = dens zero) (hzl : zero.length = i.size) (hpos : 0 < i.size) (hzo : ∀ u ∈ dens zero, u.oneCell' = true) {v : Value} {E : Nat} {L : List (List CV)} (h : (LO.row v E i.size L).holds w) {lo : Nat} (hlo : lo ≤ L.length) :
  ∃ w', (Builtin.clear_ #[t] ty #[subV v i.size lo L.length]).run P w = .ok (.tuple #[]) w' ∧ Fr (blkOf v) w w' ∧ (LO.row v E i.size (spliceR L (List.replicate (L.length - lo) zero) lo)).holds w' := by
 obtain ⟨a, c, rfl, hlc, hnil⟩ := row_slice h
 by_cases h0 : L.length - lo = 0
 ·refine ⟨w, ?_, Fr.refl _ _, by simpa [spliceR, h0] using h⟩
  simp only [Builtin.clear_, subV, List.getElem?_toArray, List.getElem?_cons_zero, Sem.run_bind, run_underlying ht, Result.andThen_ok, Int.toNat_natCast, h0]
  generalize (if c = lo then a else Option.map (fun x => x.add (lo * i.size)) a) = b
  cases b <;> simp
 ·cases a with
  | none => have := (hnil rfl).1; omega
  | some ad =>
   have hne : c ≠ lo := by omega
   have hcells : (Builtin.zeroCells z.cells (L.length - lo)).toList = dens (List.replicate (L.length - lo) zero).flatten := by
    have hzs : z.cells.size = zero.length := by rw [← Array.length_toList, hzc]; simp [dens]
    rw [← made_eq z.cells zero hzc (L.length - lo) (by omega)]
    simp [Builtin.zeroCells, madeCells, hzs]
   obtain ⟨w', h1, h2, h3⟩ := row_write (P := P) h (rows := List.replicate (L.length - lo) zero) (lo := lo) (by simp; omega) (fun l hl => by rw [List.eq_of_mem_replicate hl]; exact hzl) (by
    intro u hu
    simp only [dens, List.mem_map, List.mem_flatten] at hu
    obtain ⟨c, ⟨l, hl, hc⟩, rfl⟩ := hu
    rw [List.eq_of_mem_replicate hl] at hc
    exact hzo _ (List.mem_map.2 ⟨c, hc, rfl⟩))
   refine ⟨w', ?_, h2, h3⟩
   obtain ⟨k, hk⟩ : ∃ k, L.length - lo = k + 1 := ⟨L.length - lo - 1, by omega⟩
   rw [hk] at hcells h1
   simp only [Builtin.clear_, subV, List.getElem?_toArray, List.getElem?_cons_zero, Sem.run_bind, run_underlying ht, Result.andThen_ok, Int.toNat_natCast, hk, hne, if_false, Option.map_some, ok_zeroValue hi hz, hcells, h1, Sem.run_pure]
end Go.Vc
