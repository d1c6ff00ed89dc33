/- Walks: comparing, counting, limits. -/
import Derived.Test.YtjilbkioieicbaaW7
namespace Go.Proofs.Ytjilbkioieicbaa
open Go.Vc Rt
set_option linter.unusedVariables false
set_option linter.unusedSimpArgs false
theorem count_c (xs : List Span) (S : List Nat) (v : Value) (w : World) (h : SlOf spT S w v xs) (hN : xs.length ≤ 1000000) : Ans Try.prog 27 [v] (.i (count xs)) w := by
  replace h := h.avoid (S' := []) (fun b hb => by cases hb)
  have hnl := norm_len xs
  have hval := norm_valid (l := xs)
  have hcount : count xs = total (norm xs) := rfl
  refine calls_plainB [.x v] Try.func27 rfl rfl (Nat.le_of_ble_eq_true rfl) rfl fun B hB => ?_
  repeat refine At.seq ?_
  refine At.region tab_ok ?_
  conv => whnf
  repeat refine At.seq ?_
  refine At.region tab_ok ?_
  conv => whnf
  repeat refine At.seq ?_
  refine At.region tab_ok ?_
  conv => whnf
  refine ansR_call b67 (rd1 (nopS (norm xs))) (fun w' hw => norm_c xs [] v w' (h.fr hw.fr) hN) ?_
  intro v1
  conv => whnf
  refine ⟨rfl, ?_⟩
  conv => whnf
  rw [hcount] at *
  generalize norm xs = ys at *
  have hs : ∀ k, 0 ≤ total (ys.take k) ∧ total (ys.take k) ≤ 1048576000000 := fun k => by
    have := total_bound (l := ys.take k) fun s hs => hval s (List.mem_of_mem_take hs)
    have : (ys.take k).length ≤ ys.length := by simp; omega
    omega
  repeat refine At.seq ?_
  refine At.block ?_
  refine At.loopH (fun k : Nat => { N := Try.f27.ntmps, sl := [(3, some (.i (total (ys.take k)))), (7, some (.s (.c (.o 0 v1)))), (8, some (.i ys.length)), (9, some (.i k))], gl := [], hp := [(0, .row v1 56 3 (ys.map encS))], S := [], ws := w }) (fun k => k ≤ ys.length) (fun k => ys.length - k)
    (fun w' hw => ⟨0, Nat.zero_le _, Le.of rfl rfl ⟨rfl, rfl, congrArg (Value.int .i64) (by simp), rfl, trivial⟩, hw.same rfl rfl rfl, ⟨⟨_, _, _, rfl⟩, trivial⟩, ⟨(nopS _).okH, trivial⟩⟩) ?_
  intro k hk
  repeat refine At.seq ?_
  refine At.region tab_ok ?_
  conv => whnf
  repeat refine At.seq ?_
  refine At.cond rfl (fun hc => At.skip ?_) (fun hc => At.exit ?_)
  · have hlt : k < ys.length := by have := of_decide_eq_true hc; omega
    obtain ⟨x, hx⟩ : ∃ x, ys[k]? = some x := ⟨_, List.getElem?_eq_getElem hlt⟩
    have hvx := hval x (List.mem_of_getElem? hx)
    have e : total (ys.take (k + 1)) = total (ys.take k) + (x.t - x.f) := by rw [List.take_add_one, hx, total_append]; simp [total]
    have h1 := hs (k + 1)
    rw [e] at h1
    have hvb : 0 ≤ x.f ∧ x.f < x.t ∧ x.t ≤ 1048576 := by unfold valid at hvx; simp at hvx; omega
    repeat refine At.seq ?_
    refine At.block ?_
    repeat refine At.seq ?_
    refine At.region tab_ok ?_
    conv => whnf
    refine ⟨rfl, ?_⟩
    conv => whnf
    refine ⟨by omega, ?_⟩
    conv => whnf
    refine ⟨by simp; omega, ?_⟩
    conv => whnf
    refine ⟨encS x, ⟨rfl, rfl, by omega, by simp [hx]⟩, ?_⟩
    conv => whnf
    intro b
    conv => whnf
    repeat refine At.seq ?_
    refine At.region tab_ok ?_
    conv => whnf
    refine ⟨⟨by omega, by omega⟩, ?_⟩
    conv => whnf
    refine ⟨⟨by omega, by omega⟩, ?_⟩
    conv => whnf
    repeat refine At.seq ?_
    refine At.region tab_ok ?_
    conv => whnf
    refine ⟨⟨by omega, by omega⟩, ?_⟩
    conv => whnf
    exact At.nextH fun w' hw => ⟨k + 1, by omega, by omega, Le.of rfl rfl ⟨congrArg (Value.int .i64) e.symm, rfl, rfl, rfl, trivial⟩, hw.keep [0] rfl rfl rfl, ⟨⟨_, _, _, rfl⟩, trivial⟩, ⟨(nopS _).okH, trivial⟩⟩
  · have hge : k = ys.length := by have := of_decide_eq_false hc; omega
    subst hge
    repeat refine At.seq ?_
    refine At.region tab_ok ?_
    conv => whnf
    repeat refine At.seq ?_
    refine At.ret (At.doneB tab_ok hB _ rfl fun w' hw => ⟨?_, hw.fr⟩)
    rw [List.take_length]
end Go.Proofs.Ytjilbkioieicbaa
