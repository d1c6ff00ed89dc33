/- Walks: the examples of rights. -/
import Derived.Test.YtjilbkioieicbaaS1
namespace Go.Proofs.Ytjilbkioieicbaa
open Go.Vc Rt
set_option linter.unusedVariables false
set_option linter.unusedSimpArgs false
def relAll {α : Type} (T : Ty α) (S : List Nat) (w : World) : List α → List (List CV) → Prop
  | [], [] => True
  | x :: xs, l :: L => (∃ l', dens l' = dens l ∧ T.rel S w x l') ∧ relAll T S w xs L
  | _, _ => False
theorem relAll_len {α : Type} {T : Ty α} {S : List Nat} {w : World} : ∀ {xs : List α} {L : List (List CV)}, relAll T S w xs L → xs.length = L.length
  | [], [], _ => rfl
  | x :: xs, l :: L, h => by simp [relAll_len h.2]
  | [], _ :: _, h => h.elim
  | _ :: _, [], h => h.elim
theorem relAll_get {α : Type} {T : Ty α} {S : List Nat} {w : World} : ∀ {xs : List α} {L : List (List CV)}, relAll T S w xs L → ∀ (i : Nat) x, xs[i]? = some x → ∃ l l', L[i]? = some l ∧ dens l' = dens l ∧ T.rel S w x l'
  | [], [], _, i, x, hx => by simp at hx
  | y :: xs, l :: L, h, 0, x, hx => by
    simp at hx; subst hx
    obtain ⟨l', h1, h2⟩ := h.1
    exact ⟨l, l', rfl, h1, h2⟩
  | y :: xs, l :: L, h, i + 1, x, hx => relAll_get h.2 i x (by simpa using hx)
  | [], _ :: _, h, _, _, _ => h.elim
  | _ :: _, [], h, _, _, _ => h.elim
theorem SlOf.of_rows {α : Type} {T : Ty α} {S : List Nat} {w : World} {v : Value} {E : Nat} {xs : List α} {L : List (List CV)} (h : (LO.row v E T.size L).holds w) (hS : ∀ b ∈ blkOf v, b ∉ S) (hsm : xs.length ≤ 9223372036854775807) (hr : relAll T S w xs L) : SlOf T S w v xs := by
  obtain ⟨a, c, rfl, hlc, hnil⟩ := row_slice h
  have hll := relAll_len hr
  refine ⟨⟨a, L.length, c, rfl, hnil, hlc⟩, ?_, hsm, fun b n c' e hp => ?_, fun i x hx => ?_⟩
  · cases a with
    | none => simp [slen]; have := (hnil rfl).1; omega
    | some a => simp [slen, hll]
  · cases e
    refine ⟨hS _ (by simp [blkOf]), ?_⟩
    obtain ⟨⟨_, ⟨he, _⟩ | ⟨g, o, cap, cur, he, hg, _⟩⟩, _⟩ := h
    · cases he
    · cases he
      exact (Array.getElem?_eq_some_iff.1 hg).1
  · obtain ⟨l, l', h1, h2, h3⟩ := relAll_get hr i x hx
    refine ⟨l', h3, fun a' n c' e j u hu => ?_⟩
    rw [h2] at hu
    exact row_cells h h1 a' n c' e j u hu
theorem nilS {b : Nat} : b ∉ ([] : List Nat) := fun h => by cases h
theorem slS {w : World} {v : Value} {E : Nat} (xs : List Span) (h : (LO.row v E 3 (xs.map encS)).holds w) (hl : xs.length ≤ 1000000) : SlOf spT [] w v xs := SlOf.of_row h (fun _ _ => nilS) (by omega)
theorem slL {w : World} {v : Value} {E : Nat} (xs : List Lot) (h : (LO.row v E 7 (xs.map encL)).holds w) (hl : xs.length ≤ 1000000) : SlOf loT [] w v xs := SlOf.of_row h (fun _ _ => nilS) (by omega)
theorem slI {w : World} {v : Value} {E : Nat} (xs : List Int) (h : (LO.row v E 1 (xs.map encI)).holds w) (hl : xs.length ≤ 1000000) : SlOf intT [] w v xs := SlOf.of_row (enc := fun n => [.i n]) h (fun _ _ => nilS) (by omega)
theorem small27_c (w : World) : Ans Try.prog 24 [] (.b true) w := by
  refine calls_plainB [] Try.func24 rfl rfl (Nat.le_of_ble_eq_true rfl) rfl fun B hB => ?_
  repeat refine At.seq ?_
  refine At.region tab_ok ?_
  conv => whnf
  repeat refine At.seq ?_
  refine At.region tab_ok ?_
  conv => whnf
  refine ansR_call b65 (rd1 (nopS _)) (fun w' hw => span_c 0 10 w') ?_
  intro v0
  conv => whnf
  refine ansR_call b65 (rd1 (nopS _)) (fun w' hw => span_c 0 4 w') ?_
  intro v1
  conv => whnf
  refine ansR_call b65 (rd1 (nopS _)) (fun w' hw => span_c 3 5 w') ?_
  intro v2
  conv => whnf
  refine ansR_call b65 (rd1 (nopS _)) (fun w' hw => span_c 4 6 w') ?_
  intro v3
  conv => whnf
  refine ansR_call b65 (rd1 (nopS _)) (fun w' hw => span_c 5 7 w') ?_
  intro v4
  conv => whnf
  refine ansR_call b65 (rd1 (nopS _)) (fun w' hw => span_c 4 6 w') ?_
  intro v5
  conv => whnf
  refine ansR_call b65 (rd1 (nopS _)) (fun w' hw => span_c 4 6 w') ?_
  intro v6
  conv => whnf
  refine ansR_call b65 (rd1 (nopS _)) (fun w' hw => span_c 0 2 w') ?_
  intro v7
  conv => whnf
  refine ansR_call b65 (rd1 (nopS _)) (fun w' hw => span_c 1 3 w') ?_
  intro v8
  conv => whnf
  refine ansR_call b65 (rd1 (nopS _)) (fun w' hw => span_c 9 11 w') ?_
  intro v9
  conv => whnf
  intro vd
  conv => whnf
  have hD : ∀ {st : St} {w' : World} (hw : Holds st w') (h0 : Vc.look st.hp 0 = some (.row v0 56 3 ([⟨0, 0, 10⟩].map encS))) (h1 : Vc.look st.hp 1 = some (.row v1 56 3 ([⟨0, 0, 4⟩].map encS))) (h2 : Vc.look st.hp 2 = some (.row v2 56 3 ([⟨0, 3, 5⟩].map encS))) (h3 : Vc.look st.hp 3 = some (.row v3 56 3 ([⟨0, 4, 6⟩].map encS))) (h4 : Vc.look st.hp 4 = some (.row v4 56 3 ([⟨0, 5, 7⟩].map encS))) (h5 : Vc.look st.hp 5 = some (.row v5 56 3 ([⟨0, 4, 6⟩].map encS))) (h6 : Vc.look st.hp 6 = some (.row v6 56 3 ([⟨0, 4, 6⟩].map encS))) (h7 : Vc.look st.hp 7 = some (.row v7 56 3 ([⟨0, 0, 2⟩].map encS))) (h8 : Vc.look st.hp 8 = some (.row v8 56 3 ([⟨0, 1, 3⟩].map encS))) (h9 : Vc.look st.hp 9 = some (.row v9 56 3 ([⟨0, 9, 11⟩].map encS))) (hd : Vc.look st.hp 10 = some (.row vd 54 7 [[.i 0, .i 0, .i 3, .i 0, .i 0, .i 0, .o 0 v0], [.i 1, .i 1, .i 3, .i 5, .i 0, .i 0, .o 1 v1], [.i 2, .i 1, .i 5, .i 6, .i 0, .i 0, .o 2 v2], [.i 3, .i 2, .i 3, .i 5, .i 0, .i 9, .o 3 v3], [.i 4, .i 3, .i 3, .i 0, .i 0, .i 0, .o 4 v4], [.i 5, .i 1, .i 5, .i 6, .i 0, .i 0, .o 5 v5], [.i 6, .i 1, .i 5, .i 3, .i 0, .i 0, .o 6 v6], [.i 7, .i 3, .i 5, .i 0, .i 0, .i 0, .o 7 v7], [.i 8, .i 1, .i 5, .i 3, .i 0, .i 0, .o 8 v8], [.i 9, .i 1, .i 3, .i 5, .i 0, .i 0, .o 9 v9]])), SlOf deT [] w' vd sD := fun {st w'} hw h0 h1 h2 h3 h4 h5 h6 h7 h8 h9 hd =>
    SlOf.of_rows (hw.row hd) (fun _ _ => nilS) (by decide) ⟨⟨encD _ v0, rfl, v0, rfl, slS [⟨0, 0, 10⟩] (hw.row h0) (by decide)⟩, ⟨encD _ v1, rfl, v1, rfl, slS [⟨0, 0, 4⟩] (hw.row h1) (by decide)⟩, ⟨encD _ v2, rfl, v2, rfl, slS [⟨0, 3, 5⟩] (hw.row h2) (by decide)⟩, ⟨encD _ v3, rfl, v3, rfl, slS [⟨0, 4, 6⟩] (hw.row h3) (by decide)⟩, ⟨encD _ v4, rfl, v4, rfl, slS [⟨0, 5, 7⟩] (hw.row h4) (by decide)⟩, ⟨encD _ v5, rfl, v5, rfl, slS [⟨0, 4, 6⟩] (hw.row h5) (by decide)⟩, ⟨encD _ v6, rfl, v6, rfl, slS [⟨0, 4, 6⟩] (hw.row h6) (by decide)⟩, ⟨encD _ v7, rfl, v7, rfl, slS [⟨0, 0, 2⟩] (hw.row h7) (by decide)⟩, ⟨encD _ v8, rfl, v8, rfl, slS [⟨0, 1, 3⟩] (hw.row h8) (by decide)⟩, ⟨encD _ v9, rfl, v9, rfl, slS [⟨0, 9, 11⟩] (hw.row h9) (by decide)⟩, trivial⟩
  repeat refine At.seq ?_
  refine At.region tab_ok ?_
  conv => whnf
  refine ansR_call b26 (rd2 (nopL _) (nopI _)) (fun w' hw => lots_c sD [] vd w' (hD hw rfl rfl rfl rfl rfl rfl rfl rfl rfl rfl rfl) (by decide) (lots_ok s_spans (by decide))) ?_
  intro va
  conv => whnf
  intro ve
  conv => whnf
  repeat refine At.seq ?_
  refine At.region tab_ok ?_
  conv => whnf
  refine ⟨rfl, ?_⟩
  conv => whnf
  refine ⟨by decide, ?_⟩
  conv => whnf
  refine ⟨by decide, ?_⟩
  conv => whnf
  refine ⟨Or.inl (by simp), ?_⟩
  conv => whnf
  refine ansR_call b26 (rd2 (nopL _) (nopI _)) (fun w' hw => lots_c (sD.take 4) [] _ w' ((hD hw rfl rfl rfl rfl rfl rfl rfl rfl rfl rfl rfl).part (lo := 0) (hi := 4) (by decide) (by decide) (by decide)) (by decide) (lots_ok (fun d hd => s_spans d (List.mem_of_mem_take hd)) (by decide))) ?_
  intro vb
  conv => whnf
  intro vf
  conv => whnf
  rw [s_errs, s_end, s_lent]
  repeat refine At.seq ?_
  refine At.region tab_ok ?_
  conv => whnf
  intro vw
  conv => whnf
  repeat refine At.seq ?_
  refine At.region tab_ok ?_
  conv => whnf
  intro vx
  conv => whnf
  repeat refine At.seq ?_
  refine At.region tab_ok ?_
  conv => whnf
  intro vy
  conv => whnf
  repeat refine At.seq ?_
  refine At.region tab_ok ?_
  conv => whnf
  refine ans_call b34 rfl (fun w' hw => sameErrs_c sErr sErr [] [] ve vw w' (slI sErr (hw.row (id := 12) rfl) (by decide)) (slI sErr (hw.row (id := 15) rfl) (by decide))) ?_
  conv => whnf
  refine ⟨.b (decide (sEnd = sEnd)), by simp only [gimp]; intro _; exact ans_quiet b31 (fun w' hw => sameLots_c sEnd sEnd [] [] va vx w' (slL sEnd (hw.row (id := 11) rfl) (by decide)) (slL sEnd (hw.row (id := 16) rfl) (by decide))), ?_⟩
  conv => whnf
  refine ⟨.b (decide (sLent = sLent)), by simp only [gimp]; intro _; exact ans_quiet b31 (fun w' hw => sameLots_c sLent sLent [] [] vb vy w' (slL sLent (hw.row (id := 13) rfl) (by decide)) (slL sLent (hw.row (id := 17) rfl) (by decide))), ?_⟩
  conv => whnf
  repeat refine At.seq ?_
  refine At.regionS tab_ok ?_
  conv => whnf
  refine ⟨fun _ => ?_, fun h => by simp at h⟩
  conv => whnf
  refine ⟨fun _ => ?_, fun h => by simp at h⟩
  conv => whnf
  refine ans_call b30 rfl (fun w' hw => sum_c sEnd [] va w' (slL sEnd (hw.row (id := 11) rfl) (by decide)) (by decide)) ?_
  conv => whnf
  refine ⟨fun _ => ?_, fun h => by simp at h⟩
  conv => whnf
  refine ⟨fun _ => ?_, fun h => by simp [s_sum] at h⟩
  conv => whnf
  refine ⟨fun _ => ?_, fun h => by simp [s_sum] at h⟩
  conv => whnf
  refine ansR_call b28 (rd1 (nopS _)) (fun w' hw => owned_c sLent 3 [] vb w' (slL sLent (hw.row (id := 13) rfl) (by decide)) (by decide)) ?_
  intro vo
  conv => whnf
  refine ⟨fun _ => ?_, fun h => by simp [s_sum] at h⟩
  conv => whnf
  refine ansR_call b65 (rd1 (nopS _)) (fun w' hw => span_c 4 10 w') ?_
  intro vp
  conv => whnf
  refine ⟨fun _ => ?_, fun h => by simp [s_sum] at h⟩
  conv => whnf
  refine ans_call b35 rfl (fun w' hw => sameSpans_c _ [⟨0, 4, 10⟩] [] [] vo vp w' (slS _ (hw.row (id := 18) rfl) (by rw [s_owned]; decide)) (slS _ (hw.row (id := 19) rfl) (by decide))) ?_
  conv => whnf
  refine ⟨fun _ => ?_, fun h => by simp [s_sum, s_owned] at h⟩
  conv => whnf
  refine ⟨fun _ => ?_, fun h => by simp [s_sum, s_owned] at h⟩
  conv => whnf
  refine ansR_call b29 (rd1 (nopS _)) (fun w' hw => held_c sLent 5 [] vb w' (slL sLent (hw.row (id := 13) rfl) (by decide)) (by decide)) ?_
  intro vq
  conv => whnf
  refine ⟨fun _ => ?_, fun h => by simp [s_sum, s_owned] at h⟩
  conv => whnf
  refine ansR_call b65 (rd1 (nopS _)) (fun w' hw => span_c 0 6 w') ?_
  intro vr
  conv => whnf
  refine ⟨fun _ => ?_, fun h => by simp [s_sum, s_owned] at h⟩
  conv => whnf
  refine ans_call b35 rfl (fun w' hw => sameSpans_c _ [⟨0, 0, 6⟩] [] [] vq vr w' (slS _ (hw.row (id := 20) rfl) (by rw [s_held]; decide)) (slS _ (hw.row (id := 21) rfl) (by decide))) ?_
  conv => whnf
  repeat refine At.seq ?_
  refine At.ret (At.doneB tab_ok hB _ rfl fun w' hw => ⟨?_, hw.fr⟩)
  simp [s_sum, s_owned, s_held, RV.den, SV.den, CV.den]
end Go.Proofs.Ytjilbkioieicbaa
