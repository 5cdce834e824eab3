/- What the law's parameter reads as; 'deep' walked for every answer that reads. -/
import Derived.Test.YtbdfjiobegadjaaDoorDeep
import Derived.Test.YtbdfjiobegadjaaDoorOpens
import Derived.OpenShut
namespace Go.Proofs.YtbdfjiobegadjaaDoor.Wr
open Go Go.RowKit Go.Proofs.YtbdfjiobegadjaaDoor.Op Go.Proofs.YtbdfjiobegadjaaDoor.Tk Go.Proofs.YtbdfjiobegadjaaDoor.PWireMemory Go.Proofs.YtbdfjiobegadjaaDoorW.PrintWords Go.Proofs.YtbdfjiobegadjaaDoorW.PrintLast Go.Proofs.YtbdfjiobegadjaaDoorW.PrintMore
set_option linter.unusedVariables false
set_option linter.unusedSectionVars false
set_option linter.unusedSimpArgs false
set_option maxRecDepth 100000
/-- An answer as it may come in: numbers are int64s, texts and lists have at most so many bytes, inner ones too. -/
inductive Fit24 : S24 → Prop
  | mk (x : S24) (h0 : -9223372036854775808 ≤ x.f0 ∧ x.f0 ≤ 9223372036854775807) (h1 : -9223372036854775808 ≤ x.f1 ∧ x.f1 ≤ 9223372036854775807) (h2 : x.f2.size ≤ 140737488351232) (h3 : x.f3.length * 56 ≤ 140737488351232) (h4 : ∀ y, y ∈ x.f3 → Fit24 y) : Fit24 x
theorem fit_range : ∀ {d : Nat} {x : S24}, Fit24 x → rangeD d x
  | 0, _, .mk x _ h1 _ _ _ => h1
  | d + 1, _, .mk x _ h1 _ _ h4 => ⟨h1, fun y hy => fit_range (h4 y hy)⟩
theorem cells24 : Tryd.prog.cellsOf 24 = 4 := by kernel_rfl
theorem bytes24 : Tryd.prog.bytesOf 24 = 56 := by kernel_rfl
theorem F24_up {w : World} {x : S24} {cs : List Value} (h : (F24 k24).K w x cs) : k24.K w x cs := by
  obtain ⟨_, _, rfl, rfl, ⟨_, _, rfl, rfl, ⟨_, _, rfl, rfl, ⟨A3, c3, rfl, l3, g3⟩⟩⟩⟩ := h
  exact k24_mk w x l3 g3
theorem opens24 (N : Nat) : ∀ n, n ≤ N → OpensAt Tryd.prog n 24 k24 Fit24 := by
  induction N with
  | zero =>
    intro n hn
    refine ⟨fun enc W sp held cs x hx => ?_⟩
    obtain rfl : n = 0 := by omega
    simp [DataW.trod] at hx
  | succ N ih =>
    intro n hn
    have hs : OpensAt Tryd.prog n 24 (F24 k24) _ := opens_iso (fun x : S24 => (x.f0, x.f1, x.f2, x.f3)) (fun p => ⟨p.1, p.2.1, p.2.2.1, p.2.2.2⟩) (fun _ => rfl)
      (opens_struct Tryd.underlying24 (fun m hm => by
        rw [cells24]
        exact opensF_cons rfl (by kernel_rfl) (opens_int Tryd.underlying3) (opensF_cons rfl (by kernel_rfl) (opens_int Tryd.underlying3) (opensF_cons rfl (by kernel_rfl) (opens_string Tryd.underlying9)
          (opensF_last rfl (by kernel_rfl) (opens_slice Tryd.underlying22 (by rw [cells24]; rfl) (fun k hk => ih k (by omega))))))))
    refine ⟨fun enc W sp held cs x hx hw => ?_⟩
    obtain ⟨a, h1, q0, q1, q2, q3, _, q4⟩ := hs.run enc W sp held cs x hx hw
    rw [bytes24] at q3
    exact ⟨a, F24_up h1, .mk a (bounds_i64 q0) (bounds_i64 q1) q2 q3 q4⟩
theorem opens22 (n : Nat) : OpensAt Tryd.prog n 22 (Kd.slice 24 k24) (fun l => l.length * 56 ≤ 140737488351232 ∧ ∀ x ∈ l, Fit24 x) :=
  opens_mono (opens_slice Tryd.underlying22 (by rw [cells24]; rfl) (fun m _ => opens24 m m (Nat.le_refl _))) (fun l h => ⟨by have := h.1; rw [bytes24] at this; exact this, h.2.2⟩)
theorem cells58 : Tryd.prog.cellsOf 58 = 3 := by kernel_rfl
/-- The parameter of the law: answers, a tail, a cut. -/
theorem opens58 (n : Nat) : OpensAt Tryd.prog n 58 (Kd.pair (Kd.slice 24 k24) (Kd.pair Kd.string (Kd.int .i64)))
    (fun x => (x.1.length * 56 ≤ 140737488351232 ∧ ∀ y ∈ x.1, Fit24 y) ∧ x.2.1.size ≤ 140737488351232 ∧ (Lit.int .i64 x.2.2).wf = true) := by
  have hs : OpensAt Tryd.prog n 58 (Kd.pair (Kd.slice 24 k24) (Kd.pair Kd.string (Kd.int .i64))) _ := opens_struct Tryd.underlying58 (fun m hm => by
    rw [cells58]
    exact opensF_cons rfl (by kernel_rfl) (opens22 m) (opensF_cons rfl (by kernel_rfl) (opens_string Tryd.underlying9) (opensF_last rfl (by kernel_rfl) (opens_int Tryd.underlying3))))
  exact opens_mono hs (fun _ h => h)
theorem kind_cases (k : Int) : kindF k = 1 ∨ kindF k = 2 ∨ kindF k = 3 ∨ kindF k = 4 ∨ kindF k = 5 ∨ kindF k = 6 := by
  have := kindF_range k
  omega
theorem deep_any : ∀ (d lists : Nat), lists + d = 4 → ∀ (x : S24), Fit24 x → ∀ (W : World) (A : Option Addr) (c : Nat), k24.C W A x.f3.length x.f3 →
    Calls Tryd.prog 25 #[agv x A c, .int .i64 lists] W (DeepOk (deepS d x) W)
  | d, lists, hl, _, .mk x h0 h1 h2 h3 h4, W, A, c, hA => by
    rcases kind_cases x.f0 with h | h | h | h | h | h
    · have e : deepS d x = ⟨1, 0, lineS x.f2, []⟩ := by unfold deepS; rw [if_pos (.inl h), h]
      rw [e]; exact deep_line x d h h2 W A c lists
    · have e : deepS d x = ⟨2, 0, lineS x.f2, []⟩ := by unfold deepS; rw [if_pos (.inr h), h]
      rw [e]; exact deep_line2 x d h h2 W A c lists
    · have e : deepS d x = ⟨3, x.f1, ⟨#[]⟩, []⟩ := by unfold deepS; rw [if_neg (by omega), if_pos h]
      rw [e]; exact deep_num x h W A c lists
    · have e : deepS d x = ⟨4, 0, headF x.f2, []⟩ := by unfold deepS; rw [if_neg (by omega), if_neg (by omega), if_pos h]
      rw [e]; exact deep_bulk x h W A c lists
    · have e : deepS d x = ⟨5, 0, ⟨#[]⟩, []⟩ := by unfold deepS; rw [if_neg (by omega), if_neg (by omega), if_neg (by omega), if_neg (by omega)]
      rw [e]; exact deep_none x h W A c lists
    · cases d with
      | zero =>
        have e : deepS 0 x = ⟨5, 0, ⟨#[]⟩, []⟩ := by unfold deepS; rw [if_neg (by omega), if_neg (by omega), if_neg (by omega), if_pos h]
        rw [e]; exact deep_far x h W A c lists (by omega)
      | succ d =>
        have e : deepS (d + 1) x = ⟨6, 0, ⟨#[]⟩, (x.f3.take 5).map (deepS d)⟩ := by rw [deepS, if_neg (by omega), if_neg (by omega), if_neg (by omega), if_pos h]
        rw [e]
        exact deep_list x h d lists (by omega) W A c hA (fun y hy W' B e' _ hC => deep_any d (lists + 1) (by omega) y (h4 y hy) W' B e' hC)
end Go.Proofs.YtbdfjiobegadjaaDoor.Wr
