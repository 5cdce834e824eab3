/- What the reader takes out of what is sent, piece by piece: plain law. -/
import Derived.Test.YtbdfjiobegadjaaDoorStrC
namespace Go.Proofs.YtbdfjiobegadjaaDoor.Sm
open Go Go.RowKit Go.Proofs.YtbdfjiobegadjaaDoor.Wr Go.Proofs.YtbdfjiobegadjaaDoor.Tk Go.Proofs.YtbdfjiobegadjaaDoor.Rd Go.Proofs.YtbdfjiobegadjaaDoorW.PrintWords Go.Proofs.YtbdfjiobegadjaaDoorW.PrintLast Go.Proofs.YtbdfjiobegadjaaDoorW.PrintMore
set_option linter.unusedVariables false
set_option linter.unusedSimpArgs false
def runsTo (s : ByteArray) : RunR → Option (List (List ByteArray) × St)
  | .more st => some ([], st)
  | .whole l j => (outs .start (s.data.toList.drop j)).map (fun x => (l :: x.1, x.2))
  | .bad _ => none
theorem outs_run (s : ByteArray) : ∀ (f i : Nat) (st : St), i + f = s.size → outs st (s.data.toList.drop i) = runsTo s (runF s f i st)
  | 0, i, st, h => by
    have hl : s.data.toList.length = s.size := by simp
    rw [List.drop_of_length_le (by omega)]
    rfl
  | f + 1, i, st, h => by
    have hi : i < s.size := by omega
    have hl : s.data.toList.length = s.size := by simp
    have hd : s.data.toList.drop i = s[i] :: s.data.toList.drop (i + 1) := by
      rw [List.drop_eq_getElem_cons (by omega)]
      congr 1
    rw [hd, outs, runF, Rd.bt_nat s i hi]
    show _ = runsTo s (match stepF st (I s[i]) with
      | .go st' => runF s f (i + 1) st'
      | .whole l => .whole l (i + 1)
      | .bad k => .bad k)
    cases stepF st (I s[i]) with
    | go s' => exact outs_run s f (i + 1) s' (by omega)
    | whole l => rfl
    | bad k => rfl
abbrev outsB (st : St) (s : ByteArray) := outs st s.data.toList
theorem outs_next (s : ByteArray) (st : St) : outsB st s = runsTo s (runF s s.size 0 st) := by
  have := outs_run s s.size 0 st (by omega)
  rw [List.drop_zero] at this
  exact this
theorem data_extract (s : ByteArray) (j : Nat) : (s.extract j s.size).data.toList = s.data.toList.drop j := by
  have hl : s.data.toList.length = s.size := by simp
  rw [ByteArray.data_extract, Array.toList_extract, List.extract_eq_take_drop, List.take_of_length_le (by rw [List.length_drop]; omega)]
theorem data_head (s : ByteArray) (j : Nat) : (s.extract 0 j).data.toList = s.data.toList.take j := by
  rw [ByteArray.data_extract, Array.toList_extract, List.extract_eq_take_drop, List.drop_zero]
  rfl
theorem outs_more {s : ByteArray} {st st1 st2 : St} {rem : List (List ByteArray)} (h : outsB st s = some (rem, st2)) (hr : runF s s.size 0 st = .more st1) : rem = [] ∧ st2 = st1 := by
  rw [outs_next, hr] at h
  simp only [runsTo, Option.some.injEq, Prod.mk.injEq] at h
  exact ⟨h.1.symm, h.2.symm⟩
theorem outs_whole {s : ByteArray} {st st2 : St} {rem : List (List ByteArray)} {l : List ByteArray} {j : Nat} (h : outsB st s = some (rem, st2)) (hr : runF s s.size 0 st = .whole l j) : ∃ rem', rem = l :: rem' ∧ outsB .start (s.extract j s.size) = some (rem', st2) := by
  rw [outs_next, hr] at h
  unfold runsTo at h
  obtain ⟨x, h1, h2⟩ := Option.map_eq_some_iff.1 h
  simp only [Prod.mk.injEq] at h2
  refine ⟨x.1, h2.1.symm, ?_⟩
  unfold outsB
  rw [data_extract, h1, ← h2.2]
theorem outs_bad {s : ByteArray} {st st2 : St} {rem : List (List ByteArray)} {k : Nat} (h : outsB st s = some (rem, st2)) (hr : runF s s.size 0 st = .bad k) : False := by
  rw [outs_next, hr] at h
  cases h
/-- Cut in two. -/
theorem outs_cut {s : ByteArray} {st st2 : St} {rem : List (List ByteArray)} (h : outsB st s = some (rem, st2)) (n : Nat) : ∃ x y st1, rem = x ++ y ∧ outsB st (s.extract 0 n) = some (x, st1) ∧ outsB st1 (s.extract n s.size) = some (y, st2) := by
  unfold outsB at h ⊢
  rw [data_head, data_extract]
  rw [← List.take_append_drop n s.data.toList, outs_app] at h
  obtain ⟨x, h1, h2⟩ := Option.bind_eq_some_iff.1 h
  obtain ⟨y, h3, h4⟩ := Option.map_eq_some_iff.1 h2
  simp only [Prod.mk.injEq] at h4
  exact ⟨x.1, y.1, x.2, h4.1.symm, h1, by rw [h3, ← h4.2]⟩
theorem outs_join {s t : ByteArray} {x y : List (List ByteArray)} {st : St} (h : outsB .start s = some (x, .start)) (k : outsB .start t = some (y, st)) : outsB .start (s ++ t) = some (x ++ y, st) := by
  unfold outsB at *
  rw [ByteArray.data_append, Array.toList_append, outs_one h, k]
  rfl
/-! #### all that is sent -/
abbrev Sent := List ByteArray × Bool
def sentB (x : Sent) : ByteArray := bytesS x.2 x.1
def sentW (x : Sent) : List ByteArray := tidyW x.2 x.1
def catS : List Sent → Nat → ByteArray
  | L, 0 => ⟨#[]⟩
  | L, i + 1 => catS L i ++ sentB (L.getD i ([], false))
theorem cat_outs (L : List Sent) : ∀ i, i ≤ L.length → outsB .start (catS L i) = some ((L.take i).map sentW, .start)
  | 0, _ => rfl
  | i + 1, h => by
    have hi : i < L.length := by omega
    rw [catS, List.take_succ_eq_append_getElem hi, List.map_append]
    refine outs_join (cat_outs L i (by omega)) ?_
    rw [List.getD_eq_getElem?_getD, List.getElem?_eq_getElem hi]
    exact bytes_outs _ _
end Go.Proofs.YtbdfjiobegadjaaDoor.Sm
