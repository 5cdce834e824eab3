/- The walks of tuple.Above, of the document's Above and of begins. -/
import Derived.Test.YthlolfncdjaniaaProg
import Derived.WalkKit
import Derived.KernelRfl
import Derived.RowKit3
import Derived.Below
import Derived.OwnWalk
import Derived.IntWalk
import Derived.WalkSpells
import Derived.WalkLawsBesides
import Derived.Laws.BytesArg
import Derived.RegionTactic
import Derived.ChangeAlike
import Derived.Deep.QuietTactic
import Derived.BigQuiet
import Derived.Outline
namespace Go.Proofs.Ythlolfncdjaniaa.Ab
open Go.RowKit
/-- The byte at i, as a number. -/
def bt (s : ByteArray) (i : Nat) : Int := if h : i < s.size then ((s[i]'h).toNat : Int) else 0
/-- What both come to when the first n bytes are still to be looked at. -/
def ab (s : ByteArray) : Nat → ByteArray × Bool
  | 0 => ((⟨#[]⟩ : ByteArray), false)
  | n + 1 => if bt s n = 255 then ab s n else (s.extract 0 n ++ strOfNums [(bt s n + 1) % 256], true)
def Told (s : ByteArray) (w : World) (e : Ending) (w' : World) : Prop := e = .returned (.tuple #[.string (ab s s.size).1, .bool (ab s s.size).2]) ∧ Below w.heap.size w w'
theorem told_of {s : ByteArray} {w w' : World} {t : ByteArray} {b : Bool} (h : Hid ((t, b) = ab s s.size)) (hb : Below w.heap.size w w') :
    Told s w (.returned (.tuple #[.string t, .bool b])) w' := ⟨by rw [← h.out], hb⟩
theorem ab_eq {s : ByteArray} {n : Nat} (hlt : n < s.size) (c : bt s n = 255) (hab : Hid (ab s (n + 1) = ab s s.size)) : Hid (ab s n = ab s s.size) := by
  have h := hab.out
  simp only [ab] at h; rw [if_pos c] at h; exact h
theorem ab_ne {s : ByteArray} {n : Nat} (hlt : n < s.size) (c : ¬ bt s n = 255) (hab : Hid (ab s (n + 1) = ab s s.size)) :
    Hid ((s.extract 0 n ++ strOfNums [(((s[n]).toNat : Int) + 1) % 256], true) = ab s s.size) := by
  have h := hab.out
  simp only [ab] at h; rw [if_neg c, show bt s n = ((s[n]).toNat : Int) from by simp [bt, hlt]] at h; exact h
theorem one_byte (w : World) (x : Int) : ∀ dst, Try.prog.underlying dst = some .string → (Sem.run Try.prog (convert 29 dst (.slice (some ⟨w.heap.size, 0, none⟩) 1 1)) (w.alloc (.cells #[.int .u8 x] 5)).drew) = .ok (.string (strOfNums [x])) (w.alloc (.cells #[.int .u8 x] 5)).drew :=
  run_convert_bytes_arg (P := Try.prog) ((w.alloc (.cells #[.int .u8 x] 5)).drew) 29 5 Try.underlying29 Try.underlying5 w.heap.size 0 1 1 [x] rfl (by
    intro i hi
    obtain rfl : i = 0 := by omega
    rw [World.cell?_drew, World.cell?_alloc_new]; rfl)
theorem one_size (x : Int) : (strOfNums [x]).size = 1 := strOfNums_size [x]
set_option maxHeartbeats 400000 in
theorem above_any (s : ByteArray) (w : World) (hs : s.size ≤ 140737488351232) :
    Calls Try.prog 5 #[.string s] w (Told s w) := by
  go_enter Try.func5, Try.ntmps5
  go_wp2
  go_loop [4] (fun l => ∃ n : Nat, n ≤ s.size ∧ l = .int .i64 ((n : Int) - 1) ∧ Hid (ab s n = ab s s.size)) (fun l => (intOf l + 1).toNat)
  case atStart => exact ⟨s.size, Nat.le_refl _, by simp, rfl⟩
  case round =>
    obtain ⟨n, hn, rfl, hab⟩ := hrel
    cases n with
    | zero =>
      go_wp2
      go_ret2
      exact told_of hab (Below.refl _ _)
    | succ n =>
      have hlt : n < s.size := by omega
      by_cases c : bt s n = 255
      · have c1 : ((s[n]).toNat : Int) = 255 := by simpa [bt, hlt] using c
        have hab' := ab_eq hlt c hab
        clear hab c
        go_wp2
        go_round
        case rel => exact ⟨n, by omega, rfl, hab'⟩
        case measure => simp [intOf]
      · have c1 : ¬ ((s[n]).toNat : Int) = 255 := by simpa [bt, hlt] using c
        have hab' := ab_ne hlt c hab
        clear hab c
        have hle : n ≤ s.size := by omega
        have hcv := one_byte w ((((s[n]).toNat : Int) + 1) % 256) 9 Try.underlying9
        have hsz := one_size ((((s[n]).toNat : Int) + 1) % 256)
        go_wp2
        go_region
        go_wp2
        go_ret2
        exact told_of hab' (((Below.refl _ _).alloc (Nat.le_refl _) _).drew)
set_option maxHeartbeats 400000 in
theorem ref_any (s : ByteArray) (w : World) (hs : s.size ≤ 140737488351232) :
    Calls Try.prog 6 #[.string s] w (Told s w) := by
  go_enter Try.func6, Try.ntmps6
  go_wp2
  go_loop [4] (fun l => ∃ n : Nat, n ≤ s.size ∧ l = .int .i64 n ∧ Hid (ab s n = ab s s.size)) (fun l => (intOf l).toNat)
  case atStart => exact ⟨s.size, Nat.le_refl _, by simp, rfl⟩
  case round =>
    obtain ⟨n, hn, rfl, hab⟩ := hrel
    cases n with
    | zero =>
      go_wp2
      go_ret2
      exact told_of hab (Below.refl _ _)
    | succ n =>
      have hlt : n < s.size := by omega
      by_cases c : bt s n = 255
      · have c1 : ((s[n]).toNat : Int) = 255 := by simpa [bt, hlt] using c
        have hab' := ab_eq hlt c hab
        clear hab c
        go_wp2
        go_round
        case rel => exact ⟨n, by omega, by go_num, hab'⟩
        case measure => simp [intOf]
      · have c1 : ¬ ((s[n]).toNat : Int) = 255 := by simpa [bt, hlt] using c
        have hab' := ab_ne hlt c hab
        clear hab c
        have hle : n ≤ s.size := by omega
        have hcv := one_byte w ((((s[n]).toNat : Int) + 1) % 256) 9 Try.underlying9
        have hsz := one_size ((((s[n]).toNat : Int) + 1) % 256)
        go_wp2
        go_region
        go_wp2
        go_ret2
        exact told_of hab' (((Below.refl _ _).alloc (Nat.le_refl _) _).drew)
end Go.Proofs.Ythlolfncdjaniaa.Ab
