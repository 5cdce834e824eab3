/- wire's Reader as a machine over bytes: its states, what a byte does, and how a state lies in memory. -/
import Derived.Test.YtbdfjiobegadjaaDoorSTaker
import Derived.LoopTactic
namespace Go.Proofs.YtbdfjiobegadjaaDoor.Rd
open Go Go.RowKit Go.Proofs.YtbdfjiobegadjaaDoor.Tk Go.Proofs.YtbdfjiobegadjaaDoor.PWireMemory Go.Proofs.YtbdfjiobegadjaaDoorW.PrintWords Go.Proofs.YtbdfjiobegadjaaDoorW.PrintLast Go.Proofs.YtbdfjiobegadjaaDoorW.PrintMore
set_option linter.unusedVariables false
set_option linter.unusedSectionVars false
set_option linter.unusedSimpArgs false
/-- What is done with a number. -/
inductive Th where
  | counted
  | sized (left : Nat) (list : List ByteArray)
inductive St where
  | start
  | num (t : Th) (n many : Nat)
  | numd (t : Th) (n : Nat)
  | dollar (left : Nat) (list : List ByteArray)
  | body (left need : Nat) (list : List ByteArray) (text : List Int)
  | bodyEnd (left : Nat) (list : List ByteArray) (text : List Int)
  | worded (left : Nat) (list : List ByteArray) (text : List Int)
  | line (text : List Int)
  | lineEnd (text : List Int)
inductive Out where
  | go (s : St)
  | whole (l : List ByteArray)
  | bad (k : Nat)
/-- The words of a line. -/
def wordsA : List Int → List Int → List (List Int)
  | now, [] => if now = [] then [] else [now]
  | now, c :: l => if c = 32 ∨ c = 9 then (if now = [] then [] else [now]) ++ wordsA [] l else wordsA (now ++ [c]) l
def wordsOf (text : List Int) : List ByteArray := (wordsA [] text).map strOfNums
def thenF : Th → Nat → Out
  | .counted, n => if n = 0 then .bad 1 else if 16 < n then .bad 2 else .go (.dollar n [])
  | .sized left list, n => if 65536 < n then .bad 2 else if n = 0 then .go (.bodyEnd left list []) else .go (.body left n list [])
def lineF (text : List Int) (c : Int) : Out :=
  if c = 13 then .go (.lineEnd text) else if text.length = 4096 then .bad 2 else if (c < 32 ∧ c ≠ 9) ∨ c = 127 then .bad 1 else .go (.line (text ++ [c]))
def endF (text : List Int) (c : Int) : Out :=
  if c ≠ 10 then .bad 1 else if 16 < (wordsOf text).length then .bad 2 else if wordsOf text = [] then .go .start else .whole (wordsOf text)
def stepF : St → Int → Out
  | .start, c => if c = 42 then .go (.num .counted 0 0) else lineF [] c
  | .num t n many, c => if c = 13 ∧ 0 < many then .go (.numd t n) else if c < 48 ∨ 57 < c ∨ (many = 1 ∧ n = 0) ∨ many = 6 then .bad 1 else .go (.num t (10 * n + (c - 48).toNat) (many + 1))
  | .numd t n, c => if c ≠ 10 then .bad 1 else thenF t n
  | .dollar left list, c => if c ≠ 36 then .bad 1 else .go (.num (.sized left list) 0 0)
  | .body left need list text, c => if text.length + 1 = need then .go (.bodyEnd left list (text ++ [c])) else .go (.body left need list (text ++ [c]))
  | .bodyEnd left list text, c => if c ≠ 13 then .bad 1 else .go (.worded left list text)
  | .worded left list text, c => if c ≠ 10 then .bad 1 else if left = 1 then .whole (list ++ [strOfNums text]) else .go (.dollar (left - 1) (list ++ [strOfNums text]))
  | .line text, c => lineF text c
  | .lineEnd text, c => endF text c
/-- The bounds that hold along the way. -/
def Th.ok : Th → Prop
  | .counted => True
  | .sized left list => 1 ≤ left ∧ list.length + left ≤ 16
def St.ok : St → Prop
  | .start => True
  | .num t n many => t.ok ∧ n < 10 ^ many ∧ many ≤ 6
  | .numd t n => t.ok ∧ n < 1000000
  | .dollar left list => 1 ≤ left ∧ list.length + left ≤ 16
  | .body left need list text => 1 ≤ left ∧ list.length + left ≤ 16 ∧ text.length < need ∧ need ≤ 65536
  | .bodyEnd left list text => 1 ≤ left ∧ list.length + left ≤ 16 ∧ text.length ≤ 65536
  | .worded left list text => 1 ≤ left ∧ list.length + left ≤ 16 ∧ text.length ≤ 65536
  | .line text => text.length ≤ 4096 ∧ ∀ c ∈ text, 0 ≤ c ∧ c ≤ 255
  | .lineEnd text => text.length ≤ 4096 ∧ ∀ c ∈ text, 0 ≤ c ∧ c ≤ 255
theorem thenF_ok {t : Th} {n : Nat} {s : St} (ht : t.ok) (h : thenF t n = .go s) : s.ok := by
  cases t with
  | counted =>
    simp only [thenF] at h
    split at h
    · cases h
    · split at h
      · cases h
      · obtain rfl := Out.go.inj h; exact ⟨by omega, by simp; omega⟩
  | sized left list =>
    simp only [thenF] at h
    obtain ⟨h1, h2⟩ := ht
    split at h
    · cases h
    · split at h
      · obtain rfl := Out.go.inj h; exact ⟨h1, h2, by simp⟩
      · obtain rfl := Out.go.inj h; exact ⟨h1, h2, by simp; omega, by omega⟩
theorem lineF_ok {text : List Int} {c : Int} {s : St} (hc : 0 ≤ c ∧ c ≤ 255) (ht : text.length ≤ 4096 ∧ ∀ c ∈ text, 0 ≤ c ∧ c ≤ 255) (h : lineF text c = .go s) : s.ok := by
  unfold lineF at h
  split at h
  · obtain rfl := Out.go.inj h; exact ht
  · split at h
    · cases h
    · split at h
      · cases h
      · obtain rfl := Out.go.inj h
        refine ⟨by have := ht.1; simp; omega, fun x hx => ?_⟩
        rcases List.mem_append.1 hx with hx | hx
        · exact ht.2 x hx
        · rw [List.mem_singleton.1 hx]; exact hc
theorem stepF_ok {s s' : St} {c : Int} (hc : 0 ≤ c ∧ c ≤ 255) (hs : s.ok) (h : stepF s c = .go s') : s'.ok := by
  cases s with
  | start =>
    simp only [stepF] at h
    split at h
    · obtain rfl := Out.go.inj h; exact ⟨trivial, by omega, by omega⟩
    · exact lineF_ok hc (by simp) h
  | num t n many =>
    simp only [stepF] at h
    obtain ⟨h1, h2, h3⟩ := hs
    split at h
    · obtain rfl := Out.go.inj h
      exact ⟨h1, Nat.lt_of_lt_of_le h2 (Nat.pow_le_pow_right (by omega) h3)⟩
    · split at h
      · cases h
      · rename_i hno
        obtain rfl := Out.go.inj h
        refine ⟨h1, ?_, by omega⟩
        rw [Nat.pow_succ]
        omega
  | numd t n =>
    simp only [stepF] at h
    split at h
    · cases h
    · exact thenF_ok hs.1 h
  | dollar left list =>
    simp only [stepF] at h
    split at h
    · cases h
    · obtain rfl := Out.go.inj h; exact ⟨hs, by omega, by omega⟩
  | body left need list text =>
    simp only [stepF] at h
    obtain ⟨h1, h2, h3, h4⟩ := hs
    split at h
    · obtain rfl := Out.go.inj h; exact ⟨h1, h2, by simp; omega⟩
    · obtain rfl := Out.go.inj h; exact ⟨h1, h2, by simp; omega, h4⟩
  | bodyEnd left list text =>
    simp only [stepF] at h
    split at h
    · cases h
    · obtain rfl := Out.go.inj h; exact hs
  | worded left list text =>
    simp only [stepF] at h
    obtain ⟨h1, h2, h3⟩ := hs
    split at h
    · cases h
    · split at h
      · cases h
      · obtain rfl := Out.go.inj h; exact ⟨by omega, by simp; omega⟩
  | line text => exact lineF_ok hc hs h
  | lineEnd text =>
    simp only [stepF, endF] at h
    split at h
    · cases h
    · split at h
      · cases h
      · split at h
        · obtain rfl := Out.go.inj h; trivial
        · cases h
/-! #### in memory -/
/-- A method value of the reader in block b. -/
abbrev mv (f b : Nat) : Value := .func (.func f) #[.pointer (some ⟨b, 0, none⟩)] #[]
def RD (W : World) (b : Nat) (v0 v1 v2 v3 v4 v5 v6 v7 v8 v9 : Value) : Prop := W.heap[b]? = some (.cells #[v0, v1, v2, v3, v4, v5, v6, v7, v8, v9] 92 (0, 0))
theorem RD.cells {W : World} {b : Nat} {v0 v1 v2 v3 v4 v5 v6 v7 v8 v9 : Value} (h : RD W b v0 v1 v2 v3 v4 v5 v6 v7 v8 v9) :
    (W.cell? ⟨b, 0, none⟩ = some v0 ∧ W.cell? ⟨b, 1, none⟩ = some v1 ∧ W.cell? ⟨b, 2, none⟩ = some v2 ∧ W.cell? ⟨b, 3, none⟩ = some v3 ∧ W.cell? ⟨b, 4, none⟩ = some v4 ∧ W.cell? ⟨b, 5, none⟩ = some v5 ∧ W.cell? ⟨b, 6, none⟩ = some v6 ∧ W.cell? ⟨b, 7, none⟩ = some v7 ∧ W.cell? ⟨b, 8, none⟩ = some v8 ∧ W.cell? ⟨b, 9, none⟩ = some v9) ∧
    ∀ i, W.frozen? ⟨b, i, none⟩ = false :=
  ⟨⟨blk_cell h 0, blk_cell h 1, blk_cell h 2, blk_cell h 3, blk_cell h 4, blk_cell h 5, blk_cell h 6, blk_cell h 7, blk_cell h 8, blk_cell h 9⟩, fun i => blk_frozen h i⟩
/-- Only block b, and blocks of dom, have turned. -/
structure OnlyD (b : Nat) (dom : Nat → Prop) (W W' : World) : Prop where
  os : W'.os = W.os
  tape : W'.tape = W.tape
  output : W'.output = W.output
  size : W.heap.size ≤ W'.heap.size
  keep : ∀ i, i < W.heap.size → i ≠ b → ¬ dom i → W'.heap[i]? = W.heap[i]?
theorem OnlyD.refl (b : Nat) (dom : Nat → Prop) (W : World) : OnlyD b dom W W := ⟨rfl, rfl, rfl, Nat.le_refl _, fun _ _ _ _ => rfl⟩
theorem OnlyD.trans {b : Nat} {dom : Nat → Prop} {a c d : World} (h : OnlyD b dom a c) (k : OnlyD b dom c d) : OnlyD b dom a d :=
  ⟨k.os.trans h.os, k.tape.trans h.tape, k.output.trans h.output, Nat.le_trans h.size k.size, fun i hi hb hd => (k.keep i (Nat.lt_of_lt_of_le hi h.size) hb hd).trans (h.keep i hi hb hd)⟩
theorem OnlyD.set {b : Nat} {dom : Nat → Prop} {a c : World} (h : OnlyD b dom a c) (j : Nat) (v : Value) : OnlyD b dom a (c.setCell ⟨b, j, none⟩ v) :=
  h.trans ⟨rfl, rfl, rfl, by simp [World.setCell], fun i _ hb _ => Below.heap_setCell c ⟨b, j, none⟩ v i hb⟩
theorem OnlyD.drew {b : Nat} {dom : Nat → Prop} {a c : World} (h : OnlyD b dom a c) : OnlyD b dom a c.drew := ⟨h.os, h.tape, h.output, h.size, h.keep⟩
theorem OnlyD.drewN {b : Nat} {dom : Nat → Prop} {a c : World} (h : OnlyD b dom a c) (n : Nat) : OnlyD b dom a (c.drewN n) := ⟨h.os, h.tape, h.output, h.size, h.keep⟩
theorem OnlyD.alloc {b : Nat} {dom : Nat → Prop} {a c : World} (h : OnlyD b dom a c) (o : Obj) : OnlyD b dom a (c.alloc o) :=
  h.trans ⟨rfl, rfl, rfl, by simp, fun i hi _ _ => Below.heap_alloc c o i hi⟩
theorem OnlyD.grown {b : Nat} {dom : Nat → Prop} {a c d : World} (h : OnlyD b dom a c) {row : Option Nat} (hg : c.grownBy d row) (hr : ∀ k, row = some k → dom k) : OnlyD b dom a d :=
  h.trans ⟨hg.os, hg.tape, hg.output, hg.size, fun i hi _ hd => hg.block i hi (fun e => hd (hr i e.symm))⟩
theorem OnlyD.of_below {b : Nat} {dom : Nat → Prop} {a c : World} (h : Below a.heap.size a c) : OnlyD b dom a c := ⟨h.os, h.tape, h.output, h.size, fun i hi _ _ => h.block i hi⟩
theorem OnlyD.below {b : Nat} {dom : Nat → Prop} {a c : World} (h : OnlyD b dom a c) {N : Nat} (hN : N ≤ a.heap.size) (hb : N ≤ b) (hd : ∀ k, dom k → N ≤ k) : Below N a c :=
  ⟨h.os, h.tape, h.output, h.size, fun k hk => h.keep k (by omega) (by omega) (fun hd' => by have := hd k hd'; omega)⟩
/-- The rows of a state. -/
def TextR (W : World) (base : Nat) (dom : Nat → Prop) (v : Value) (text : List Int) : Prop := (Kd.int .u8).R 5 W base dom v text
def ListR (W : World) (base : Nat) (dom : Nat → Prop) (v : Value) (list : List ByteArray) : Prop := Kd.string.R 9 W base dom v list
def thv : Th → Nat → Value
  | .counted, b => mv 64 b
  | .sized _ _, b => mv 85 b
def fnOf : St → Nat
  | .start => 37
  | .num _ _ _ => 77
  | .numd _ _ => 84
  | .dollar _ _ => 78
  | .body _ _ _ _ => 93
  | .bodyEnd _ _ _ => 94
  | .worded _ _ _ => 100
  | .line _ => 65
  | .lineEnd _ => 79
/-- What the cells behind the step hold, as far as the state leans on it. -/
def ThIn (W : World) (base : Nat) (dom : Nat → Prop) (b : Nat) (v3 v6 v9 : Value) : Th → Prop
  | .counted => v3 = mv 64 b ∧ v9 = .slice none 0 0
  | .sized left list => v3 = mv 85 b ∧ v6 = .int .i64 left ∧ ListR W base dom v9 list
def StIn (W : World) (base : Nat) (dom : Nat → Prop) (b : Nat) (v3 v4 v5 v6 v7 v8 v9 : Value) : St → Prop
  | .start => True
  | .num t n many => v4 = .int .i64 n ∧ v5 = .int .i64 many ∧ ThIn W base dom b v3 v6 v9 t
  | .numd t n => v4 = .int .i64 n ∧ ThIn W base dom b v3 v6 v9 t
  | .dollar left list => v6 = .int .i64 left ∧ ListR W base dom v9 list
  | .body left need list text => v6 = .int .i64 left ∧ v7 = .int .i64 need ∧ ListR W base dom v9 list ∧ TextR W base dom v8 text
  | .bodyEnd left list text => v6 = .int .i64 left ∧ ListR W base dom v9 list ∧ TextR W base dom v8 text
  | .worded left list text => v6 = .int .i64 left ∧ ListR W base dom v9 list ∧ TextR W base dom v8 text
  | .line text => TextR W base dom v8 text
  | .lineEnd text => TextR W base dom v8 text
def Rep (W : World) (base : Nat) (dom : Nat → Prop) (b : Nat) (wait : ByteArray) (s : St) : Prop :=
  ∃ v3 v4 v5 v6 v7 v8 v9, RD W b (.string wait) .nilIface (mv (fnOf s) b) v3 v4 v5 v6 v7 v8 v9 ∧ StIn W base dom b v3 v4 v5 v6 v7 v8 v9 s
def RepAny (W : World) (b : Nat) (wait : ByteArray) : Prop := ∃ v2 v3 v4 v5 v6 v7 v8 v9, RD W b (.string wait) .nilIface v2 v3 v4 v5 v6 v7 v8 v9
/-- The words are taken over from the last cell; the reader is at a beginning. -/
def RepWhole (W : World) (base : Nat) (dom : Nat → Prop) (b : Nat) (wait : ByteArray) (l : List ByteArray) : Prop :=
  ∃ v3 v4 v5 v6 v7 v8 v9, RD W b (.string wait) .nilIface (mv 37 b) v3 v4 v5 v6 v7 v8 v9 ∧ ListR W base dom v9 l
def StepEnd (base : Nat) (dom : Nat → Prop) (b : Nat) (wait : ByteArray) (ad : Nat → Addr) (e : Ending) (W' : World) : Out → Prop
  | .go s => e = .returned (.tuple #[.bool false, .nilIface]) ∧ Rep W' base dom b wait s
  | .whole l => e = .returned (.tuple #[.bool true, .nilIface]) ∧ RepWhole W' base dom b wait l
  | .bad k => e = .returned (.tuple #[.bool false, ev ad k]) ∧ RepAny W' b wait
structure StepOk (base : Nat) (dom : Nat → Prop) (b : Nat) (wait : ByteArray) (ad : Nat → Addr) (o : Out) (W : World) (e : Ending) (W' : World) : Prop where
  end_ : StepEnd base dom b wait ad e W' o
  only : OnlyD b dom W W'
end Go.Proofs.YtbdfjiobegadjaaDoor.Rd
