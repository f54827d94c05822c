/-
  The abstract layer, part 1: abstract values, what they mean in the model's memory, and that meaning is kept as memory grows.
-/
import Derived.WalkKit
import Derived.Below
import Derived.Calls
import Derived.Tactics
namespace Go.R
set_option linter.unusedSectionVars false

/-- A data value: no reference into memory that may be written. -/
inductive DV where
  | bool (b : Bool)
  | int (k : IntKind) (n : Int)
  | str (s : List UInt8)
  | snil
  | sl (size : Nat) (elems : List (List DV)) (ex : Bool)
  deriving Inhabited

/-- An abstract value. -/
inductive AV where
  | junk
  | d (v : DV)
  | ptr (i off : Nat)
  | pnil
  | imm (cells : List DV)
  | row (i size off n : Nat)
  | map (i : Nat)
  | mnil
  | fn (f : Fn) (caps : List AV)
  | fnil
  | yld (i : Nat)
  | sym (n : Nat)
  | bfn (g : FuncId) (bs : List AV)
  | agg (cells : List AV)
  | tup (vs : List AV)
  deriving Inhabited

/-- The temporaries of which something is known. -/
abbrev AAct := List (Nat × AV)

def aget : AAct → Nat → AV
  | [], _ => .junk
  | (t, v) :: l, u => if u = t then v else aget l u

/-- The record of a range over a function. -/
structure ALoop where
  st : LoopState
  pend : Option Code
  n : Nat
  a : AAct
  params : Array Tmp
  assign : Code
  body : Code
  deriving Inhabited

/-- An abstract object of memory. -/
inductive AObj where
  | dead
  | cells (fr : Bool) (vs : List AV)
  | map (es : List (Nat × AV × AV)) (clock : Nat)
  | loop (r : ALoop)
  | iter (m : Option Nat) (since : Nat) (seen : List Nat) (last : Nat)
  | siter (s : List UInt8) (pos : Nat)
  deriving Inhabited

/-- The world, the blocks that nobody writes, and where the k objects lie (block, first cell). -/
structure Mem where
  w : World
  I : Nat → Prop
  r : Nat → Nat
  o : Nat → Nat
  k : Nat

inductive RelD (w : World) (I : Nat → Prop) : DV → Value → Prop
  | bool (b : Bool) : RelD w I (.bool b) (.bool b)
  | int (k : IntKind) (n : Int) : RelD w I (.int k n) (.int k n)
  | str (b : ByteArray) : RelD w I (.str b.data.toList) (.string b)
  | snil : RelD w I .snil (.slice none 0 0)
  | sl (A : Addr) (c size : Nat) (elems : List (List DV)) (ex : Bool) (vs : Nat → Value)
      (hn : elems.length ≤ c) (hex : ex = true → c = elems.length)
      (hsz : ∀ i (h : i < elems.length), (elems[i]'h).length = size)
      (hI : 0 < elems.length * size → I A.block ∧ A.spot = none)
      (hc : ∀ i j, i < elems.length → j < size → w.cell? ⟨A.block, A.off + (i * size + j), none⟩ = some (vs (i * size + j)))
      (hr : ∀ i j (h : i < elems.length) (h' : j < (elems[i]'h).length), RelD w I ((elems[i]'h)[j]'h') (vs (i * size + j))) :
      RelD w I (.sl size elems ex) (.slice (some A) elems.length c)

/-- What the tokens stand for: data of which nothing is said but that it is what it is. -/
class Syms where
  ρ : Nat → DV

variable [Syms]

inductive RelA (M : Mem) : AV → Value → Prop
  | junk (v : Value) : RelA M .junk v
  | d (x : DV) (v : Value) (h : RelD M.w M.I x v) : RelA M (.d x) v
  | ptr (i off : Nat) (h : i < M.k) : RelA M (.ptr i off) (.pointer (some ⟨M.r i, M.o i + off, none⟩))
  | pnil : RelA M .pnil (.pointer none)
  | imm (A : Addr) (cells : List DV) (vs : Nat → Value)
      (hI : 0 < cells.length → M.I A.block ∧ A.spot = none)
      (hc : ∀ j, j < cells.length → M.w.cell? ⟨A.block, A.off + j, none⟩ = some (vs j))
      (hr : ∀ j (h : j < cells.length), RelD M.w M.I (cells[j]'h) (vs j)) : RelA M (.imm cells) (.pointer (some A))
  | row (i size off n c : Nat) (h : i < M.k) (hn : n ≤ c) (cs : Array Value) (t : TypeId) (fz : Nat × Nat)
      (hb : M.w.heap[M.r i]? = some (.cells cs t fz)) (hs : M.o i + off + c * size ≤ cs.size) :
      RelA M (.row i size off n) (.slice (some ⟨M.r i, M.o i + off, none⟩) n c)
  | row0 (i size off : Nat) (h : i < M.k) (A : Addr) : RelA M (.row i size off 0) (.slice (some A) 0 0)
  | map (i : Nat) (h : i < M.k) : RelA M (.map i) (.map (some (M.r i)))
  | mnil : RelA M .mnil (.map none)
  | fn (f : Fn) (caps : List AV) (vs : Array Value) (hl : caps.length = vs.size)
      (h : ∀ j (h1 : j < caps.length) (h2 : j < vs.size), RelA M (caps[j]'h1) (vs[j]'h2)) : RelA M (.fn f caps) (.func f #[] vs)
  | fnil : RelA M .fnil .nilFunc
  | bfn (g : FuncId) (bs : List AV) (vs : Array Value) (hl : bs.length = vs.size)
      (h : ∀ j (h1 : j < bs.length) (h2 : j < vs.size), RelA M (bs[j]'h1) (vs[j]'h2)) : RelA M (.bfn g bs) (.func (.func g) vs #[])
  | yld (i : Nat) (h : i < M.k) : RelA M (.yld i) (.func (.yield (M.r i)) #[] #[])
  | sym (n : Nat) (v : Value) (h : RelD M.w M.I (Syms.ρ n) v) : RelA M (.sym n) v
  | agg (cells : List AV) (vs : Array Value) (hl : cells.length = vs.size)
      (h : ∀ j (h1 : j < cells.length) (h2 : j < vs.size), RelA M (cells[j]'h1) (vs[j]'h2)) : RelA M (.agg cells) (.agg vs)
  | tup (cells : List AV) (vs : Array Value) (hl : cells.length = vs.size)
      (h : ∀ j (h1 : j < cells.length) (h2 : j < vs.size), RelA M (cells[j]'h1) (vs[j]'h2)) : RelA M (.tup cells) (.tuple vs)

/-- Lists, element by element. -/
def RelL (M : Mem) (vs : List AV) (cs : List Value) : Prop :=
  vs.length = cs.length ∧ ∀ j (h1 : j < vs.length) (h2 : j < cs.length), RelA M (vs[j]'h1) (cs[j]'h2)

structure Ext (M M' : Mem) : Prop where
  I : ∀ b, M.I b → M'.I b
  old : ∀ b, M.I b → M'.w.heap[b]? = M.w.heap[b]?
  r : ∀ i, i < M.k → M'.r i = M.r i
  o : ∀ i, i < M.k → M'.o i = M.o i
  k : M.k ≤ M'.k
  shape : ∀ (b : Nat) (cs : Array Value) (t : TypeId) (fz : Nat × Nat), M.w.heap[b]? = some (Obj.cells cs t fz) → ∃ (cs' : Array Value) (fz' : Nat × Nat), M'.w.heap[b]? = some (Obj.cells cs' t fz') ∧ cs'.size = cs.size
  size : M.w.heap.size ≤ M'.w.heap.size
  defs : ∀ b : Nat, M.w.heap[b]? = some (Obj.deferred (some [])) → M'.w.heap[b]? = some (Obj.deferred (some []))
  os : M'.w.os = M.w.os
  tape : M'.w.tape = M.w.tape
  output : M'.w.output = M.w.output

theorem Ext.refl (M : Mem) : Ext M M :=
  ⟨fun _ h => h, fun _ _ => rfl, fun _ _ => rfl, fun _ _ => rfl, Nat.le_refl _, fun _ cs _ fz h => ⟨cs, fz, h, rfl⟩, Nat.le_refl _, fun _ h => h, rfl, rfl, rfl⟩

theorem Ext.trans {A B C : Mem} (h : Ext A B) (g : Ext B C) : Ext A C where
  I b hb := g.I b (h.I b hb)
  old b hb := (g.old b (h.I b hb)).trans (h.old b hb)
  r i hi := (g.r i (Nat.lt_of_lt_of_le hi h.k)).trans (h.r i hi)
  o i hi := (g.o i (Nat.lt_of_lt_of_le hi h.k)).trans (h.o i hi)
  k := Nat.le_trans h.k g.k
  shape b cs t fz hb := by
    obtain ⟨cs1, fz1, h1, e1⟩ := h.shape b cs t fz hb
    obtain ⟨cs2, fz2, h2, e2⟩ := g.shape b cs1 t fz1 h1
    exact ⟨cs2, fz2, h2, e2.trans e1⟩
  size := Nat.le_trans h.size g.size
  defs b hb := g.defs b (h.defs b hb)
  os := g.os.trans h.os
  tape := g.tape.trans h.tape
  output := g.output.trans h.output

theorem cell_of_heap {w w' : World} {a : Addr} (h : w'.heap[a.block]? = w.heap[a.block]?) : w'.cell? a = w.cell? a := by
  simp only [World.cell?, h]

theorem RelD.mono {w w' : World} {I I' : Nat → Prop} (hI : ∀ b, I b → I' b) (ho : ∀ b, I b → w'.heap[b]? = w.heap[b]?) {x : DV} {v : Value}
    (h : RelD w I x v) : RelD w' I' x v := by
  induction h with
  | bool b => exact .bool b
  | int k n => exact .int k n
  | str b => exact .str b
  | snil => exact .snil
  | sl A c size elems ex vs hn hex hsz hI1 hc hr ih =>
    refine .sl A c size elems ex vs hn hex hsz (fun h => ⟨hI _ (hI1 h).1, (hI1 h).2⟩) (fun i j hi hj => ?_) ih
    rw [cell_of_heap (w := w)]
    · exact hc i j hi hj
    · exact ho _ (hI1 (Nat.mul_pos (by omega) (by omega))).1

theorem RelD.ext {M M' : Mem} (e : Ext M M') {x : DV} {v : Value} (h : RelD M.w M.I x v) : RelD M'.w M'.I x v := h.mono e.I e.old

theorem RelA.ext {M M' : Mem} (e : Ext M M') {x : AV} {v : Value} (h : RelA M x v) : RelA M' x v := by
  induction h with
  | junk v => exact .junk v
  | d x v h => exact .d x v (h.ext e)
  | ptr i off h =>
    have := RelA.ptr (M := M') i off (Nat.lt_of_lt_of_le h e.k)
    rwa [e.r i h, e.o i h] at this
  | pnil => exact .pnil
  | imm A cells vs hI hc hr =>
    refine .imm A cells vs (fun h => ⟨e.I _ (hI h).1, (hI h).2⟩) (fun j hj => ?_) (fun j hj => (hr j hj).ext e)
    rw [cell_of_heap (w := M.w)]
    · exact hc j hj
    · exact e.old _ (hI (by omega)).1
  | row i size off n c h hn cs t fz hb hs =>
    obtain ⟨cs', fz', h', e'⟩ := e.shape _ _ _ _ hb
    have := RelA.row (M := M') i size off n c (Nat.lt_of_lt_of_le h e.k) hn cs' t fz' (by rw [e.r i h]; exact h') (by rw [e.o i h]; omega)
    rwa [e.r i h, e.o i h] at this
  | row0 i size off h A => exact .row0 i size off (Nat.lt_of_lt_of_le h e.k) A
  | map i h =>
    have := RelA.map (M := M') i (Nat.lt_of_lt_of_le h e.k)
    rwa [e.r i h] at this
  | mnil => exact .mnil
  | fn f caps vs hl h ih => exact .fn f caps vs hl ih
  | bfn g bs vs hl h ih => exact .bfn g bs vs hl ih
  | fnil => exact .fnil
  | yld i h =>
    have := RelA.yld (M := M') i (Nat.lt_of_lt_of_le h e.k)
    rwa [e.r i h] at this
  | sym n v h => exact .sym n v (h.ext e)
  | agg cells vs hl h ih => exact .agg cells vs hl ih
  | tup cells vs hl h ih => exact .tup cells vs hl ih

theorem RelL.ext {M M' : Mem} (e : Ext M M') {vs : List AV} {cs : List Value} (h : RelL M vs cs) : RelL M' vs cs :=
  ⟨h.1, fun j h1 h2 => (h.2 j h1 h2).ext e⟩

theorem RelL.nil (M : Mem) : RelL M [] [] := ⟨rfl, fun j h1 _ => absurd h1 (by simp)⟩

theorem RelL.cons {M : Mem} {v : AV} {c : Value} {vs : List AV} {cs : List Value} (h : RelA M v c) (t : RelL M vs cs) : RelL M (v :: vs) (c :: cs) := by
  refine ⟨by simp [t.1], fun j h1 h2 => ?_⟩
  cases j with
  | zero => exact h
  | succ j => exact t.2 j (by simpa using h1) (by simpa using h2)

theorem RelL.head {M : Mem} {v : AV} {vs : List AV} {cs : List Value} (h : RelL M (v :: vs) cs) : ∃ c cs', cs = c :: cs' ∧ RelA M v c ∧ RelL M vs cs' := by
  cases cs with
  | nil => exact absurd h.1 (by simp)
  | cons c cs' =>
    refine ⟨c, cs', rfl, h.2 0 (by simp) (by simp), by simpa using h.1, fun j h1 h2 => ?_⟩
    exact h.2 (j + 1) (by simpa using h1) (by simpa using h2)

theorem RelL.nil_inv {M : Mem} {cs : List Value} (h : RelL M [] cs) : cs = [] := by
  cases cs with
  | nil => rfl
  | cons c cs => exact absurd h.1 (by simp)

theorem RelL.append {M : Mem} {vs us : List AV} {cs ds : List Value} (h : RelL M vs cs) (g : RelL M us ds) : RelL M (vs ++ us) (cs ++ ds) := by
  refine ⟨by simp [h.1, g.1], fun j h1 h2 => ?_⟩
  by_cases hj : j < vs.length
  · rw [List.getElem_append_left hj, List.getElem_append_left (by have := h.1; omega)]
    exact h.2 j hj _
  · rw [List.getElem_append_right (by omega), List.getElem_append_right (by have := h.1; omega)]
    have e := h.1
    simp only [← e]
    exact g.2 _ _ _

theorem RelL.take {M : Mem} {vs : List AV} {cs : List Value} (h : RelL M vs cs) (n : Nat) : RelL M (vs.take n) (cs.take n) := by
  refine ⟨by simp [h.1], fun j h1 h2 => ?_⟩
  simp only [List.getElem_take]
  exact h.2 j _ _

theorem RelL.drop {M : Mem} {vs : List AV} {cs : List Value} (h : RelL M vs cs) (n : Nat) : RelL M (vs.drop n) (cs.drop n) := by
  refine ⟨by simp [h.1], fun j h1 h2 => ?_⟩
  simp only [List.getElem_drop]
  exact h.2 _ _ _

theorem RelL.set {M : Mem} {vs : List AV} {cs : List Value} (h : RelL M vs cs) {v : AV} {c : Value} (hv : RelA M v c) (n : Nat) : RelL M (vs.set n v) (cs.set n c) := by
  refine ⟨by simp [h.1], fun j h1 h2 => ?_⟩
  simp only [List.getElem_set]
  split
  · exact hv
  · exact h.2 _ _ _

theorem RelL.get {M : Mem} {vs : List AV} {cs : List Value} (h : RelL M vs cs) {j : Nat} {v : AV} (hv : vs[j]? = some v) : ∃ c, cs[j]? = some c ∧ RelA M v c := by
  have hj : j < vs.length := by
    rcases Nat.lt_or_ge j vs.length with h | h
    · exact h
    · simp [List.getElem?_eq_none h] at hv
  have hj2 : j < cs.length := by have := h.1; omega
  refine ⟨cs[j], by simp [hj2], ?_⟩
  have e : vs[j] = v := by simpa [List.getElem?_eq_getElem hj] using hv
  exact e ▸ h.2 j hj hj2

theorem RelL.of_agg {M : Mem} {cells : List AV} {c : Value} (h : RelA M (.agg cells) c) : ∃ vs : Array Value, c = .agg vs ∧ RelL M cells vs.toList := by
  cases h with
  | agg _ vs hl h => exact ⟨vs, rfl, by simpa using hl, fun j h1 h2 => by simpa using h j h1 (by simpa using h2)⟩

theorem RelL.of_tup {M : Mem} {cells : List AV} {c : Value} (h : RelA M (.tup cells) c) : ∃ vs : Array Value, c = .tuple vs ∧ RelL M cells vs.toList := by
  cases h with
  | tup _ vs hl h => exact ⟨vs, rfl, by simpa using hl, fun j h1 h2 => by simpa using h j h1 (by simpa using h2)⟩

theorem RelL.to_agg {M : Mem} {cells : List AV} {vs : Array Value} (h : RelL M cells vs.toList) : RelA M (.agg cells) (.agg vs) :=
  .agg cells vs (by simpa using h.1) fun j h1 h2 => by have := h.2 j h1 (by simpa using h2); rwa [Array.getElem_toList] at this

theorem RelL.to_tup {M : Mem} {cells : List AV} {vs : Array Value} (h : RelL M cells vs.toList) : RelA M (.tup cells) (.tuple vs) :=
  .tup cells vs (by simpa using h.1) fun j h1 h2 => by have := h.2 j h1 (by simpa using h2); rwa [Array.getElem_toList] at this

/-- What an abstract object is. -/
def RelO (M : Mem) (i : Nat) : AObj → Prop
  | .dead => True
  | .cells fr vs => ∃ (cs : Array Value) (t : TypeId) (fz : Nat × Nat) (pre cv rest : List Value), M.w.heap[M.r i]? = some (Obj.cells cs t fz) ∧
      (fz.1 = fz.2 ∨ (fr = true ∧ cs.size ≤ fz.1)) ∧ cs.toList = pre ++ cv ++ rest ∧ pre.length = M.o i ∧ RelL M vs cv ∧ (∀ c ∈ cv, c.oneCell' = true)
  | .map es clock => ∃ (ces : Array MapEntry), M.w.heap[M.r i]? = some (Obj.map ces clock) ∧ ces.size = es.length ∧
      (∀ (j b : Nat) (k v : AV) (e : MapEntry), es[j]? = some (b, k, v) → ces[j]? = some e → e.born = b ∧ RelA M k e.key ∧ RelA M v e.val)
  | .loop r => ∃ (tm : Array Value) (D : Nat) (fn : FuncId), M.w.heap[M.r i]? = some (Obj.loop { state := r.st, pending := r.pend, fn := fn, tmps := tm, params := r.params, assign := r.assign, body := r.body, defers := D }) ∧
      tm.size = r.n ∧ ∀ t, RelA M (aget r.a t) (tm.getD t undef)
  | .iter m since seen last => M.w.heap[M.r i]? = some (Obj.mapIter (m.map M.r) since seen.toArray last) ∧ (∀ j, m = some j → j < M.k) ∧ M.o i = 0
  | .siter s pos => ∃ b : ByteArray, M.w.heap[M.r i]? = some (Obj.stringIter b pos) ∧ b.data.toList = s ∧ M.o i = 0

def AObj.live : AObj → Prop
  | .dead => False
  | _ => True

structure St (M : Mem) (H : List AObj) : Prop where
  k : M.k = H.length
  inj : ∀ i j o o', H[i]? = some o → H[j]? = some o' → o.live → o'.live → M.r i = M.r j → i = j
  fresh : ∀ i o, H[i]? = some o → o.live → ¬ M.I (M.r i)
  bound : ∀ b, M.I b → b < M.w.heap.size
  obj : ∀ i o, H[i]? = some o → RelO M i o

theorem RelO.ext {M M' : Mem} {i : Nat} {o : AObj} (e : Ext M M') (hi : i < M.k) (hb : o.live → M'.w.heap[M.r i]? = M.w.heap[M.r i]?) (h : RelO M i o) : RelO M' i o := by
  cases o with
  | dead => trivial
  | cells fr vs =>
    obtain ⟨cs, t, fz, pre, cv, rest, h1, h2, h3, h4, h5⟩ := h
    exact ⟨cs, t, fz, pre, cv, rest, by rw [e.r i hi, hb trivial]; exact h1, h2, h3, by rw [e.o i hi]; exact h4, h5.1.ext e, h5.2⟩
  | map es clock =>
    obtain ⟨ces, h1, h2, h3⟩ := h
    refine ⟨ces, by rw [e.r i hi, hb trivial]; exact h1, h2, fun j b k v en hj hc => ?_⟩
    obtain ⟨a, b, c⟩ := h3 j b k v en hj hc
    exact ⟨a, b.ext e, c.ext e⟩
  | loop r =>
    obtain ⟨tm, D, fn, h1, h2, h3⟩ := h
    exact ⟨tm, D, fn, by rw [e.r i hi, hb trivial]; exact h1, h2, fun t => (h3 t).ext e⟩
  | iter m since seen last =>
    obtain ⟨h1, h2, h3⟩ := h
    refine ⟨?_, fun j hj => Nat.lt_of_lt_of_le (h2 j hj) e.k, by rw [e.o i hi]; exact h3⟩
    rw [e.r i hi, hb trivial, h1]
    cases m with
    | none => rfl
    | some j => simp only [Option.map_some, e.r j (h2 j rfl)]
  | siter s pos =>
    obtain ⟨b, h1, h2, h3⟩ := h
    exact ⟨b, by rw [e.r i hi, hb trivial]; exact h1, h2, by rw [e.o i hi]; exact h3⟩

theorem RelO.block_lt {M : Mem} {i : Nat} {o : AObj} (h : RelO M i o) (hl : o.live) : M.r i < M.w.heap.size := by
  have key : ∀ {x : Obj}, M.w.heap[M.r i]? = some x → M.r i < M.w.heap.size := fun h => (Array.getElem?_eq_some_iff.1 h).1
  cases o with
  | dead => exact hl.elim
  | cells fr vs => obtain ⟨_, _, _, _, _, _, h1, _⟩ := h; exact key h1
  | map es clock => obtain ⟨_, h1, _⟩ := h; exact key h1
  | loop r => obtain ⟨_, _, _, h1, _⟩ := h; exact key h1
  | iter m since seen last => exact key h.1
  | siter s pos => obtain ⟨_, h1, _⟩ := h; exact key h1

theorem St.rbound {M : Mem} {H : List AObj} (h : St M H) {i : Nat} {o : AObj} (hi : H[i]? = some o) (hl : o.live) : M.r i < M.w.heap.size := (h.obj i o hi).block_lt hl

theorem get_lt {α : Type} {l : List α} {i : Nat} {x : α} (h : l[i]? = some x) : i < l.length := (List.getElem?_eq_some_iff.1 h).1

/-- One live object is turned: all others lie as they lay. -/
theorem St.upd {M M' : Mem} {H : List AObj} (h : St M H) (e : Ext M M') (hI : M'.I = M.I) (hr : M'.r = M.r) (_ho : M'.o = M.o) (hk : M'.k = M.k) {i : Nat} {o o' : AObj}
    (hi : H[i]? = some o) (hl : o.live) (hoth : ∀ b, b ≠ M.r i → M'.w.heap[b]? = M.w.heap[b]?) (hn : RelO M' i o') : St M' (H.set i o') := by
  have hlt := get_lt hi
  have old : ∀ j (x : AObj), (H.set i o')[j]? = some x → j ≠ i → H[j]? = some x := fun j x hj hne => by
    rwa [List.getElem?_set_ne (fun e => hne e.symm)] at hj
  have live : ∀ j (x : AObj), (H.set i o')[j]? = some x → x.live → ∃ y : AObj, H[j]? = some y ∧ y.live := fun j x hj hx => by
    by_cases hji : j = i
    · subst hji; exact ⟨o, hi, hl⟩
    · exact ⟨x, old j x hj hji, hx⟩
  refine ⟨by rw [hk, h.k]; simp, fun a b x y ha hb hx hy hab => ?_, fun a x ha hx => ?_, fun b hb => ?_, fun a x ha => ?_⟩
  · obtain ⟨x', ha', hx'⟩ := live a x ha hx
    obtain ⟨y', hb', hy'⟩ := live b y hb hy
    rw [hr] at hab
    exact h.inj a b x' y' ha' hb' hx' hy' hab
  · obtain ⟨x', ha', hx'⟩ := live a x ha hx
    rw [hI, hr]; exact h.fresh a x' ha' hx'
  · rw [hI] at hb; exact Nat.lt_of_lt_of_le (h.bound b hb) e.size
  · by_cases hai : a = i
    · subst hai
      rw [List.getElem?_set_self hlt] at ha
      cases ha; exact hn
    · have ha' := old a x ha hai
      refine (h.obj a x ha').ext e (by rw [h.k]; exact get_lt ha') (fun hx => hoth _ fun hc => hai ?_)
      exact h.inj a i x o ha' hi hx hl hc

/-- A new block. -/
def Mem.push (M : Mem) (ob : Obj) : Mem :=
  { w := M.w.alloc ob, I := M.I, r := fun j => if j = M.k then M.w.heap.size else M.r j, o := fun j => if j = M.k then 0 else M.o j, k := M.k + 1 }

theorem heap_alloc_old (w : World) (ob : Obj) {b : Nat} (h : b < w.heap.size) : (w.alloc ob).heap[b]? = w.heap[b]? := Go.RowKit.Below.heap_alloc w ob b h
theorem heap_alloc_at (w : World) (ob : Obj) : (w.alloc ob).heap[w.heap.size]? = some ob := by
  show (w.heap.push ob)[w.heap.size]? = _
  simp

theorem some_lt {w : World} {b : Nat} {x : Obj} (h : w.heap[b]? = some x) : b < w.heap.size := (Array.getElem?_eq_some_iff.1 h).1

theorem St.ext_push {M : Mem} {H : List AObj} (h : St M H) (ob : Obj) : Ext M (M.push ob) where
  I _ hb := hb
  old b hb := heap_alloc_old _ _ (h.bound b hb)
  r i hi := by simp only [Mem.push]; rw [if_neg (by omega)]
  o i hi := by simp only [Mem.push]; rw [if_neg (by omega)]
  k := Nat.le_succ _
  shape b cs t fz hb := ⟨cs, fz, by show (M.w.alloc ob).heap[b]? = _; rw [heap_alloc_old _ _ (some_lt hb)]; exact hb, rfl⟩
  size := by show _ ≤ (M.w.heap.push ob).size; simp
  defs b hb := by show (M.w.alloc ob).heap[b]? = _; rw [heap_alloc_old _ _ (some_lt hb)]; exact hb
  os := rfl
  tape := rfl
  output := rfl

theorem St.push {M : Mem} {H : List AObj} (h : St M H) (ob : Obj) (o : AObj) (ho : RelO (M.push ob) H.length o) : St (M.push ob) (H ++ [o]) := by
  have e := h.ext_push ob
  have new : ∀ j (x : AObj), (H ++ [o])[j]? = some x → (H[j]? = some x ∧ j < H.length) ∨ (j = H.length ∧ x = o) := fun j x hj => by
    by_cases hlt : j < H.length
    · rw [List.getElem?_append_left hlt] at hj; exact .inl ⟨hj, hlt⟩
    · rw [List.getElem?_append_right (by omega)] at hj
      have : j - H.length = 0 := by
        have := get_lt hj; simp at this; omega
      rw [this] at hj
      exact .inr ⟨by omega, by simpa using hj.symm⟩
  have rold : ∀ j, j < H.length → (M.push ob).r j = M.r j := fun j hj => e.r j (by rw [h.k]; exact hj)
  have rnew : (M.push ob).r H.length = M.w.heap.size := by simp [Mem.push, h.k]
  refine ⟨by simp [Mem.push, h.k], fun a b x y ha hb hx hy hab => ?_, fun a x ha hx => ?_, fun b hb => Nat.lt_of_lt_of_le (h.bound b hb) e.size, fun a x ha => ?_⟩
  · rcases new a x ha with ⟨ha', hla⟩ | ⟨rfl, rfl⟩ <;> rcases new b y hb with ⟨hb', hlb⟩ | ⟨rfl, rfl⟩
    · rw [rold a hla, rold b hlb] at hab; exact h.inj a b x y ha' hb' hx hy hab
    · rw [rold a hla, rnew] at hab; have := h.rbound ha' hx; omega
    · rw [rold b hlb, rnew] at hab; have := h.rbound hb' hy; omega
    · rfl
  · rcases new a x ha with ⟨ha', hla⟩ | ⟨rfl, rfl⟩
    · rw [rold a hla]; exact h.fresh a x ha' hx
    · rw [rnew]; intro hc; have := h.bound _ hc; omega
  · rcases new a x ha with ⟨ha', hla⟩ | ⟨rfl, rfl⟩
    · exact (h.obj a x ha').ext e (by rw [h.k]; exact hla) (fun hx => heap_alloc_old _ _ (h.rbound ha' hx))
    · exact ho

/-- A new block of cells. -/
theorem St.push_cells {M : Mem} {H : List AObj} (h : St M H) (cs : Array Value) (t : TypeId) (fr : Bool) (vs : List AV) (rest : List Value) (cv : List Value) (hcs : cs.toList = cv ++ rest) (hv : RelL M vs cv) (h1 : ∀ c ∈ cv, c.oneCell' = true) :
    St (M.push (.cells cs t)) (H ++ [.cells fr vs]) := by
  refine h.push _ _ ⟨cs, t, (0, 0), [], cv, rest, ?_, .inl rfl, by simpa using hcs, ?_, hv.ext (h.ext_push _), h1⟩
  · have : (M.push (.cells cs t)).r H.length = M.w.heap.size := by simp [Mem.push, h.k]
    rw [this]; exact heap_alloc_at _ _
  · simp [Mem.push, h.k]

end Go.R
