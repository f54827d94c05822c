/-
  The abstract layer, part 4: places in memory, parts of values, lengths, cuts.
-/
import Derived.Test.YtikgnakhciklaaaGreatDoorRc
namespace Go.R
set_option linter.unusedSectionVars false
variable [Syms]
set_option linter.unusedSimpArgs false

/-! ### Fields -/

def afieldAddr (P : Program) (H : List AObj) (s : TypeId) (p : AV) (f : Nat) : ARes :=
  match tField P s f with
  | some (off, ft) =>
    match tSize P ft with
    | some (_ + 1) =>
      match p with
      | .ptr i o => ⟨True, .ptr i (o + off), H⟩
      | .imm cells => ⟨True, .imm (cells.drop off), H⟩
      | _ => fail H
    | _ => fail H
  | none => fail H

theorem rel_imm_drop {M : Mem} {cells : List DV} {A : Addr} (h : RelA M (.imm cells) (.pointer (some A))) (n : Nat) : RelA M (.imm (cells.drop n)) (.pointer (some (A.add n))) := by
  cases h with
  | imm _ _ vs hI hc hr =>
    by_cases h0 : n = 0
    · subst h0
      rw [Addr.add_zero', List.drop_zero]
      exact .imm A cells vs hI hc hr
    · by_cases hl : n < cells.length
      · obtain ⟨i1, i2⟩ := hI (by omega)
        rw [addr_add' i2]
        refine .imm _ _ (fun j => vs (n + j)) (fun _ => ⟨i1, rfl⟩) (fun j hj => ?_) (fun j hj => ?_)
        · simp at hj
          have := hc (n + j) (by omega)
          simpa [Nat.add_assoc] using this
        · simp at hj
          have := hr (n + j) (by omega)
          simpa [List.getElem_drop] using this
      · rw [List.drop_eq_nil_of_le (by omega)]
        exact .imm _ [] (fun _ => undef) (fun h => absurd h (by simp)) (fun j h => absurd h (by simp)) (fun j h => absurd h (by simp))

theorem rel_ptr_add {M : Mem} {i off n : Nat} (hi : i < M.k) : RelA M (.ptr i (off + n)) (.pointer (some ((⟨M.r i, M.o i + off, none⟩ : Addr).add n))) := by
  rw [addr_add, Nat.add_assoc]
  exact .ptr i (off + n) hi

theorem sound_fieldAddr {P : Program} {M : Mem} {H : List AObj} (hs : St M H) (s : TypeId) (f : Nat) {p : AV} {c : Value} (hp : RelA M p c) : SoundV P (Instr.fieldAt s c f) M (afieldAddr P H s p f) := by
  unfold afieldAddr
  split
  · rename_i off ft hf
    split
    · rename_i n hn
      obtain ⟨fs, x, h1, h2, rfl, rfl⟩ := of_tField hf
      have key : ∀ A : Addr, (Instr.fieldAt s (.pointer (some A)) f).run P M.w = .ok (.pointer (some (A.add x.offset))) M.w := fun A => by
        simp [Instr.fieldAt, run_underlying h1, h2, Instr.sureAddr, fieldPlace, run_sizeOf hn]
      split
      · obtain ⟨rfl, hi⟩ := hp.ptr_inv
        exact .pure hs rfl fun _ => ⟨_, key _, rel_ptr_add hi⟩
      · obtain ⟨A, rfl, _⟩ := hp.imm_inv
        exact .pure hs rfl fun _ => ⟨_, key _, rel_imm_drop hp _⟩
      · exact .fail
    · exact .fail
  · exact .fail

/-- A part of a struct's or an array's cells. -/
def apart (P : Program) (t : TypeId) (cs : List AV) (off : Nat) (H : List AObj) : ARes :=
  match tAgg P t, tSize P t with
  | some true, some n => ⟨True, .agg ((cs.drop off).take n), H⟩
  | some false, _ => ⟨off < cs.length, cs.getD off .junk, H⟩
  | _, _ => fail H

theorem sound_part {P : Program} {M : Mem} {H : List AObj} (hs : St M H) (t : TypeId) (off : Nat) {cs : List AV} {arr : Array Value} (hr : RelL M cs arr.toList) :
    SoundV P (part t arr off) M (apart P t cs off H) := by
  unfold apart
  split
  · rename_i n ha hn
    refine .pure hs rfl fun _ => ⟨.agg (arr.extract off (off + n)), by simp [part, run_isAgg ha, run_sizeOf hn], RelL.to_agg ?_⟩
    rw [Array.toList_extract]
    have := (hr.drop off).take n
    simpa [List.extract_eq_take_drop] using this
  · rename_i ha
    refine .pure hs rfl fun hok => ?_
    obtain ⟨c, hc, hrel⟩ := hr.getD hok
    rw [Array.getElem?_toList] at hc
    exact ⟨c, by simp [part, run_isAgg ha, hc], hrel⟩
  · exact .fail

def afield (P : Program) (H : List AObj) (t : TypeId) (x : AV) (f : Nat) : ARes :=
  match x, tField P t f with
  | .agg cs, some (off, ft) => apart P ft cs off H
  | _, _ => fail H

theorem SoundV.of_run {P : Program} {s s' : Sem Value} {M : Mem} {r : ARes} (h : SoundV P s' M r) (e : s.run P M.w = s'.run P M.w) : SoundV P s M r := fun hok => by
  obtain ⟨c, M', h1, h2⟩ := h hok
  exact ⟨c, M', e.trans h1, h2⟩

theorem sound_field {P : Program} {M : Mem} {H : List AObj} (hs : St M H) (t : TypeId) (f : Nat) {x : AV} {c : Value} (hx : RelA M x c) : SoundV P (Instr.field t c f) M (afield P H t x f) := by
  unfold afield
  split
  · rename_i cs off ft hf
    obtain ⟨fs, y, h1, h2, rfl, rfl⟩ := of_tField hf
    obtain ⟨arr, rfl, hr⟩ := RelL.of_agg hx
    exact (sound_part hs y.type y.offset hr).of_run (by simp [Instr.field, run_underlying h1, h2, asAgg])
  · exact .fail

/-! ### Indexes -/

def aindexAddr (P : Program) (H : List AObj) (t : TypeId) (x ix : AV) : ARes :=
  match ix with
  | .d (.int _ n) =>
    match tSlice P t, tArr P t with
    | some e, _ =>
      match tSize P e with
      | some size =>
        match x with
        | .d (.sl size' elems _) => ⟨size' = size ∧ 0 ≤ n ∧ n < elems.length, .imm (elems.getD n.toNat []), H⟩
        | .row i size' off len => ⟨size' = size ∧ 0 ≤ n ∧ n < len, .ptr i (off + n.toNat * size), H⟩
        | _ => fail H
      | none => fail H
    | none, some (len, e) =>
      match tSize P e with
      | some size =>
        match x with
        | .ptr i off => ⟨0 ≤ n ∧ n < len, .ptr i (off + n.toNat * size), H⟩
        | .imm cells => ⟨0 ≤ n ∧ n < len, .imm (cells.drop (n.toNat * size)), H⟩
        | _ => fail H
      | none => fail H
    | _, _ => fail H
  | _ => fail H

theorem RelA.int_inv {M : Mem} {k : IntKind} {n : Int} {c : Value} (h : RelA M (.d (.int k n)) c) : c = .int k n := by
  cases h with
  | d _ _ h => cases h; rfl

theorem RelA.bool_inv {M : Mem} {b : Bool} {c : Value} (h : RelA M (.d (.bool b)) c) : c = .bool b := by
  cases h with
  | d _ _ h => cases h; rfl

theorem RelA.str_inv {M : Mem} {s : List UInt8} {c : Value} (h : RelA M (.d (.str s)) c) : ∃ b : ByteArray, c = .string b ∧ b.data.toList = s := by
  cases h with
  | d _ _ h => cases h; exact ⟨_, rfl, rfl⟩

theorem RelA.snil_inv {M : Mem} {c : Value} (h : RelA M (.d .snil) c) : c = .slice none 0 0 := by
  cases h with
  | d _ _ h => cases h; rfl

theorem RelA.str_mk (M : Mem) (b : ByteArray) : RelA M (.d (.str b.data.toList)) (.string b) := .d _ _ (.str b)

theorem RelA.sl_inv {M : Mem} {size : Nat} {elems : List (List DV)} {ex : Bool} {c : Value} (h : RelA M (.d (.sl size elems ex)) c) : ∃ (A : Addr) (cap : Nat), c = .slice (some A) elems.length cap ∧ elems.length ≤ cap ∧ (ex = true → cap = elems.length) ∧
    (0 < elems.length * size → M.I A.block ∧ A.spot = none) ∧ (∀ i (h : i < elems.length), (elems[i]'h).length = size) ∧
    (∀ i (h : i < elems.length), RelA M (.imm (elems[i]'h)) (.pointer (some (A.add (i * size))))) := by
  cases h with
  | d _ _ h =>
    cases h with
    | sl A cap _ _ _ vs hn hex hsz hI hc hr =>
      refine ⟨A, cap, rfl, hn, hex, hI, hsz, fun i hi => ?_⟩
      by_cases h0 : size = 0
      · have : elems[i] = [] := List.eq_nil_of_length_eq_zero (by rw [hsz i hi, h0])
        rw [this]
        exact .imm _ [] (fun _ => undef) (fun h => absurd h (by simp)) (fun j h => absurd h (by simp)) (fun j h => absurd h (by simp))
      · obtain ⟨i1, i2⟩ := hI (Nat.mul_pos (by omega) (by omega))
        rw [addr_add' i2]
        refine .imm _ _ (fun j => vs (i * size + j)) (fun _ => ⟨i1, rfl⟩) (fun j hj => ?_) (fun j hj => hr i j hi hj)
        rw [hsz i hi] at hj
        have := hc i j hi hj
        simpa [Nat.add_assoc] using this

theorem RelA.row_inv {M : Mem} {i size off n : Nat} {c : Value} (h : RelA M (.row i size off n) c) : i < M.k ∧
    ((∃ cap, c = .slice (some ⟨M.r i, M.o i + off, none⟩) n cap ∧ n ≤ cap ∧ ∃ (cs : Array Value) (t : TypeId) (fz : Nat × Nat), M.w.heap[M.r i]? = some (.cells cs t fz) ∧ M.o i + off + cap * size ≤ cs.size) ∨
     (n = 0 ∧ ∃ A, c = .slice (some A) 0 0)) := by
  cases h with
  | row _ _ _ _ c h hn cs t fz hb hs => exact ⟨h, .inl ⟨c, rfl, hn, cs, t, fz, hb, hs⟩⟩
  | row0 _ _ _ h A => exact ⟨h, .inr ⟨rfl, A, rfl⟩⟩

theorem sound_indexAddr {P : Program} {M : Mem} {H : List AObj} (hs : St M H) (t : TypeId) {x ix : AV} {c d : Value} (hx : RelA M x c) (hi : RelA M ix d) :
    SoundV P (Instr.indexAt t c d) M (aindexAddr P H t x ix) := by
  unfold aindexAddr
  split
  · rename_i k n
    obtain rfl := hi.int_inv
    split
    · rename_i e he
      have hu := of_tSlice he
      split
      · rename_i size hsz
        split
        · rename_i size' elems ex
          obtain ⟨A, cap, rfl, _, _, _, _, hel⟩ := hx.sl_inv
          refine .pure hs rfl fun hok => ?_
          simp only at hok ⊢
          obtain ⟨rfl, h0, h1⟩ := hok
          refine ⟨.pointer (some (A.add (n.toNat * size'))), ?_, ?_⟩
          · simp [Instr.indexAt, asIntOf, run_underlying hu, h0, h1, run_sizeOf hsz]
          · have hlt : n.toNat < elems.length := by omega
            have := hel n.toNat hlt
            rwa [List.getD, List.getElem?_eq_getElem hlt, Option.getD_some]
        · rename_i i size' off len
          obtain ⟨hik, h⟩ := hx.row_inv
          refine .pure hs rfl fun hok => ?_
          simp only at hok ⊢
          obtain ⟨rfl, h0, h1⟩ := hok
          rcases h with ⟨cap, rfl, _⟩ | ⟨rfl, A, rfl⟩
          · refine ⟨_, ?_, rel_ptr_add hik⟩
            simp [Instr.indexAt, asIntOf, run_underlying hu, h0, h1, run_sizeOf hsz]
          · omega
        · exact .fail
      · exact .fail
    · rename_i len e _ he
      have hu := of_tArr he
      split
      · rename_i size hsz
        have key : ∀ A : Addr, 0 ≤ n ∧ n < len → (Instr.indexAt t (.pointer (some A)) (.int k n)).run P M.w = .ok (.pointer (some (A.add (n.toNat * size)))) M.w := fun A h => by
          simp [Instr.indexAt, asIntOf, run_underlying hu, h.1, h.2, run_sizeOf hsz, Instr.sureAddr]
        split
        · obtain ⟨rfl, hik⟩ := hx.ptr_inv
          exact .pure hs rfl fun hok => ⟨_, key _ hok, rel_ptr_add hik⟩
        · obtain ⟨A, rfl, _⟩ := hx.imm_inv
          exact .pure hs rfl fun hok => ⟨_, key _ hok, rel_imm_drop hx _⟩
        · exact .fail
      · exact .fail
    · exact .fail
  · exact .fail

def aindex (P : Program) (H : List AObj) (t : TypeId) (x ix : AV) : ARes :=
  match ix, x with
  | .d (.int _ n), .d (.str s) =>
    match P.underlying t with
    | some .string => ⟨0 ≤ n ∧ n < s.length, .d (.int .u8 (s.getD n.toNat 0).toNat), H⟩
    | _ => fail H
  | .d (.int _ n), .agg cs =>
    match tArr P t with
    | some (len, e) =>
      match tSize P e with
      | some size => ⟨0 ≤ n ∧ n < len ∧ (apart P e cs (n.toNat * size) H).ok, (apart P e cs (n.toNat * size) H).v, H⟩
      | none => fail H
    | none => fail H
  | _, _ => fail H

theorem apart_h (P : Program) (t : TypeId) (cs : List AV) (off : Nat) (H : List AObj) : (apart P t cs off H).h = H := by
  unfold apart; split <;> rfl

theorem sound_index {P : Program} {M : Mem} {H : List AObj} (hs : St M H) (t : TypeId) {x ix : AV} {c d : Value} (hx : RelA M x c) (hi : RelA M ix d) :
    SoundV P (Instr.index t c d) M (aindex P H t x ix) := by
  unfold aindex
  split
  · rename_i k n s
    obtain rfl := hi.int_inv
    obtain ⟨b, rfl, rfl⟩ := hx.str_inv
    split
    · rename_i hu
      refine .pure hs rfl fun hok => ?_
      simp only at hok ⊢
      obtain ⟨h0, h1⟩ := hok
      have hlt : n.toNat < b.size := by rw [Array.length_toList] at h1; show n.toNat < b.data.size; omega
      refine ⟨.int .u8 (b[n.toNat]'hlt).toNat, ?_, ?_⟩
      · have : b[n.toNat]? = some (b[n.toNat]'hlt) := by simp [getElem?_pos, hlt]
        simp [Instr.index, asIntOf, run_underlying hu, h0, this]
      · have hlt' : n.toNat < b.data.toList.length := by rw [Array.length_toList]; exact hlt
        rw [List.getD, List.getElem?_eq_getElem hlt', Option.getD_some]
        exact .d _ _ (.int _ _)
    · exact .fail
  · rename_i k n cs
    obtain rfl := hi.int_inv
    obtain ⟨arr, rfl, hr⟩ := RelL.of_agg hx
    split
    · rename_i len e he
      have hu := of_tArr he
      split
      · rename_i size hsz
        intro hok
        simp only at hok ⊢
        obtain ⟨h0, h1, h2⟩ := hok
        obtain ⟨v, M', r1, r2, r3, r4⟩ := (sound_part (P := P) hs e (n.toNat * size) hr) h2
        refine ⟨v, M', ?_, r2, by rwa [apart_h] at r3, r4⟩
        simp [Instr.index, asIntOf, run_underlying hu, h0, h1, run_sizeOf hsz, r1]
      · exact .fail
    · exact .fail
  · exact .fail

def aextract (H : List AObj) (t : AV) (i : Nat) : ARes :=
  match t with
  | .tup vs => ⟨i < vs.length, vs.getD i .junk, H⟩
  | _ => fail H

theorem sound_extract {P : Program} {M : Mem} {H : List AObj} (hs : St M H) (i : Nat) {t : AV} {c : Value} (ht : RelA M t c) : SoundV P (Instr.extract c i) M (aextract H t i) := by
  unfold aextract
  split
  · obtain ⟨arr, rfl, hr⟩ := RelL.of_tup ht
    refine .pure hs rfl fun hok => ?_
    obtain ⟨c, hc, hrel⟩ := hr.getD hok
    rw [Array.getElem?_toList] at hc
    exact ⟨c, by simp [Instr.extract, hc], hrel⟩
  · exact .fail

/-! ### Lengths -/

def alen (P : Program) (H : List AObj) (t : TypeId) (x : AV) : ARes :=
  match x, P.underlying t with
  | .d (.str s), some .string => ⟨True, .d (.int .i64 s.length), H⟩
  | .d .snil, some (.slice _) => ⟨True, .d (.int .i64 0), H⟩
  | .d (.sl _ elems _), some (.slice _) => ⟨True, .d (.int .i64 elems.length), H⟩
  | .row _ _ _ n, some (.slice _) => ⟨True, .d (.int .i64 n), H⟩
  | .mnil, some (.map _ _) => ⟨True, .d (.int .i64 0), H⟩
  | .map i, some (.map _ _) =>
    match H[i]? with
    | some (.map es _) => ⟨True, .d (.int .i64 es.length), H⟩
    | _ => fail H
  | _, some (.array n _) => ⟨True, .d (.int .i64 n), H⟩
  | _, _ => fail H

theorem RelA.map_inv {M : Mem} {i : Nat} {c : Value} (h : RelA M (.map i) c) : c = .map (some (M.r i)) ∧ i < M.k := by
  cases h with
  | map _ h => exact ⟨rfl, h⟩

theorem RelA.mnil_inv {M : Mem} {c : Value} (h : RelA M .mnil c) : c = .map none := by cases h; rfl

theorem sound_len {P : Program} {M : Mem} {H : List AObj} (hs : St M H) (t ty : TypeId) {x : AV} {c : Value} (hx : RelA M x c) : SoundV P (Builtin.len_ #[t] ty #[c]) M (alen P H t x) := by
  unfold alen
  split
  · rename_i s hu
    obtain ⟨b, rfl, rfl⟩ := hx.str_inv
    refine .pure hs rfl fun _ => ⟨.int .i64 b.size, by simp [Builtin.len_, run_underlying hu, goInt], ?_⟩
    have : (b.data.toList.length : Int) = (b.size : Int) := by rw [Array.length_toList]; rfl
    simp only [this]
    exact .d _ _ (.int _ _)
  · rename_i e hu
    obtain rfl := hx.snil_inv
    exact .pure hs rfl fun _ => ⟨.int .i64 0, by simp [Builtin.len_, run_underlying hu, goInt], .d _ _ (.int _ _)⟩
  · rename_i elems ex e hu
    obtain ⟨A, cap, rfl, _⟩ := hx.sl_inv
    exact .pure hs rfl fun _ => ⟨.int .i64 elems.length, by simp [Builtin.len_, run_underlying hu, goInt], .d _ _ (.int _ _)⟩
  · rename_i i size off n e hu
    refine .pure hs rfl fun _ => ⟨.int .i64 n, ?_, .d _ _ (.int _ _)⟩
    rcases hx.row_inv.2 with ⟨cap, rfl, _⟩ | ⟨rfl, A, rfl⟩ <;> simp [Builtin.len_, run_underlying hu, goInt]
  · rename_i k e hu
    obtain rfl := hx.mnil_inv
    exact .pure hs rfl fun _ => ⟨.int .i64 0, by simp [Builtin.len_, run_underlying hu, goInt], .d _ _ (.int _ _)⟩
  · rename_i i k e hu
    obtain ⟨rfl, hi⟩ := hx.map_inv
    split
    · rename_i es clock he
      obtain ⟨ces, h1, h2, _⟩ := hs.obj i _ he
      exact .pure hs rfl fun _ => ⟨.int .i64 ces.size, by simp [Builtin.len_, run_underlying hu, goInt, getObj, Sem.run, h1], by rw [h2]; exact .d _ _ (.int _ _)⟩
    · exact .fail
  · rename_i n e hu
    refine .pure hs rfl fun _ => ⟨.int .i64 n, ?_, .d _ _ (.int _ _)⟩
    simp [Builtin.len_, run_underlying hu, goInt]
  · exact .fail

end Go.R
