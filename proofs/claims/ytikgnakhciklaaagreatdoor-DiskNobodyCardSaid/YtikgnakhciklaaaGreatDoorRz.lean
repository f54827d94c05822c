/-
  The abstract layer, part 23: the machine that runs.
-/
import Derived.Test.YtikgnakhciklaaaGreatDoorRy
import Derived.Test.YtikgnakhciklaaaGreatDoorR1
namespace Go.R
set_option linter.unusedSectionVars false
variable [Syms]
set_option linter.unusedSimpArgs false
set_option linter.unusedVariables false

/-! ### Equality, as far as it is told -/

mutual
def DV.beq : DV → DV → Bool
  | .bool a, .bool b => a == b
  | .int j a, .int k b => j == k && a == b
  | .str s, .str t => s == t
  | .snil, .snil => true
  | .sl n es x, .sl m fs y => n == m && DV.beqLL es fs && x == y
  | _, _ => false
def DV.beqL : List DV → List DV → Bool
  | [], [] => true
  | a :: as, b :: bs => DV.beq a b && DV.beqL as bs
  | _, _ => false
def DV.beqLL : List (List DV) → List (List DV) → Bool
  | [], [] => true
  | a :: as, b :: bs => DV.beqL a b && DV.beqLL as bs
  | _, _ => false
end

mutual
theorem DV.beq_eq : ∀ {a b : DV}, DV.beq a b = true → a = b
  | .bool a, b, h => by cases b <;> simp_all [DV.beq]
  | .int j a, b, h => by cases b <;> simp_all [DV.beq]
  | .str s, b, h => by cases b <;> simp_all [DV.beq]
  | .snil, b, h => by cases b <;> simp_all [DV.beq]
  | .sl n es x, b, h => by
    cases b <;> simp [DV.beq] at h
    rename_i m fs y
    obtain ⟨⟨rfl, h2⟩, rfl⟩ := h
    rw [DV.beqLL_eq h2]
theorem DV.beqL_eq : ∀ {a b : List DV}, DV.beqL a b = true → a = b
  | [], b, h => by cases b <;> simp_all [DV.beqL]
  | a :: as, b, h => by
    cases b <;> simp [DV.beqL] at h
    rw [DV.beq_eq h.1, DV.beqL_eq h.2]
theorem DV.beqLL_eq : ∀ {a b : List (List DV)}, DV.beqLL a b = true → a = b
  | [], b, h => by cases b <;> simp_all [DV.beqLL]
  | a :: as, b, h => by
    cases b <;> simp [DV.beqLL] at h
    rw [DV.beqL_eq h.1, DV.beqLL_eq h.2]
end

def fnEq : Fn → Fn → Bool
  | .func f, .func g => f == g
  | _, _ => false
theorem fnEq_eq {f g : Fn} (h : fnEq f g = true) : f = g := by
  unfold fnEq at h
  split at h
  · rw [beq_iff_eq.1 h]
  · simp at h

mutual
def AV.beq : AV → AV → Bool
  | .junk, .junk => true
  | .d a, .d b => DV.beq a b
  | .ptr i a, .ptr j b => i == j && a == b
  | .pnil, .pnil => true
  | .imm a, .imm b => DV.beqL a b
  | .row i a b c, .row j a2 b2 c2 => i == j && a == a2 && b == b2 && c == c2
  | .map i, .map j => i == j
  | .mnil, .mnil => true
  | .fn f a, .fn g b => fnEq f g && AV.beqL a b
  | .bfn f a, .bfn g b => f == g && AV.beqL a b
  | .fnil, .fnil => true
  | .yld i, .yld j => i == j
  | .sym i, .sym j => i == j
  | .agg a, .agg b => AV.beqL a b
  | .tup a, .tup b => AV.beqL a b
  | _, _ => false
def AV.beqL : List AV → List AV → Bool
  | [], [] => true
  | a :: as, b :: bs => AV.beq a b && AV.beqL as bs
  | _, _ => false
end

mutual
theorem AV.beq_eq : ∀ {a b : AV}, AV.beq a b = true → a = b
  | .junk, b, h => by cases b <;> simp_all [AV.beq]
  | .d x, b, h => by
    cases b <;> simp [AV.beq] at h
    rw [DV.beq_eq h]
  | .ptr i o, b, h => by cases b <;> simp_all [AV.beq]
  | .pnil, b, h => by cases b <;> simp_all [AV.beq]
  | .imm x, b, h => by
    cases b <;> simp [AV.beq] at h
    rw [DV.beqL_eq h]
  | .row i x y z, b, h => by cases b <;> simp_all [AV.beq]
  | .map i, b, h => by cases b <;> simp_all [AV.beq]
  | .mnil, b, h => by cases b <;> simp_all [AV.beq]
  | .fn f x, b, h => by
    cases b <;> simp [AV.beq] at h
    rw [fnEq_eq h.1, AV.beqL_eq h.2]
  | .fnil, b, h => by cases b <;> simp_all [AV.beq]
  | .bfn f x, b, h => by
    cases b <;> simp [AV.beq] at h
    rw [h.1, AV.beqL_eq h.2]
  | .yld i, b, h => by cases b <;> simp_all [AV.beq]
  | .sym i, b, h => by cases b <;> simp_all [AV.beq]
  | .agg x, b, h => by
    cases b <;> simp [AV.beq] at h
    rw [AV.beqL_eq h]
  | .tup x, b, h => by
    cases b <;> simp [AV.beq] at h
    rw [AV.beqL_eq h]
theorem AV.beqL_eq : ∀ {a b : List AV}, AV.beqL a b = true → a = b
  | [], b, h => by cases b <;> simp_all [AV.beqL]
  | a :: as, b, h => by
    cases b <;> simp [AV.beqL] at h
    rw [AV.beq_eq h.1, AV.beqL_eq h.2]
end

def beqE : List (Nat × AV × AV) → List (Nat × AV × AV) → Bool
  | [], [] => true
  | (a, b, c) :: x, (d, e, f) :: y => a == d && AV.beq b e && AV.beq c f && beqE x y
  | _, _ => false
theorem beqE_eq : ∀ {x y : List (Nat × AV × AV)}, beqE x y = true → x = y
  | [], y, h => by cases y <;> simp_all [beqE]
  | (a, b, c) :: x, y, h => by
    cases y with
    | nil => simp [beqE] at h
    | cons p y =>
      obtain ⟨d, e, f⟩ := p
      simp only [beqE, Bool.and_eq_true, beq_iff_eq] at h
      obtain ⟨⟨⟨rfl, h2⟩, h3⟩, h4⟩ := h
      rw [AV.beq_eq h2, AV.beq_eq h3, beqE_eq h4]

def AObj.beq : AObj → AObj → Bool
  | .dead, .dead => true
  | .cells a x, .cells b y => a == b && AV.beqL x y
  | .map a x, .map b y => beqE a b && x == y
  | .iter a b c d, .iter e f g h => a == e && b == f && c == g && d == h
  | .siter a b, .siter c d => a == c && b == d
  | _, _ => false
theorem AObj.beq_eq : ∀ {a b : AObj}, AObj.beq a b = true → a = b := by
  intro a b h
  cases a <;> cases b <;> simp [AObj.beq] at h
  · rfl
  · rw [h.1, AV.beqL_eq h.2]
  · rw [beqE_eq h.1, h.2]
  · rw [h.1.1.1, h.1.1.2, h.1.2, h.2]
  · rw [h.1, h.2]
def beqH : List AObj → List AObj → Bool
  | [], [] => true
  | a :: x, b :: y => AObj.beq a b && beqH x y
  | _, _ => false
theorem beqH_eq : ∀ {x y : List AObj}, beqH x y = true → x = y
  | [], y, h => by cases y <;> simp_all [beqH]
  | a :: x, y, h => by
    cases y <;> simp [beqH] at h
    rw [AObj.beq_eq h.1, beqH_eq h.2]

/-! ### Giving up what is not reached -/

mutual
def AV.refs : AV → List Nat
  | .ptr i _ => [i]
  | .row i _ _ _ => [i]
  | .map i => [i]
  | .yld i => [i]
  | .fn _ caps => AV.refsL caps
  | .bfn _ bs => AV.refsL bs
  | .agg cs => AV.refsL cs
  | .tup cs => AV.refsL cs
  | _ => []
def AV.refsL : List AV → List Nat
  | [] => []
  | v :: vs => AV.refs v ++ AV.refsL vs
end

def AObj.refs : AObj → List Nat
  | .cells _ vs => AV.refsL vs
  | .map es _ => es.flatMap fun e => AV.refs e.2.1 ++ AV.refs e.2.2
  | .loop r => r.a.flatMap fun p => AV.refs p.2
  | .iter (some m) _ _ _ => [m]
  | _ => []

def reach (H : List AObj) : Nat → List Nat → List Nat → List Nat
  | 0, _, seen => seen
  | _ + 1, [], seen => seen
  | n + 1, i :: todo, seen =>
    if seen.contains i then reach H n todo seen
    else match H[i]? with
      | some o => reach H n (o.refs ++ todo) (i :: seen)
      | none => reach H n todo (i :: seen)

def killFrom (live : List Nat) (base : Nat) : Nat → List AObj → List AObj
  | _, [] => []
  | i, o :: H => (if i < base ∨ live.contains i = true then o else .dead) :: killFrom live base (i + 1) H

theorem killFrom_len (live : List Nat) (base : Nat) : ∀ (i : Nat) (H : List AObj), (killFrom live base i H).length = H.length
  | _, [] => rfl
  | i, o :: H => by simp [killFrom, killFrom_len live base (i + 1) H]

theorem killFrom_get (live : List Nat) (base : Nat) : ∀ (i : Nat) (H : List AObj) (j : Nat) (o : AObj), (killFrom live base i H)[j]? = some o → H[j]? = some o ∨ o = .dead
  | i, [], j, o, h => by simp [killFrom] at h
  | i, x :: H, 0, o, h => by
    simp only [killFrom, List.getElem?_cons_zero, Option.some.injEq] at h
    split at h
    · exact .inl (by simp [h])
    · exact .inr h.symm
  | i, x :: H, j + 1, o, h => by
    simp only [killFrom, List.getElem?_cons_succ] at h
    exact killFrom_get live base (i + 1) H j o h

def maxL : List Nat → Nat → Nat
  | [], n => n
  | x :: xs, n => maxL xs (if n < x + 1 then x + 1 else n)

/-- The objects that are still reached; those behind them are given up. -/
def gc (base : Nat) (v : AV) (H : List AObj) : List AObj :=
  let live := reach H 100000 (v.refs ++ List.range base) []
  (killFrom live base 0 H).take (maxL live base)

theorem St.weaken {M : Mem} {H L : List AObj} (hs : St M H) (hl : L.length ≤ H.length) (h : ∀ (j : Nat) (o : AObj), L[j]? = some o → H[j]? = some o ∨ o = .dead) (hlt : Go.R.ltH L.length L = true) {v : AV} {c : Value} (hv : RelA M v c) (hvl : v.lt L.length = true) :
    St { M with k := L.length } L ∧ RelA { M with k := L.length } v c := by
  have live : ∀ (j : Nat) (o : AObj), L[j]? = some o → o.live → H[j]? = some o := fun j o hj hl => by
    rcases h j o hj with h | h
    · exact h
    · subst h; exact hl.elim
  refine ⟨⟨rfl, fun i j x y hi hj hx hy => hs.inj i j x y (live i x hi hx) (live j y hj hy) hx hy, fun i x hi hx => hs.fresh i x (live i x hi hx) hx, hs.bound, fun i x hi => ?_⟩, ?_⟩
  · have hxl : x.lt L.length = true := by
      unfold Go.R.ltH at hlt
      rw [List.all_eq_true] at hlt
      exact hlt x (List.mem_of_getElem? hi)
    rcases h i x hi with h | h
    · exact RelO.renum (M := M) (M' := { M with k := L.length }) (k := L.length) rfl (fun _ h => h) (Nat.le_refl _) (fun _ _ => rfl) (fun _ _ => rfl) (hs.obj i x h) rfl rfl hxl
    · subst h; trivial
  · exact RelA.renum (M := M) (M' := { M with k := L.length }) (k := L.length) rfl (fun _ h => h) (Nat.le_refl _) (fun _ _ => rfl) (fun _ _ => rfl) hv hvl

/-- What a call leaves may be given up, as far as it is not reached. -/
theorem ACalls.gc {P : Program} {f : FuncId} {args : List AV} {H : List AObj} {R R' : AV → List AObj → Prop} (h : ACalls P f args H R)
    (hr : ∀ v H', R v H' → R' v H' ∨ (H.length ≤ (Go.R.gc H.length v H').length ∧ ltH (Go.R.gc H.length v H').length (Go.R.gc H.length v H') = true ∧ v.lt (Go.R.gc H.length v H').length = true ∧ R' v (Go.R.gc H.length v H'))) : ACalls P f args H R' := by
  intro M cargs hs ha
  refine (h M cargs hs ha).mono ?_
  rintro e w' ⟨cv, M', v, H', rfl, rfl, h1, h2, h3, h4⟩
  rcases hr v H' h4 with h | ⟨g1, g2, g3, g4⟩
  · exact ⟨cv, M', v, H', rfl, rfl, h1, h2, h3, h⟩
  · obtain ⟨L, hL⟩ : ∃ L, L = Go.R.gc H.length v H' := ⟨_, rfl⟩
    rw [← hL] at g1 g2 g3 g4
    have hlen : L.length ≤ H'.length := by
      rw [hL]; unfold Go.R.gc
      simp only [List.length_take, killFrom_len]
      exact Nat.min_le_right _ _
    have hget : ∀ (j : Nat) (o : AObj), L[j]? = some o → H'[j]? = some o ∨ o = .dead := by
      intro j o hj
      rw [hL] at hj
      unfold Go.R.gc at hj
      simp only at hj
      have := get_lt hj
      simp only [List.length_take] at this
      rw [List.getElem?_take_of_lt (by omega)] at hj
      exact killFrom_get _ _ _ _ _ _ hj
    obtain ⟨s1, r1⟩ := h2.weaken hlen hget g2 h3 g3
    exact ⟨cv, { M' with k := L.length }, v, L, rfl, rfl, ⟨h1.I, h1.old, h1.r, h1.o, by rw [hs.k]; exact g1, h1.shape, h1.size, h1.defs, h1.os, h1.tape, h1.output⟩, s1, r1, g4⟩

/-! ### The machine -/

abbrev Out := Exit × AAct × List AObj

inductive Task where
  | code (rd : Option Nat) (n : Nat) (c : Code) (a : AAct) (H : List AObj)
  | call (f : FuncId) (args : List AV) (H : List AObj)
  | yld (i : Nat) (args : List AV) (H : List AObj)

def each {α β : Type} : List α → (α → Option (List β)) → Option (List β)
  | [], _ => some []
  | x :: xs, f =>
    match f x with
    | none => none
    | some ys =>
      match each xs f with
      | none => none
      | some zs => some (ys ++ zs)

theorem each_mem {α β : Type} {f : α → Option (List β)} : ∀ {l : List α} {r : List β}, each l f = some r → ∀ x ∈ l, ∃ ys, f x = some ys ∧ ∀ y ∈ ys, y ∈ r
  | [], r, h, x, hx => by simp at hx
  | a :: l, r, h, x, hx => by
    simp only [each] at h
    cases hf : f a with
    | none => simp [hf] at h
    | some ys =>
      cases he : each l f with
      | none => simp [hf, he] at h
      | some zs =>
        simp only [hf, he, Option.some.injEq] at h
        subst h
        rcases List.mem_cons.1 hx with rfl | hx
        · exact ⟨ys, hf, fun y hy => List.mem_append_left _ hy⟩
        · obtain ⟨ys', h1, h2⟩ := each_mem he x hx
          exact ⟨ys', h1, fun y hy => List.mem_append_right _ (h2 y hy)⟩

/-- What a call has come to: its value stands at 0. -/
def callOut (v : AV) (H : List AObj) : Out := (.normal, [(0, v)], H)

/-- What a machine tells is so. -/
structure SOk (P : Program) (S : Task → Option (List Out)) : Prop where
  call : ∀ f args H outs, S (.call f args H) = some outs → ACalls P f args H fun v H' => callOut v H' ∈ outs
  yld : ∀ i args H outs, S (.yld i args H) = some outs → AYields P i args H fun v H' => callOut v H' ∈ outs
  code : ∀ rd n c a H outs (M0 : Mem) Q, S (.code rd n c a H) = some outs → (∀ i, rd = some i → i < M0.k) → (∀ e a' H', (e, a', H') ∈ outs → Q e a' H') → awp P n M0 rd c Q a H

section
variable (P : Program) (X : List (FuncId × XK)) (S : Task → Option (List Out))

def extB : XK → List AV → Bool
  | .idxB, [.d (.str _), .d (.int .u8 _)] => true
  | .cntB, [.d (.str _), .d (.int .u8 _)] => true
  | .noEsc, [_] => true
  | _, _ => false

def xnext (H : List AObj) (it : AV) : Option (List (AV × List AObj)) :=
  match it with
  | .ptr i 0 =>
    match H[i]? with
    | some (.iter none _ _ _) => some [(.tup [.d (.bool false)], H)]
    | some (.iter (some m) since seen last) =>
      match H[m]? with
      | some (.map es clock) =>
        if !seen.isEmpty && !es.isEmpty && es.all (fun e => decide (last ≤ e.1)) then none
        else some ((mapCands es since seen).map fun
          | none => (.tup [.d (.bool false)], H)
          | some (b, k, v) => (.tup [.d (.bool true), k, v], H.set i (.iter (some m) since (seen ++ [b]) clock)))
      | _ => none
    | _ => none
  | _ => none

def xrun (o : Oper) (a : AAct) (H : List AObj) : Option (List (AAct × List AObj)) :=
  match o.op with
  | .call ⟨.value f, args, _⟩ =>
    match ev a f with
    | .fn (.func g) caps =>
      if callable P g = true then
        match S (.call g (args.toList.map (ev a) ++ caps) H) with
        | some outs => some (outs.map fun r => (aput o.dst (aget r.2.1 0) a, r.2.2))
        | none => none
      else
        match X.lookup g with
        | some k => if extB k (args.toList.map (ev a) ++ caps) = true then some [(aput o.dst (aextern H k (args.toList.map (ev a) ++ caps)).v a, (aextern H k (args.toList.map (ev a) ++ caps)).h)] else none
        | none => none
    | .bfn g bs =>
      if callable P g = true then
        match S (.call g (bs ++ args.toList.map (ev a)) H) with
        | some outs => some (outs.map fun r => (aput o.dst (aget r.2.1 0) a, r.2.2))
        | none => none
      else
        match X.lookup g with
        | some k => if extB k (bs ++ args.toList.map (ev a)) = true then some [(aput o.dst (aextern H k (bs ++ args.toList.map (ev a))).v a, (aextern H k (bs ++ args.toList.map (ev a))).h)] else none
        | none => none
    | .yld i =>
      match S (.yld i (args.toList.map (ev a)) H) with
      | some outs => some (outs.map fun r => (aput o.dst (aget r.2.1 0) a, r.2.2))
      | none => none
    | _ => none
  | .next x false =>
    match xnext H (ev a x) with
    | some outs => some (outs.map fun r => (aput o.dst r.1 a, r.2))
    | none => none
  | op => if okB P H a op = true then some [(aput o.dst (aop P a H op).v a, (aop P a H op).h)] else none

def xops (l : List Oper) : List Oper → AAct → List AObj → Option (List (AAct × List AObj))
  | [], a, H => some [(a, H)]
  | o :: rest, a, H =>
    match o.guard with
    | none =>
      match xrun P X S o a H with
      | some r => each r fun p => xops l rest p.1 p.2
      | none => none
    | some (j, want) =>
      match gval l a j with
      | some (some b) =>
        if b = want then
          match xrun P X S o a H with
          | some r => each r fun p => xops l rest p.1 p.2
          | none => none
        else xops l rest (aput o.dst (.tup []) a) H
      | some none => xops l rest (aput o.dst (.tup []) a) H
      | none => none

/-- The first that is known of each temporary. -/
def prune : AAct → AAct
  | [] => []
  | (t, v) :: a => (t, v) :: (prune a).filter fun p => p.1 != t

theorem aget_filter (a : AAct) (t u : Nat) (h : u ≠ t) : aget (a.filter fun p => p.1 != t) u = aget a u := by
  induction a with
  | nil => rfl
  | cons p a ih =>
    obtain ⟨s, v⟩ := p
    by_cases hs : s = t
    · subst hs
      rw [List.filter_cons_of_neg (by simp)]
      simp only [aget, ih]
      rw [if_neg h]
    · rw [List.filter_cons_of_pos (by simpa using hs)]
      simp only [aget, ih]

theorem aget_prune : ∀ (a : AAct) (u : Nat), aget (prune a) u = aget a u
  | [], u => rfl
  | (t, v) :: a, u => by
    simp only [prune, aget]
    by_cases h : u = t
    · rw [if_pos h, if_pos h]
    · rw [if_neg h, if_neg h, aget_filter _ _ _ h, aget_prune a u]

theorem Weaker.prune (a : AAct) : Weaker a (Go.R.prune a) := fun t => .inr (aget_prune a t)

/-! Regions that draw their order -/

def quiet : Op → Bool
  | .move _ | .assign _ | .pick _ _ _ | .build _ _ | .load _ _ | .nilCheck _ | .binOp _ _ _ _ _ | .unOp _ _ _ | .makeFunc _ _ _ | .fieldAddr _ _ _ | .field _ _ _ | .indexAddr _ _ _ | .index _ _ _ | .extract _ _ | .lookup _ _ _ _ | .slice _ _ _ _ _ => true
  | .call ⟨.builtin b, _, _⟩ => match b with | .len | .min | .max => true | _ => false
  | _ => false

/-- The quiet operations that lean on none of the others. -/
def sidesOf (l : List Oper) : List Oper → Nat → List Nat → List Nat
  | [], _, acc => acc
  | o :: rest, i, acc =>
    sidesOf l rest (i + 1) (if quiet o.op && o.dst.isSome && (opReads l i).all (fun t => (List.range l.length).all fun j => dstAt l j != some t || acc.contains j) then acc ++ [i] else acc)

def mkTr (l : List Oper) : Nat → List Nat → Tr
  | 0, _ => .done
  | n + 1, rem =>
    match rem.filter fun m => rem.all fun j => j == m || !anc l m j with
    | [] => .done
    | m :: ms => ms.foldl (fun t m' => .both t (.step m' (mkTr l n (rem.erase m')))) (.step m (mkTr l n (rem.erase m)))

def sideB (l : List Oper) (aS : AAct) (H : List AObj) : List Oper → Bool
  | [] => true
  | o :: rest =>
    (match o.dst, wants l aS o with
    | some d, some true => okB P H aS o.op && AV.beq (aop P aS H o.op).v (aget aS d) && quiet o.op
    | some d, some false => AV.beq (aget aS d) (.tup [])
    | _, _ => false) && sideB l aS H rest

theorem quiet_h {P : Program} {a : AAct} {H : List AObj} {op : Op} (h : quiet op = true) (hok : (aop P a H op).ok) : (aop P a H op).h = H := by
  unfold quiet at h
  split at h
  all_goals try (simp at h; done)
  · rfl
  · rfl
  · simp only [aop, apick]; split <;> rfl
  · simp only [aop, abuild]; split <;> rfl
  · exact aload_h P H _ _
  · simp only [aop, anilCheck]; split <;> rfl
  · simp only [aop, abin]; (repeat' split) <;> rfl
  · simp only [aop, aun]; split <;> rfl
  · simp only [aop, amakeFunc]; (repeat' split) <;> rfl
  · simp only [aop, afieldAddr]; (repeat' split) <;> rfl
  · simp only [aop, afield]
    split
    · exact apart_h P _ _ _ _
    · rfl
  · simp only [aop, aindexAddr]; (repeat' split) <;> rfl
  · simp only [aop, aindex]; (repeat' split) <;> rfl
  · simp only [aop, aextract]; split <;> rfl
  · simp only [aop, alookup]; (repeat' split) <;> rfl
  · simp only [aop, aslice]; (repeat' split) <;> rfl
  · rename_i b args tys
    simp only [aop, abuiltin]
    split
    · simp only [alen]; (repeat' split) <;> rfl
    · simp at h
    · simp at h
    · simp at h
    · simp only [amin]; (repeat' split) <;> rfl
    · simp only [amax]; (repeat' split) <;> rfl
    · rfl

theorem sideB_ok {P : Program} {l : List Oper} {aS : AAct} {H : List AObj} : ∀ {L : List Oper}, sideB P l aS H L = true → sideOkG P l aS H L := by
  intro L
  induction L with
  | nil => exact fun _ => trivial
  | cons o rest ih =>
    intro h
    simp only [sideB, Bool.and_eq_true] at h
    refine ⟨?_, ih h.2⟩
    have h1 := h.1
    unfold sideOne
    split at h1
    · rename_i d hd hw
      simp only [hd, hw]
      simp only [Bool.and_eq_true] at h1
      exact ⟨okB_ok h1.1.1, AV.beq_eq h1.1.2, quiet_h h1.2 (okB_ok h1.1.1)⟩
    · rename_i d hd hw
      simp only [hd, hw]
      exact AV.beq_eq h1
    · simp at h1

def xtr (l : List Oper) (aS : AAct) : Tr → List Nat → AAct → List AObj → Option (List (AAct × List AObj))
  | .done, _, a, H => some [(a, H)]
  | .step m t, ss, a, H =>
    match xops P X S l [opAt l m] a H with
    | some r => each r fun p => if sideB P l aS p.2 ((ss.filter fun s => !anc l m s).map (opAt l)) = true then xtr l aS t (ss.filter fun s => !anc l m s) p.1 p.2 else none
    | none => none
  | .both s t, ss, a, H =>
    match xtr l aS s ss a H, xtr l aS t ss a H with
    | some x, some y => some (x ++ y)
    | _, _ => none

def xdraw (n : Nat) (l : List Oper) (a : AAct) (H : List AObj) : Option (List (AAct × List AObj)) :=
  let sides := sidesOf l l 0 []
  let mains := (List.range l.length).filter fun i => !sides.contains i
  let tr := mkTr l l.length mains
  let aS := sideActG P l H (sides.map (opAt l)) a
  if (drawOkG l sides mains && tr.full l mains && tr.ok l mains && dstsOk n l && sideB P l aS H (sides.map (opAt l))) = true then xtr P X S l aS tr sides aS H else none

def inLoopB (rd : Option Nat) (H : List AObj) : Bool :=
  match rd with
  | none => true
  | some i => match H[i]? with | some (.loop _) => true | _ => false

def xloop (rd : Option Nat) (n : Nat) (c : Code) : Nat → AAct → List AObj → Option (List Out)
  | 0, _, _ => none
  | m + 1, a, H =>
    match S (.code rd n c a H) with
    | some outs => each outs fun r => match r.1 with | .normal => xloop rd n c m (prune r.2.1) r.2.2 | e => some [(e, r.2)]
    | none => none

def xend (rd : Option Nat) (n : Nat) (l : Nat) (a : AAct) (H : List AObj) : Option (List Out) :=
  match H[l]? with
  | some (.loop r) =>
    if r.st = .busy then none
    else match r.pend with
      | none => some [(.normal, a, H.set l (.loop { r with st := .exhausted }))]
      | some c => S (.code rd n c a (H.set l (.loop { r with st := .exhausted })))
  | _ => none

def xcode (rd : Option Nat) (n : Nat) (c : Code) (a : AAct) (H : List AObj) : Option (List Out) :=
  match c with
  | .skip => some [(.normal, a, H)]
  | .label _ => some [(.normal, a, H)]
  | .exit id => some [(.exit id, a, H)]
  | .goto id => some [(.goto id, a, H)]
  | .ret => some [(.ret, a, H)]
  | .seq x y =>
    match S (.code rd n x a H) with
    | some outs => each outs fun r => match r.1 with | .normal => S (.code rd n y r.2.1 r.2.2) | e => some [(e, r.2)]
    | none => none
  | .cond o x y =>
    match ev a o with
    | .d (.bool true) => S (.code rd n x a H)
    | .d (.bool false) => S (.code rd n y a H)
    | _ => none
  | .block id c =>
    match S (.code rd n c a H) with
    | some outs => some (outs.map fun r => match r.1 with | .exit i => if i = id then (.normal, r.2) else (.exit i, r.2) | e => (e, r.2))
    | none => none
  | .loop c => xloop S rd n c 100000 a H
  | .region _ ops false =>
    if dstsOk n ops.toList = true then
      match xops P X S ops.toList ops.toList a H with
      | some outs => some (outs.map fun p => (.normal, p.1, p.2))
      | none => none
    else none
  | .region _ ops true =>
    match xdraw P X S n ops.toList a H with
    | some outs => some (outs.map fun p => (.normal, p.1, p.2))
    | none => none
  | .rangeFunc f ps asg body =>
    match ev a f with
    | .fn (.func g) caps =>
      if (callable P g && inLoopB rd H) = true then
        match S (.call g (.yld H.length :: caps) (H ++ [.loop { st := .ready, pend := none, n := n, a := a, params := ps, assign := asg, body := body }])) with
        | some outs => each outs fun r => xend S rd n H.length a r.2.2
        | none => none
      else none
    | _ => none
  | _ => none

def memO (x : Out) : List Out → Bool
  | [] => false
  | y :: ys => (AV.beq (aget x.2.1 0) (aget y.2.1 0) && beqH x.2.2 y.2.2) || memO x ys

/-- Of those that are the same, one. -/
def dedupe : List Out → List Out
  | [] => []
  | x :: xs => let ys := dedupe xs; if memO x ys = true then ys else x :: ys

def xfin (fn : Func) (base : Nat) (r : Out) : Option (List Out) :=
  match r.1 with
  | .ret | .normal =>
    if fn.results.toList.all (fun q => match q with | .tmp _ => true | .cell t ty => @decide _ (decLoad P r.2.2 ty (aget r.2.1 t))) = true then
      let v := (aresults P r.2.1 r.2.2 fn.results.toList).2
      let L := gc base v r.2.2
      if (decide (base ≤ L.length) && ltH L.length L && v.lt L.length) = true then some [callOut v L] else some [callOut v r.2.2]
    else none
  | _ => none

def xcall (f : FuncId) (args : List AV) (H : List AObj) : Option (List Out) :=
  match P.funcs[f]? with
  | some fn =>
    match fn.body with
    | some c =>
      if args.length ≤ fn.ntmps then
        match S (.code none fn.ntmps c (initAct 0 args) H) with
        | some outs =>
          match each outs (xfin P fn H.length) with
          | some r => some (dedupe r)
          | none => none
        | none => none
      else none
    | none => none
  | none => none

def xyend (i : Nat) (r : Out) : Option (List Out) :=
  match r.2.2[i]? with
  | some (.loop q) =>
    match r.1 with
    | .normal => some [callOut (.d (.bool true)) (r.2.2.set i (.loop { q with st := .ready, pend := none }))]
    | .ret => some [callOut (.d (.bool false)) (r.2.2.set i (.loop { q with st := .done, pend := some .ret }))]
    | .exit id => some [callOut (.d (.bool false)) (r.2.2.set i (.loop { q with st := .done, pend := some (.exit id) }))]
    | .goto t => some [callOut (.d (.bool false)) (r.2.2.set i (.loop { q with st := .done, pend := some (.goto t) }))]
    | _ => none
  | _ => none

def xyld (i : Nat) (args : List AV) (H : List AObj) : Option (List Out) :=
  match H[i]? with
  | some (.loop r) =>
    if (r.params.size == args.length && r.params.toList.all (fun p => decide (p < r.n)) && decide r.params.toList.Nodup) = true then
      match S (.code (some i) r.n r.assign (aputs r.params.toList args r.a) H) with
      | some outs => each outs fun q =>
        match q.1, q.2.2[i]? with
        | .normal, some (.loop r1) =>
          if r1.st = .ready then
            match S (.code (some i) r.n r.body q.2.1 (q.2.2.set i (.loop { r1 with st := .busy }))) with
            | some outs2 => each outs2 (xyend i)
            | none => none
          else none
        | _, _ => none
      | none => none
    else none
  | _ => none

def xstep : Task → Option (List Out)
  | .code rd n c a H => xcode P X S rd n c a H
  | .call f args H => xcall P S f args H
  | .yld i args H => xyld S i args H
end

/-- The machine, so many levels deep. -/
def xrunN (P : Program) (X : List (FuncId × XK)) : Nat → Task → Option (List Out)
  | 0, _ => none
  | n + 1, t => xstep P X (xrunN P X n) t

end Go.R
