/- V11: formulas read by the specification: its steps. -/
import Derived.Test.YtmgeeanbecmkbaaGreatDoorV10
namespace Go.Proofs.YtmgeeanbecmkbaaGreatDoor.Den
open Go
set_option linter.unusedSimpArgs false

/-! Plain: more about the reader. -/
theorem rowS_grow {rec : Rec} (hR : ∀ job st i st1, st.1.length ≤ 400 → rec job st = some (i, st1) → Grow1 st st1) : ∀ {m : Nat} {level left : Int} {st st1 : PSt} {i : Int}, st.1.length ≤ 400 → rowS rec m level left st = some (i, st1) → Grow st st1
  | 0, _, _, _, _, _, _, h => by cases h
  | m + 1, level, left, st, st1, i, hs, h => by
    unfold rowS at h
    have b1 := bl_len st.1
    split at h
    · injection h with h
      injection h with _ h
      subst h
      exact (Grow.refl st).bl 0
    · rename_i hn
      split at h
      · cases h
      · rename_i j st2 he
        have hd := op_drop (s := bl st.1) (fun e => hn (.inl e))
        obtain ⟨g, g1⟩ := opS_grow hR (s := bl st.1) (by omega) hd he
        refine Grow.trans ?_ (rowS_grow hR (m := m) (by dsimp only at g1; omega) h)
        exact (show Grow st (bl st.1, st.2) from (Grow.refl st).bl 0).trans g
/-- The reader does not look at blanks. -/
theorem unS_bl {rec : Rec} {k : Nat} {r q : Bytes} {ns : List FNode} (h : bl r = bl q) : unS rec k (r, ns) = unS rec k (q, ns) := by
  unfold unS; dsimp only; rw [h]
theorem ideal_bl {k : Nat} {job : Job} {r q : Bytes} {ns : List FNode} (h : bl r = bl q) : ideal k job (r, ns) = ideal k job (q, ns) := by
  cases k with
  | zero => rfl
  | succ k => cases job <;> (unfold ideal; dsimp only; rw [unS_bl h])
theorem argS_bl {k : Nat} {r q : Bytes} {ns : List FNode} (h : bl r = bl q) : argS (ideal k) (r, ns) = argS (ideal k) (q, ns) := by
  unfold argS areaS; dsimp only; rw [h, ideal_bl h]
theorem argsS_bl {k m : Nat} {op : Int} {ks : List Int} {r q : Bytes} {ns : List FNode} (h : bl r = bl q) : argsS (ideal k) m op ks (r, ns) = argsS (ideal k) m op ks (q, ns) := by
  cases m with
  | zero => rfl
  | succ m => unfold argsS; rw [argS_bl h]
theorem rowS_bl {rec : Rec} {m : Nat} {l left : Int} {r q : Bytes} {ns : List FNode} (h : bl r = bl q) : rowS rec m l left (r, ns) = rowS rec m l left (q, ns) := by
  cases m with
  | zero => rfl
  | succ m => unfold rowS; dsimp only; rw [h]
theorem loopS_five {rec : Rec} {m : Nat} {left : Int} {st : PSt} : loopS rec (m + 1) 5 left st = some (left, bl st.1, st.2) := by
  unfold loopS
  have := binds_le (opOf (signOf (bl st.1)))
  rw [if_pos (.inr (by omega))]
theorem ideal_five {k : Nat} {st : PSt} : ideal k (.bin 5) st = (ideal k .un st).map fun p => (p.1, bl p.2.1, p.2.2) := by
  cases k with
  | zero => rfl
  | succ k =>
    unfold ideal
    dsimp only
    cases unS (ideal k) (k + 1) st with
    | none => rfl
    | some p => exact loopS_five

def AllOk (ns : List FNode) : Prop := ∀ x ∈ ns, nodeOk x = true
def Doomed (o : Option (Int × PSt)) : Prop := ∀ i st1, o = some (i, st1) → ¬ AllOk st1.2
theorem Doomed.none : Doomed none := fun _ _ h => by cases h
theorem AllOk.app {a b : List FNode} (h : AllOk (a ++ b)) : AllOk a := fun x hx => h x (List.mem_append_left _ hx)
theorem AllOk.add {a : List FNode} {x : FNode} (h : AllOk a) (hx : nodeOk x = true) : AllOk (a ++ [x]) := fun y hy => by
  rcases List.mem_append.1 hy with hy | hy
  · exact h y hy
  · rw [List.mem_singleton.1 hy]; exact hx
theorem doomed_more {o : Option (Int × PSt)} {st : PSt} (h : ¬ AllOk st.2) (hg : ∀ i st1, o = some (i, st1) → ∃ t, st1.2 = st.2 ++ t) : Doomed o := fun i st1 e hall => by
  obtain ⟨t, ht⟩ := hg i st1 e
  rw [ht] at hall
  exact h hall.app
theorem Grow.more' {a b : PSt} (g : Grow a b) : ∃ t, b.2 = a.2 ++ t := by obtain ⟨t, h, _⟩ := g.more; exact ⟨t, h⟩
theorem putN_more {x : FNode} {st st1 : PSt} {i : Int} (h : putN x st = some (i, st1)) : ∃ t, st1.2 = st.2 ++ t := by
  unfold putN at h
  split at h
  · injection h with h; injection h with _ h; subst h; exact ⟨[x], rfl⟩
  · cases h

/-- What a step of the specification's reader answers: it has not gone back, and its nodes are no more than the bytes behind it. -/
def SAns (s : Bytes) (p d : Nat) (X : Option (Int × l3Rd × Unit)) (o : Option (Int × PSt)) : Prop :=
  (∃ i a ns r, X = some (i, (s, ((a : Nat) : Int), false, ns, ()), ()) ∧ (a ≤ s.length ∧ p ≤ a) ∧ ns.length + d ≤ a ∧ o = some (i, r, ns) ∧ bl r = bl (s.drop a) ∧ AllOk ns) ∨
  (∃ i a out, X = some (i, (s, ((a : Nat) : Int), true, out, ()), ()) ∧ (a ≤ s.length ∧ p ≤ a) ∧ out.length + d ≤ a ∧ Doomed o)
theorem SAns.ret {s : Bytes} {p d : Nat} {X : Option (Int × l3Rd × Unit)} {o : Option (Int × PSt)} (h : SAns s p d X o) : SAns s p d (X.bind fun q => some (q.1, q.2.1, ())) o := by
  rcases h with ⟨i, a, ns, r, e, h⟩ | ⟨i, a, out, e, h⟩
  · exact .inl ⟨i, a, ns, r, by rw [e]; rfl, h⟩
  · exact .inr ⟨i, a, out, by rw [e]; rfl, h⟩
theorem SAns.of {s : Bytes} {p d : Nat} {B X : Option (Int × l3Rd × Unit)} {o : Option (Int × PSt)} (rr : Runs B X) (h : SAns s p d B o) : SAns s p d X o := by
  rcases h with ⟨i, a, ns, r, e, h⟩ | ⟨i, a, out, e, h⟩
  · exact .inl ⟨i, a, ns, r, rr _ e, h⟩
  · exact .inr ⟨i, a, out, rr _ e, h⟩
theorem SAns.less {s : Bytes} {p q d e : Nat} {X : Option (Int × l3Rd × Unit)} {o : Option (Int × PSt)} (h : SAns s p d X o) (hd : e ≤ d) (hp : q ≤ p) : SAns s q e X o := by
  rcases h with ⟨i, a, ns, r, e, h1, h2, h3⟩ | ⟨i, a, out, e, h1, h2, h3⟩
  · exact .inl ⟨i, a, ns, r, e, ⟨h1.1, by omega⟩, by omega, h3⟩
  · exact .inr ⟨i, a, out, e, ⟨h1.1, by omega⟩, by omega, h3⟩
theorem SAns.bad {s : Bytes} {p d : Nat} {X : Option (Int × l3Rd × Unit)} {o : Option (Int × PSt)} (i : Int) (a : Nat) (out : List FNode) (e : X = some (i, (s, (a : Int), true, out, ()), ())) (h1 : a ≤ s.length) (hp : p ≤ a) (h2 : out.length + d ≤ a) (h3 : Doomed o) : SAns s p d X o := .inr ⟨i, a, out, e, ⟨h1, hp⟩, h2, h3⟩

/-! Blanks. -/
def ba (s : Bytes) (a : Nat) : Nat := a + ((s.drop a).takeWhile (· == 32)).length
theorem ba_drop {s : Bytes} {a : Nat} (h : a ≤ s.length) : s.drop (ba s a) = bl (s.drop a) ∧ a ≤ ba s a ∧ ba s a ≤ s.length := by
  obtain ⟨t1, t2, t3⟩ := takeWhile_take (p := (· == 32)) (s.drop a)
  rw [List.length_drop] at t3
  refine ⟨?_, Nat.le_add_right .., by unfold ba; omega⟩
  unfold ba bl
  rw [← List.drop_drop, t2]
theorem ba_ba {s : Bytes} {a : Nat} (h : a ≤ s.length) : ba s (ba s a) = ba s a := by
  obtain ⟨h1, h2, h3⟩ := ba_drop h
  have : (bl (s.drop a)).takeWhile (· == 32) = [] := by
    cases hb : bl (s.drop a) with
    | nil => rfl
    | cons c r =>
      have := head_bl (s.drop a)
      rw [hb] at this
      rw [List.takeWhile_cons, if_neg]
      intro e
      rw [beq_iff_eq] at e
      exact this (by rw [e]; rfl)
  show ba s a + ((s.drop (ba s a)).takeWhile (· == 32)).length = ba s a
  rw [h1, this]; rfl

theorem spec_blanks_loop (k : Nat) (s : Bytes) (hs : s.length ≤ 200) (b : Bool) (out : List FNode) : ∀ (m a : Nat) (r : Bytes), s.drop a = r → a ≤ s.length → r.length < m → spec_l3Rd_blanks.L0 k m s (a : Int) b out = some ((s, ((a + (r.takeWhile (· == 32)).length : Nat) : Int), b, out, ()), ())
  | 0, a, r, _, _, h => by omega
  | m + 1, a, [], h, _, _ => by
    have := drop_nil h
    rw [spec_l3Rd_blanks.L0_eq, bf (by omega)]; rfl
  | m + 1, a, c :: r, h, ha, hm => by
    obtain ⟨h1, h2, h3⟩ := get_drop h
    simp only [List.length_cons] at hm
    rw [spec_l3Rd_blanks.L0_eq, bt (by omega), idx_get h1, List.takeWhile_cons]
    by_cases hc : c = 32
    · subst hc
      rw [show (((32 : UInt8).toNat : Int) == 32) = true from rfl, cond_true, w64n (by omega), spec_blanks_loop k s hs b out m (a + 1) r h2 (by omega) (by omega), if_pos (by rfl), List.length_cons]
      rw [show a + 1 + (r.takeWhile (· == 32)).length = a + ((r.takeWhile (· == 32)).length + 1) by omega]
    · rw [show ((c.toNat : Int) == 32) = false by
        rw [beq_eq_false_iff_ne]; intro e; exact hc (by rw [← UInt8.toNat_inj]; exact Int.ofNat.inj e), cond_false, if_neg (by simpa using hc)]
      rfl
theorem spec_blanks_v {s : Bytes} (hs : s.length ≤ 200) {a : Nat} (ha : a ≤ s.length) (b : Bool) (out : List FNode) : spec_l3Rd_blanks (s, (a : Int), b, out, ()) = some ((s, (ba s a : Int), b, out, ()), ()) :=
  spec_l3Rd_blanks.of (s.length + 1) _ _ (spec_blanks_loop _ s hs b out (s.length + 1) a (s.drop a) rfl ha (by rw [List.length_drop]; omega))

theorem prefix_take {s w : Bytes} : Lib.hasPrefix s w = (decide (w.length ≤ s.length) && (s.take w.length == w)) := by rw [Lib.hasPrefix_of_take]
theorem spec_is_v {s : Bytes} (hs : s.length ≤ 200) {a : Nat} (ha : a ≤ s.length) (w : Bytes) (hw : w.length ≤ 100) (out : List FNode) :
    spec_l3Rd_is (s, (a : Int), false, out, ()) w = some (if Lib.hasPrefix (bl (s.drop a)) w = true then (true, (s, ((ba s a + w.length : Nat) : Int), false, out, ()), ()) else (false, (s, (ba s a : Int), false, out, ()), ())) := by
  refine spec_l3Rd_is.of 0 _ _ _ ?_
  unfold spec_l3Rd_is.B
  obtain ⟨h1, h2, h3⟩ := ba_drop ha
  rw [spec_blanks_v hs ha, bs]
  dsimp only
  rw [cond_false, w64 (by omega) (by omega), prefix_take]
  have hl : (bl (s.drop a)).length = s.length - ba s a := by rw [← h1, List.length_drop]
  by_cases hlen : ba s a + w.length ≤ s.length
  · rw [bf (by omega), show (ba s a : Int) + (w.length : Int) = ((ba s a + w.length : Nat) : Int) by omega, cut_at (by omega) hlen, decide_eq_true (by omega), Bool.true_and, List.drop_take, h1, Nat.add_sub_cancel_left]
    cases (bl (s.drop a)).take w.length == w <;> rfl
  · rw [bt (by omega), decide_eq_false (by omega), Bool.false_and, if_neg (by simp)]
theorem spec_is_bad {s : Bytes} (hs : s.length ≤ 200) {a : Nat} (ha : a ≤ s.length) (w : Bytes) (out : List FNode) : spec_l3Rd_is (s, (a : Int), true, out, ()) w = some (false, (s, (ba s a : Int), true, out, ()), ()) := by
  refine spec_l3Rd_is.of 0 _ _ _ ?_
  unfold spec_l3Rd_is.B
  rw [spec_blanks_v hs ha, bs]; rfl

theorem spec_add_bad {s : Bytes} {a : Nat} {out : List FNode} (hl : out.length ≤ 1000) {x : FNode} (hx : small x) : ∃ i, spec_l3Rd_add (s, (a : Int), true, out, ()) x = some (i, (s, (a : Int), true, out ++ [x], ()), ()) := by
  refine ⟨IntKind.wrap .i64 (((out ++ [x]).length : Int) - 1), spec_l3Rd_add.of 0 _ _ _ ?_⟩
  unfold spec_l3Rd_add.B spec_l3Rd_add.J0
  dsimp only
  rw [bt (by unfold cap; simp only [List.length_cons, List.length_nil]; omega), spec_l3NodeOk_v ⟨by unfold scap; have := hx.1; omega, by unfold scap; have := hx.2; omega⟩, bs]
  cases decide (((out ++ [x]).length : Int) > 60) <;> cases nodeOk x <;> rfl
theorem spec_add_v {s : Bytes} {a p d : Nat} {ns : List FNode} (ha : a ≤ s.length) (hp : p ≤ a) (hs : s.length ≤ 200) (hn : AllOk ns) (hd : ns.length + d + 1 ≤ a) {x : FNode} (hx : small x) {r : Bytes} (hr : bl r = bl (s.drop a)) :
    SAns s p d (spec_l3Rd_add (s, (a : Int), false, ns, ()) x) (putN x (r, ns)) := by
  refine SAns.of (spec_l3Rd_add.of 0 _ _) ?_
  unfold spec_l3Rd_add.B spec_l3Rd_add.J0 putN
  dsimp only
  rw [bt (by unfold cap; simp only [List.length_cons, List.length_nil]; omega), spec_l3NodeOk_v ⟨by unfold scap; have := hx.1; omega, by unfold scap; have := hx.2; omega⟩, bs]
  have hlen : (ns ++ [x]).length = ns.length + 1 := by simp
  by_cases h60 : ns.length < 60
  · rw [bf (by omega), if_pos h60]
    cases hok : nodeOk x with
    | true =>
      refine .inl ⟨(ns.length : Int), a, ns ++ [x], r, ?_, ⟨ha, hp⟩, by omega, rfl, hr, hn.add hok⟩
      rw [hlen, w64 (by omega) (by omega), show (((ns.length + 1 : Nat) : Int) - 1) = (ns.length : Int) by omega]; rfl
    | false =>
      refine .inr ⟨_, a, ns ++ [x], rfl, ⟨ha, hp⟩, by omega, fun i st1 e hall => ?_⟩
      injection e with e
      injection e with _ e
      subst e
      have := hall x (List.mem_append_right _ (List.mem_singleton.2 rfl))
      rw [hok] at this; cases this
  · rw [bt (by omega), if_neg h60]
    exact .inr ⟨_, a, ns ++ [x], rfl, ⟨ha, hp⟩, by omega, Doomed.none⟩

/-! Words. -/
theorem wordCh_iff {c : UInt8} : wordCh c = true ↔ (65 ≤ c.toNat ∧ c.toNat ≤ 90) ∨ (48 ≤ c.toNat ∧ c.toNat ≤ 57) ∨ c.toNat = 36 := by
  unfold wordCh upper dig
  simp only [Bool.or_eq_true, Bool.and_eq_true, decide_eq_true_eq, beq_iff_eq]
  rw [show (c = 36) ↔ c.toNat = 36 from (u8_eq (n := 36) (by decide)).symm]
  exact or_assoc
theorem spec_word_loop (k : Nat) (s : Bytes) (hs : s.length ≤ 200) (b : Bool) (out : List FNode) (f : Nat) : ∀ (m a : Nat) (r : Bytes), s.drop a = r → f ≤ a → a ≤ s.length → r.length < m →
    spec_l3Rd_word.L0 k m (f : Int) s (a : Int) b out = some ((s.take (a + (wordOf r).length)).drop f, (s, ((a + (wordOf r).length : Nat) : Int), b, out, ()), ())
  | 0, a, r, _, _, _, h => by omega
  | m + 1, a, [], h, hf, ha, _ => by
    have := drop_nil h
    rw [spec_l3Rd_word.L0_eq, bf (by omega)]
    unfold spec_l3Rd_word.J0
    rw [cut_at hf ha]; rfl
  | m + 1, a, c :: r, h, hf, ha, hm => by
    obtain ⟨h1, h2, h3⟩ := get_drop h
    simp only [List.length_cons] at hm
    have next : wordCh c = true → spec_l3Rd_word.L0 k m (f : Int) s (IntKind.wrap .i64 ((a : Int) + 1)) b out = some ((s.take (a + (wordOf (c :: r)).length)).drop f, (s, ((a + (wordOf (c :: r)).length : Nat) : Int), b, out, ()), ()) := by
      intro hc
      rw [w64n (by omega), spec_word_loop k s hs b out f m (a + 1) r h2 (by omega) (by omega) (by omega)]
      have : (wordOf (c :: r)).length = (wordOf r).length + 1 := by unfold wordOf; rw [List.takeWhile_cons, if_pos hc, List.length_cons]
      rw [this, show a + 1 + (wordOf r).length = a + ((wordOf r).length + 1) by omega]
    have stop : wordCh c = false → spec_l3Rd_word.J0 k m (f : Int) s (a : Int) b out = some ((s.take (a + (wordOf (c :: r)).length)).drop f, (s, ((a + (wordOf (c :: r)).length : Nat) : Int), b, out, ()), ()) := by
      intro hc
      have : wordOf (c :: r) = [] := by unfold wordOf; rw [List.takeWhile_cons, if_neg (by rw [hc]; simp)]
      rw [this]
      unfold spec_l3Rd_word.J0
      rw [cut_at hf ha]; rfl
    have ic := wordCh_iff (c := c)
    rw [spec_l3Rd_word.L0_eq, bt (by omega)]
    simp only [idx_get h1]
    by_cases hc : wordCh c = true
    · have hcc := ic.1 hc
      rw [next hc]
      by_cases a1 : 65 ≤ c.toNat
      · rw [bt (by omega)]
        rw [bt (by omega)]
      · rw [bf (by omega)]
        by_cases a2 : 48 ≤ c.toNat
        · rw [bt (by omega), bt (by omega)]
        · rw [bf (by omega), show ((c.toNat : Int) == 36) = true by rw [beq_iff_eq]; omega, cond_true]
    · have hcc : ¬ ((65 ≤ c.toNat ∧ c.toNat ≤ 90) ∨ (48 ≤ c.toNat ∧ c.toNat ≤ 57) ∨ c.toNat = 36) := fun e => hc (ic.2 e)
      rw [Bool.not_eq_true] at hc
      rw [stop hc, show ((c.toNat : Int) == 36) = false by rw [beq_eq_false_iff_ne]; omega, cond_false]
      by_cases a1 : 65 ≤ c.toNat
      · rw [bt (by omega), bf (by omega), bt (by omega), bf (by omega)]
      · rw [bf (by omega)]
        by_cases a2 : 48 ≤ c.toNat
        · rw [bt (by omega), bf (by omega)]
        · rw [bf (by omega)]
theorem spec_word_v {s : Bytes} (hs : s.length ≤ 200) {a : Nat} (ha : a ≤ s.length) (b : Bool) (out : List FNode) : spec_l3Rd_word (s, (a : Int), b, out, ()) = some (wordOf (s.drop a), (s, ((a + (wordOf (s.drop a)).length : Nat) : Int), b, out, ()), ()) := by
  refine spec_l3Rd_word.of (s.length + 1) _ _ ?_
  unfold spec_l3Rd_word.B
  dsimp only
  rw [spec_word_loop _ s hs b out a (s.length + 1) a (s.drop a) rfl (Nat.le_refl _) ha (by rw [List.length_drop]; omega), List.drop_take, Nat.add_sub_cancel_left]
  obtain ⟨t1, t2, t3⟩ := takeWhile_take (p := wordCh) (s.drop a)
  unfold wordOf
  rw [t1]
theorem word_at {s : Bytes} {a : Nat} (ha : a ≤ s.length) : s.drop (a + (wordOf (s.drop a)).length) = afterWord (s.drop a) ∧ a + (wordOf (s.drop a)).length ≤ s.length := by
  obtain ⟨t1, t2, t3⟩ := takeWhile_take (p := wordCh) (s.drop a)
  rw [List.length_drop] at t3
  unfold wordOf afterWord
  exact ⟨by rw [← List.drop_drop, t2], by omega⟩

end Go.Proofs.YtmgeeanbecmkbaaGreatDoor.Den
