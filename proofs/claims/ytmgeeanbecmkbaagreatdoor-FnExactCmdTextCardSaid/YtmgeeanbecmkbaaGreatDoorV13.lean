/- V13: formulas read by the specification: atoms, rows, the whole. -/
import Derived.Test.YtmgeeanbecmkbaaGreatDoorV12
namespace Go.Proofs.YtmgeeanbecmkbaaGreatDoor.Den
open Go
set_option linter.unusedSimpArgs false

def RowOk (s : Bytes) (k : Nat) : Prop := ∀ (a : Nat) (ns : List FNode) (l : Int) (d : Nat), a ≤ s.length → s.length < k + a → AllOk ns → ns.length + d ≤ a → 1 ≤ l → l ≤ 5 → SAns s a d (spec_l3Rd_row (s, (a : Int), false, ns, ()) l) (ideal k (.bin l) (s.drop a, ns))

theorem SAns.un {s : Bytes} {p d k : Nat} {X : Option (Int × l3Rd × Unit)} {st : PSt} (h : SAns s p d X (ideal k (.bin 5) st)) : SAns s p d X (ideal k .un st) := by
  rw [ideal_five] at h
  rcases h with ⟨i, a, ns, r, e, h1, h2, h3, h4, h5⟩ | ⟨i, a, out, e, h1, h2, h3⟩
  · cases ho : ideal k .un st with
    | none => rw [ho] at h3; cases h3
    | some p =>
      obtain ⟨i', r', ns'⟩ := p
      rw [ho] at h3
      injection h3 with h3
      injection h3 with h6 h7
      injection h7 with h7 h8
      dsimp only at h6 h7 h8
      subst h6 h7 h8
      exact .inl ⟨i', a, ns', r', e, h1, h2, rfl, by rw [bl_bl] at h4; exact h4, h5⟩
  · refine .inr ⟨i, a, out, e, h1, h2, fun j st1 ho => ?_⟩
    rw [ho] at h3
    exact h3 j (bl st1.1, st1.2) rfl
theorem SAns.five {s : Bytes} {p d k : Nat} {X : Option (Int × l3Rd × Unit)} {st : PSt} (h : SAns s p d X (ideal k .un st)) : SAns s p d X (ideal k (.bin 5) st) := by
  rw [ideal_five]
  rcases h with ⟨i, a, ns, r, e, h1, h2, h3, h4, h5⟩ | ⟨i, a, out, e, h1, h2, h3⟩
  · rw [h3]
    exact .inl ⟨i, a, ns, bl r, e, h1, h2, rfl, by rw [bl_bl]; exact h4, h5⟩
  · refine .inr ⟨i, a, out, e, h1, h2, fun j st1 ho => ?_⟩
    rw [Option.map_eq_some_iff] at ho
    obtain ⟨⟨i', r', ns'⟩, g1, g2⟩ := ho
    injection g2 with g2 g3
    subst g3
    exact h3 i' (r', ns') g1

theorem sign_head {c : UInt8} (hc : c ∈ ([40, 41, 44, 58, 45] : Bytes)) (s : Bytes) : (Lib.hasPrefix s [c] = true) ↔ signOf s = [c] := by
  rw [hasHead, decide_eq_true_eq, sign_one hc]
theorem head_drop {s : Bytes} {c : UInt8} {q : Nat} (h : (s.drop q).head? = some c) : q + 1 ≤ s.length := by
  rcases Nat.lt_or_ge q s.length with h' | h'
  · exact h'
  · rw [List.drop_eq_nil_of_le h'] at h; cases h

theorem spec_arg_v {s : Bytes} (hs : s.length ≤ 200) {k : Nat} (hR : RowOk s k) {a d : Nat} {ns : List FNode} (ha : a ≤ s.length) (hk : s.length < k + a) (hn : AllOk ns) (hd : ns.length + d ≤ a) :
    SAns s a d (spec_l3Rd_arg (s, (a : Int), false, ns, ())) (argS (ideal k) (s.drop a, ns)) := by
  refine SAns.of (spec_l3Rd_arg.of 0 _) ?_
  unfold spec_l3Rd_arg.B argS areaS
  obtain ⟨b1, b2, b3⟩ := ba_drop ha
  obtain ⟨w1, w2⟩ := word_at b3
  have hrow := ((hR (ba s a) ns 1 d b3 (by omega) hn (by omega) (by omega) (by omega)).less (Nat.le_refl d) b2).ret
  rw [b1, show ideal k (.bin 1) (bl (s.drop a), ns) = ideal k (.bin 1) (s.drop a, ns) from ideal_bl (bl_bl _)] at hrow
  dsimp only
  rw [spec_blanks_v hs ha, bs]
  dsimp only
  rw [spec_word_v hs b3, bs, b1]
  have hwl : (wordOf (bl (s.drop a))).length ≤ scap := by
    have := word_len (bl (s.drop a)); have := bl_len (s.drop a); rw [List.length_drop] at this; unfold scap; omega
  rw [b1] at w1 w2
  rw [spec_ReadPlace_v hwl, bs]
  cases hp : readPlace (wordOf (bl (s.drop a))) with
  | none => exact hrow
  | some p =>
    dsimp only [gotPlace]
    have wp : 1 ≤ (wordOf (bl (s.drop a))).length := word_pos fun e => by rw [e, readPlace_nil] at hp; cases hp
    rw [cond_true, spec_is_v hs w2 _ (by simp), bs, w1]
    have iff58 := sign_head (c := 58) (by decide) (bl (afterWord (bl (s.drop a))))
    by_cases h58 : signOf (bl (afterWord (bl (s.drop a)))) = [58]
    · rw [if_pos (iff58.2 h58), if_pos h58]
      dsimp only
      rw [cond_true]
      generalize ha1 : ba s a + (wordOf (bl (s.drop a))).length = a1 at *
      obtain ⟨c1, c2, c3⟩ := ba_drop w2
      rw [w1] at c1
      have hc : (s.drop (ba s a1)).head? = some 58 := by rw [c1]; exact (sign_one (by decide) _).1 h58
      have hl := head_drop hc
      simp only [List.length_cons, List.length_nil, Nat.zero_add]
      obtain ⟨e1, e2, e3⟩ := ba_drop hl
      obtain ⟨v1, v2⟩ := word_at e3
      have D : s.drop (ba s a1 + 1) = (bl (afterWord (bl (s.drop a)))).drop 1 := by rw [← List.drop_drop, c1]
      rw [spec_blanks_v hs hl, bs]
      dsimp only
      rw [spec_word_v hs e3, bs, e1, D]
      rw [e1, D] at v1 v2
      have hwl2 : (wordOf (bl ((bl (afterWord (bl (s.drop a)))).drop 1))).length ≤ scap := by unfold scap; omega
      rw [spec_ReadPlace_v hwl2, bs]
      cases hq : readPlace (wordOf (bl ((bl (afterWord (bl (s.drop a)))).drop 1))) with
      | none => exact SAns.bad 0 _ ns rfl v2 (by omega) (by omega) Doomed.none
      | some p2 =>
        refine (spec_add_v (a := ba s (ba s a1 + 1) + (wordOf (bl ((bl (afterWord (bl (s.drop a)))).drop 1))).length) v2 (by omega) hs hn (by omega) ⟨Nat.zero_le _, Nat.zero_le _⟩ ?_).ret
        rw [v1]
    · rw [if_neg (fun e => h58 (iff58.1 e)), if_neg h58]
      exact hrow

theorem argS_more {k : Nat} {st st1 : PSt} {i : Int} (hs : st.1.length ≤ 400) (h : argS (ideal k) st = some (i, st1)) : ∃ t, st1.2 = st.2 ++ t := (argS_grow (ideal_grow k) hs h).1.more'

theorem spec_call_loop {s : Bytes} (hs : s.length ≤ 200) {k : Nat} (hR : RowOk s k) (n : Nat) (op : Int) (p : Nat) : ∀ (m1 m2 a d : Nat) (ks : List Int) (ns : List FNode), s.length < m1 + a → s.length + 1 < m2 + a → a ≤ s.length → p ≤ a → s.length < k + a → AllOk ns → ns.length + d + 1 ≤ a → ks.length + s.length ≤ 900 + a →
    SAns s p d (spec_l3Rd_call.L0 n m2 op ks s (a : Int) false ns) (argsS (ideal k) m1 op ks (s.drop a, ns))
  | 0, _, _, _, _, _, h, _, _, _, _, _, _, _ => by omega
  | m1 + 1, 0, _, _, _, _, _, h, _, _, _, _, _, _ => by omega
  | m1 + 1, m2 + 1, a, d, ks, ns, hm1, hm2, ha, hp, hk, hn, hd, hks => by
    rw [spec_l3Rd_call.L0_eq, Bool.not_false, cond_true]
    unfold argsS
    rcases spec_arg_v hs hR ha hk hn (d := d + 1) (by omega) with ⟨i, a1, ns1, r, e, h1, h2, h3, h4, h5⟩ | ⟨i, a1, out, e, h1, h2, h3⟩
    · rw [e, bs, bt (by unfold cap; simp only [List.length_cons, List.length_nil]; omega), h3]
      dsimp only
      rw [spec_is_v hs h1.1 _ (by simp), bs, h4]
      obtain ⟨b1, b2, b3⟩ := ba_drop h1.1
      have i41 := sign_head (c := 41) (by decide) (bl (s.drop a1))
      have i44 := sign_head (c := 44) (by decide) (bl (s.drop a1))
      by_cases h41 : signOf (bl (s.drop a1)) = [41]
      · have hl := head_drop (s := s) (q := ba s a1) (c := 41) (by rw [b1]; exact (sign_one (by decide) _).1 h41)
        rw [if_pos (i41.2 h41), if_neg (by rw [h41]; decide), if_pos h41]
        dsimp only
        rw [cond_true]
        refine (spec_add_v (a := ba s a1 + 1) hl (by omega) hs h5 (by omega) ⟨Nat.zero_le _, show (ks ++ [i]).length ≤ 1000 by simp only [List.length_append, List.length_cons, List.length_nil]; omega⟩ ?_).ret
        rw [← List.drop_drop, b1]
      · rw [if_neg (fun e => h41 (i41.1 e))]
        dsimp only
        rw [cond_false, spec_is_v hs b3 _ (by simp), bs, b1, bl_bl, ba_ba h1.1]
        by_cases h44 : signOf (bl (s.drop a1)) = [44]
        · have hl := head_drop (s := s) (q := ba s a1) (c := 44) (by rw [b1]; exact (sign_one (by decide) _).1 h44)
          rw [if_pos (i44.2 h44), if_pos h44]
          dsimp only
          rw [Bool.not_true, cond_false]
          have := spec_call_loop hs hR n op p m1 m2 (ba s a1 + 1) d (ks ++ [i]) ns1 (by omega) (by omega) hl (by omega) (by omega) h5 (by omega) (by simp only [List.length_append, List.length_cons, List.length_nil]; omega)
          rw [← List.drop_drop, b1] at this
          exact this
        · rw [if_neg (fun e => h44 (i44.1 e)), if_neg h44, if_neg h41]
          dsimp only
          rw [Bool.not_false, cond_true]
          cases m2 with
          | zero => omega
          | succ m2 =>
            rw [spec_l3Rd_call.L0_eq, Bool.not_true, cond_false]
            exact SAns.bad 0 (ba s a1) ns1 rfl b3 (by omega) (by omega) Doomed.none
    · obtain ⟨b1, b2, b3⟩ := ba_drop h1.1
      rw [e, bs, bt (by unfold cap; simp only [List.length_cons, List.length_nil]; omega)]
      dsimp only
      rw [spec_is_bad hs h1.1, bs]
      dsimp only
      rw [cond_false, spec_is_bad hs b3, bs, ba_ba h1.1]
      dsimp only
      rw [Bool.not_false, cond_true]
      cases m2 with
      | zero => omega
      | succ m2 =>
        rw [spec_l3Rd_call.L0_eq, Bool.not_true, cond_false]
        refine SAns.bad 0 (ba s a1) out rfl b3 (by omega) (by omega) ?_
        cases ho : argS (ideal k) (s.drop a, ns) with
        | none => exact Doomed.none
        | some q =>
          obtain ⟨j, st2⟩ := q
          have hbad := h3 j st2 ho
          have hg := (argS_grow (ideal_grow k) (by dsimp only; rw [List.length_drop]; omega) ho).1.less
          dsimp only at hg ⊢
          have hb := bl_len st2.1
          rw [List.length_drop] at hg
          split
          · rename_i h44
            have hl : 1 ≤ (bl st2.1).length := by
              cases hb' : bl st2.1 with
              | nil => rw [hb'] at h44; cases h44
              | cons c r => simp
            refine doomed_more (st := ((bl st2.1).drop 1, st2.2)) hbad fun i' st1 e => ?_
            exact (argsS_grow (ideal_grow k) (by dsimp only; rw [List.length_drop]; omega) (by simp only [List.length_append, List.length_cons, List.length_nil, List.length_drop]; omega) e).1.more'
          · split
            · exact doomed_more (st := ((bl st2.1).drop 1, st2.2)) hbad fun i' st1 e => putN_more e
            · exact Doomed.none

/-! Words. -/
theorem fnText_no : ((List.range 10).all fun n : Nat => (readValue (fnText ((n : Int) + 1))).isNone && (readPlace (fnText ((n : Int) + 1))).isNone) = true := by kernel_rfl
theorem fn_no {w : Bytes} (h : ¬ fnNo w = 0) : readValue w = none ∧ readPlace w = none := by
  obtain ⟨h1, h2, h3⟩ := fnNo_some.resolve_left h
  have := List.all_eq_true.1 fnText_no (fnNo w - 1).toNat (List.mem_range.2 (by omega))
  rw [show (((fnNo w - 1).toNat : Nat) : Int) + 1 = fnNo w by omega, h3, Bool.and_eq_true, Option.isNone_iff_eq_none, Option.isNone_iff_eq_none] at this
  exact this

theorem spec_call_v {s : Bytes} (hs : s.length ≤ 200) {k : Nat} (hR : RowOk s k) {a p d : Nat} {op : Int} {ns : List FNode} (ha : a ≤ s.length) (hp : p ≤ a) (hk : s.length < k + a) (hn : AllOk ns) (hd : ns.length + d + 1 ≤ a) :
    SAns s p d (spec_l3Rd_call (s, (a : Int), false, ns, ()) op) (argsS (ideal k) (k + 1) op [] (s.drop a, ns)) := by
  refine SAns.of (spec_l3Rd_call.of (s.length + 2) _ _) ?_
  exact spec_call_loop hs hR (s.length + 2) op p (k + 1) (s.length + 2) a d [] ns (by omega) (by omega) ha hp hk hn hd (by simp only [List.length_nil]; omega)

theorem spec_one_end {s : Bytes} (hs : s.length ≤ 200) (n m : Nat) {w : Bytes} (hw : w.length ≤ scap) {q p d : Nat} {ns : List FNode} (hq : q ≤ s.length) (hp : p ≤ q) (hn : AllOk ns) (hd : ns.length + d ≤ q) (hd1 : w ≠ [] → ns.length + d + 1 ≤ q) (hv : ∀ v, readValue w = some v → v.1 = 1 ∨ v.1 = 3 ∨ (w = [] ∧ v.1 = 0)) {r : Bytes} (hr : bl r = bl (s.drop q)) :
    SAns s p d (spec_l3Rd_one.J1 n m w s (q : Int) false ns) (match readValue w with
      | some v => if v.1 = 1 ∨ v.1 = 3 then putN (nConst v) (r, ns) else none
      | none => match readPlace w with
        | some pl => putN (nCell pl) (r, ns)
        | none => none) := by
  unfold spec_l3Rd_one.J1
  rw [spec_ReadValue_v hw, bs]
  cases ho : readValue w with
  | some v =>
    rw [show gotValue (some v) = (v, true, ()) from rfl]
    dsimp only
    rw [cond_true]
    rcases hv v ho with h | h | ⟨h, h0⟩
    · have hne : w ≠ [] := fun e => by rw [e, readValue_nil] at ho; injection ho with ho; subst ho; cases h
      rw [show (w == []) = false by simpa using hne, Bool.not_false, cond_true, if_pos (.inl h)]
      exact (spec_add_v hq hp hs hn (hd1 hne) (small_const (by have := readValue_small ho; omega)) hr).ret
    · have hne : w ≠ [] := fun e => by rw [e, readValue_nil] at ho; injection ho with ho; subst ho; cases h
      rw [show (w == []) = false by simpa using hne, Bool.not_false, cond_true, if_pos (.inr h)]
      exact (spec_add_v hq hp hs hn (hd1 hne) (small_const (by have := readValue_small ho; omega)) hr).ret
    · subst h
      rw [show (([] : Bytes) == []) = true from rfl, Bool.not_true, cond_false, spec_ReadPlace_v hw, bs, readPlace_nil, if_neg (by omega)]
      exact SAns.bad 0 q ns rfl hq hp hd Doomed.none
  | none =>
    rw [show gotValue none = ((0, 0, [], ()), false, ()) from rfl]
    dsimp only
    rw [cond_false, spec_ReadPlace_v hw, bs]
    cases hpl : readPlace w with
    | none => exact SAns.bad 0 q ns rfl hq hp hd Doomed.none
    | some pl =>
      have hne : w ≠ [] := fun e => by rw [e, readPlace_nil] at hpl; cases hpl
      exact (spec_add_v hq hp hs hn (hd1 hne) ⟨Nat.zero_le _, Nat.zero_le _⟩ hr).ret

theorem spec_one_fns {s : Bytes} (hs : s.length ≤ 200) {k : Nat} (hR : RowOk s k) (n : Nat) {w : Bytes} (hw : w.length ≤ scap) {q p d : Nat} {ns : List FNode} (hq : q ≤ s.length) (hp : p ≤ q) (hk : s.length < k + q + 1) (hn : AllOk ns) (hd : ns.length + d ≤ q) (hd1 : w ≠ [] → ns.length + d + 1 ≤ q) (hv : ∀ v, readValue w = some v → v.1 = 1 ∨ v.1 = 3 ∨ (w = [] ∧ v.1 = 0)) {r : Bytes} (hr : bl r = bl (s.drop q)) : ∀ (m i : Nat), 1 ≤ i → 11 < m + i → i ≤ 11 → ¬ (1 ≤ fnNo w ∧ fnNo w < i) →
    SAns s p d (spec_l3Rd_one.L1 n m w (i : Int) s (q : Int) false ns) (match readValue w with
      | some v => if v.1 = 1 ∨ v.1 = 3 then putN (nConst v) (r, ns) else none
      | none => match readPlace w with
        | some pl => putN (nCell pl) (r, ns)
        | none => if fnNo w = 0 then none else if signOf (bl r) = [40] then argsS (ideal k) (k + 1) (fnNo w) [] ((bl r).drop 1, ns) else none)
  | 0, i, _, h, _, _ => by omega
  | m + 1, i, h1, h2, h3, hno => by
    rw [spec_l3Rd_one.L1_eq]
    have hfn := fnNo_some (w := w)
    by_cases hi : i ≤ 10
    · rw [bt (by omega), spec_l3Fn_v (by omega) (by omega), bs]
      dsimp only
      rw [show (fnText (i : Int) == w) = (w == fnText (i : Int)) by rw [Bool.eq_iff_iff, beq_iff_eq, beq_iff_eq]; exact eq_comm, beq_fn (by omega) (by omega)]
      by_cases he : fnNo w = (i : Int)
      · have hne : w ≠ [] := fun e => by rw [e, fnNo_nil] at he; omega
        obtain ⟨v1, v2⟩ := fn_no (w := w) (by omega)
        obtain ⟨b1, b2, b3⟩ := ba_drop hq
        rw [bt he, v1, v2, he, spec_is_v hs hq _ (by simp), bs, ← hr]
        dsimp only
        rw [if_neg (show ¬ ((i : Nat) : Int) = 0 by omega)]
        have i40 := sign_head (c := 40) (by decide) (bl r)
        by_cases h40 : signOf (bl r) = [40]
        · have hl := head_drop (s := s) (q := ba s q) (c := 40) (by rw [b1, ← hr]; exact (sign_one (by decide) _).1 h40)
          rw [if_pos (i40.2 h40), if_pos h40]
          dsimp only
          rw [cond_true]
          have := spec_call_v hs hR (a := ba s q + 1) (p := p) (d := d) (op := (i : Int)) (ns := ns) hl (by omega) (by omega) hn (by have := hd1 hne; omega)
          rw [← List.drop_drop, b1, ← hr] at this
          exact this.ret
        · rw [if_neg (fun e => h40 (i40.1 e)), if_neg h40]
          dsimp only
          rw [cond_false, w64n (by omega)]
          -- no other name, no value, no place
          have past : ∀ (m j : Nat), 1 ≤ j → 11 < m + j → j ≤ 11 → fnNo w < j → SAns s p d (spec_l3Rd_one.L1 n m w (j : Int) s (ba s q : Int) false ns) none := by
            intro m
            induction m with
            | zero => intro j _ h _ _; omega
            | succ m ihm =>
              intro j g1 g2 g3 g4
              rw [spec_l3Rd_one.L1_eq]
              by_cases hj : j ≤ 10
              · rw [bt (by omega), spec_l3Fn_v (by omega) (by omega), bs]
                dsimp only
                rw [show (fnText (j : Int) == w) = (w == fnText (j : Int)) by rw [Bool.eq_iff_iff, beq_iff_eq, beq_iff_eq]; exact eq_comm, beq_fn (by omega) (by omega), bf (by omega), w64n (by omega)]
                exact ihm (j + 1) (by omega) (by omega) (by omega) (by omega)
              · rw [bf (by omega)]
                have := spec_one_end hs n m hw (q := ba s q) (p := p) (d := d) (ns := ns) b3 (by omega) hn (by omega) (fun e => by have := hd1 e; omega) hv (r := s.drop (ba s q)) rfl
                rw [v1, v2] at this
                exact this
          exact past m (i + 1) (by omega) (by omega) (by omega) (by omega)
      · rw [bf he, w64n (by omega)]
        exact spec_one_fns hs hR n hw hq hp hk hn hd hd1 hv hr m (i + 1) (by omega) (by omega) (by omega) (by omega)
    · rw [bf (by omega)]
      have h0 : fnNo w = 0 := by omega
      have := spec_one_end hs n m hw hq hp hn hd hd1 hv hr
      rw [if_pos h0]
      exact this

theorem spec_one_v {s : Bytes} (hs : s.length ≤ 200) {k : Nat} (hR : RowOk s k) {a d : Nat} {ns : List FNode} (ha : a ≤ s.length) (hk : s.length < k + 1 + a) (hn : AllOk ns) (hd : ns.length + d ≤ a) :
    SAns s a d (spec_l3Rd_one (s, (a : Int), false, ns, ())) (unS (ideal k) (k + 1) (s.drop a, ns)) := by
  refine SAns.of (spec_l3Rd_one.of 12 _) ?_
  unfold spec_l3Rd_one.B unS
  obtain ⟨b1, b2, b3⟩ := ba_drop ha
  dsimp only
  rw [spec_is_v hs ha _ (by simp), bs, hasHead]
  simp only [decide_eq_true_eq]
  have tl : ∀ {c : UInt8}, (bl (s.drop a)).head? = some c → s.drop (ba s a + 1) = (bl (s.drop a)).tail ∧ ba s a + 1 ≤ s.length := by
    intro c h
    exact ⟨by rw [← List.drop_drop, b1, List.drop_one], head_drop (by rw [b1]; exact h)⟩
  by_cases h45 : (bl (s.drop a)).head? = some 45
  · obtain ⟨t1, t2⟩ := tl h45
    rw [if_pos h45, if_pos h45]
    dsimp only
    rw [cond_true]
    have hrow := (hR (ba s a + 1) ns 5 (d + 1) t2 (by omega) hn (by omega) (by omega) (by omega)).un
    rw [t1] at hrow
    rcases hrow with ⟨i, a1, ns1, r, e, h1, h2, h3, h4, h5⟩ | ⟨i, a1, out, e, h1, h2, h3⟩
    · simp only [List.length_cons, List.length_nil, Nat.zero_add]
      rw [e, bs, h3]
      exact (spec_add_v (x := nNeg i) (a := a1) h1.1 (by omega) hs h5 (by omega) ⟨Nat.zero_le _, show 1 ≤ 1000 by omega⟩ h4).ret
    · simp only [List.length_cons, List.length_nil, Nat.zero_add]
      rw [e, bs]
      obtain ⟨j, e2⟩ := spec_add_bad (s := s) (a := a1) (out := out) (by omega) (x := nNeg i) ⟨Nat.zero_le _, show 1 ≤ 1000 by omega⟩
      refine SAns.bad j a1 (out ++ [nNeg i]) ?_ h1.1 (by omega) (by simp only [List.length_append, List.length_cons, List.length_nil]; omega) ?_
      · show (spec_l3Rd_add (s, (a1 : Int), true, out, ()) (nNeg i)).bind _ = _
        rw [e2]; rfl
      · cases ho : ideal k .un ((bl (s.drop a)).tail, ns) with
        | none => exact Doomed.none
        | some q => exact doomed_more (h3 _ _ ho) fun i' st1 e => putN_more e
  · rw [if_neg h45, if_neg h45]
    dsimp only
    rw [cond_false, spec_is_v hs b3 _ (by simp), bs, hasHead, b1, bl_bl, ba_ba ha]
    simp only [decide_eq_true_eq]
    unfold atomS
    by_cases h40 : (bl (s.drop a)).head? = some 40
    · obtain ⟨t1, t2⟩ := tl h40
      rw [if_pos h40, if_neg (by rw [h40]; decide), if_neg (by rw [h40]; decide), if_pos h40]
      dsimp only
      rw [cond_true]
      have hrow := hR (ba s a + 1) ns 1 (d + 1) t2 (by omega) hn (by omega) (by omega) (by omega)
      rw [t1] at hrow
      unfold parS
      simp only [List.length_cons, List.length_nil, Nat.zero_add]
      rcases hrow with ⟨i, a1, ns1, r, e, h1, h2, h3, h4, h5⟩ | ⟨i, a1, out, e, h1, h2, h3⟩
      · obtain ⟨c1, c2, c3⟩ := ba_drop h1.1
        rw [e, bs, h3]
        dsimp only
        rw [spec_is_v hs h1.1 _ (by simp), bs, h4]
        have i41 := sign_head (c := 41) (by decide) (bl (s.drop a1))
        by_cases h41 : signOf (bl (s.drop a1)) = [41]
        · have hl := head_drop (s := s) (q := ba s a1) (c := 41) (by rw [c1]; exact (sign_one (by decide) _).1 h41)
          rw [if_pos (i41.2 h41), if_pos h41]
          exact .inl ⟨i, ba s a1 + 1, ns1, _, rfl, ⟨hl, by omega⟩, by omega, rfl, by rw [← List.drop_drop, c1], h5⟩
        · rw [if_neg (fun e => h41 (i41.1 e)), if_neg h41]
          exact SAns.bad i (ba s a1) ns1 rfl c3 (by omega) (by omega) Doomed.none
      · obtain ⟨c1, c2, c3⟩ := ba_drop h1.1
        rw [e, bs]
        dsimp only
        rw [spec_is_bad hs h1.1, bs]
        refine SAns.bad i (ba s a1) out rfl c3 (by omega) (by omega) ?_
        cases ho : ideal k (.bin 1) ((bl (s.drop a)).tail, ns) with
        | none => exact Doomed.none
        | some q =>
          obtain ⟨j, st2⟩ := q
          dsimp only
          split
          · intro i' st1 e
            injection e with e
            injection e with _ e
            subst e
            exact h3 j st2 ho
          · exact Doomed.none
    · rw [if_neg h40]
      dsimp only
      rw [cond_false, spec_is_v hs b3 _ (by simp), bs, hasHead, b1, bl_bl, ba_ba ha]
      simp only [decide_eq_true_eq]
      by_cases h34 : (bl (s.drop a)).head? = some 34
      · obtain ⟨t1, t2⟩ := tl h34
        rw [if_pos h34, if_pos h34]
        dsimp only
        rw [cond_true]
        have := spec_text_v hs (p := a) (d := d) hn t2 (by omega) (by omega)
        rw [t1] at this
        exact this.ret
      · rw [if_neg h34, if_neg h34]
        dsimp only
        rw [cond_false, spec_is_v hs b3 _ (by simp), bs, hasHead, b1, bl_bl, ba_ba ha]
        simp only [decide_eq_true_eq]
        by_cases h35 : (bl (s.drop a)).head? = some 35
        · obtain ⟨t1, t2⟩ := tl h35
          rw [if_pos h35, if_pos h35]
          dsimp only
          rw [cond_true]
          have := spec_err_loop 12 hs a d hn (a := ba s a + 1) t2 (by omega) (by omega) 12 0 (List.range 5) rfl (by decide)
          rw [t1] at this
          obtain ⟨r, hr⟩ : ∃ r, bl (s.drop a) = 35 :: r := by
            cases hb : bl (s.drop a) with
            | nil => rw [hb] at h35; cases h35
            | cons c r => rw [hb] at h35; injection h35 with h35; exact ⟨r, by rw [h35]⟩
          rw [hr] at this ⊢
          exact this
        · rw [if_neg h35, if_neg h35, if_neg h40]
          dsimp only
          rw [cond_false]
          obtain ⟨w1, w2⟩ := word_at b3
          rw [spec_word_v hs b3, bs, b1]
          rw [b1] at w1 w2
          unfold wordS
          have hwl : (wordOf (bl (s.drop a))).length ≤ scap := by unfold scap; omega
          refine spec_one_fns hs hR 12 hwl w2 (by omega) ?_ hn (by omega) (fun e => ?_) (fun v hv => word_value hv) (by rw [w1]) 12 1 (by omega) (by omega) (by omega) (by omega)
          · omega
          · have := word_pos e; omega


/-! Rows. -/
theorem rowS_more {k m : Nat} {l left : Int} {st st1 : PSt} {i : Int} (hs : st.1.length ≤ 400) (h : rowS (ideal k) m l left st = some (i, st1)) : ∃ t, st1.2 = st.2 ++ t := (rowS_grow (ideal_grow k) hs h).more'

theorem doom_rowS {k m : Nat} {l : Int} {o : Option (Int × PSt)} (h : Doomed o) (hl : ∀ i st1, o = some (i, st1) → st1.1.length ≤ 400) : Doomed (match (generalizing := false) o with | none => none | some (i, st1) => rowS (ideal k) m l i st1) := by
  cases o with
  | none => exact Doomed.none
  | some q => exact doomed_more (h _ _ rfl) fun i' st1 e => rowS_more (hl _ _ rfl) e

theorem spec_row_loop {s : Bytes} (hs : s.length ≤ 200) {k : Nat} (hR : RowOk s k) (n : Nat) (l : Int) (hl1 : 1 ≤ l) (hl2 : l ≤ 4) (p : Nat) : ∀ (m1 m2 a d : Nat) (left : Int) (ns : List FNode) (r : Bytes), bl r = bl (s.drop a) → s.length < m1 + a → s.length + 1 < m2 + a → a ≤ s.length → p ≤ a → s.length < k + 1 + a → AllOk ns → ns.length + d ≤ a →
    SAns s p d (spec_l3Rd_row.L0 n m2 l left s (a : Int) false ns) (rowS (ideal k) m1 l left (r, ns))
  | 0, _, _, _, _, _, _, _, h, _, _, _, _, _, _ => by omega
  | m1 + 1, 0, _, _, _, _, _, _, _, h, _, _, _, _, _ => by omega
  | m1 + 1, m2 + 1, a, d, left, ns, r, hr, hm1, hm2, ha, hp, hk, hn, hd => by
    rw [rowS_bl (q := s.drop a) hr, spec_l3Rd_row.L0_eq, Bool.not_false, cond_true, spec_op_v hs ha l hl1 hl2, bs]
    obtain ⟨b1, b2, b3⟩ := ba_drop ha
    unfold rowS
    dsimp only
    by_cases hop : opOf (signOf (bl (s.drop a))) = 0 ∨ binds (opOf (signOf (bl (s.drop a)))) ≠ l
    · rw [if_pos hop, if_pos hop]
      exact .inl ⟨left, ba s a, ns, _, rfl, ⟨b3, by omega⟩, by omega, rfl, by rw [b1], hn⟩
    · rw [if_neg hop, if_neg hop]
      have h0 : ¬ opOf (signOf (bl (s.drop a))) = 0 := fun e => hop (.inl e)
      have hdr := op_drop h0
      have hsl := signOf_len (bl (s.drop a))
      have hbl := bl_len (s.drop a)
      rw [List.length_drop] at hdr hbl
      have hbll : (bl (s.drop a)).length = s.length - ba s a := by rw [← b1, List.length_drop]
      dsimp only
      rw [beq_eq_false_iff_ne.2 h0, cond_false, w64 (by omega) (by omega)]
      generalize ha1 : ba s a + (signOf (bl (s.drop a))).length = a1
      have hdrop : (bl (s.drop a)).drop (signOf (bl (s.drop a))).length = s.drop a1 := by rw [← ha1, ← List.drop_drop, b1]
      rw [hdrop]
      have hrow := hR a1 ns (l + 1) (d + 1) (by omega) (by omega) hn (by omega) (by omega) (by omega)
      unfold opS
      rcases hrow with ⟨i, a2, ns2, r2, e, h1, h2, h3, h4, h5⟩ | ⟨i, a2, out, e, h1, h2, h3⟩
      · have hr2 := (ideal_grow _ _ _ _ _ (by dsimp only; rw [List.length_drop]; omega) h3).1.less
        dsimp only at hr2
        rw [List.length_drop] at hr2
        rw [e, bs, h3]
        dsimp only
        have hadd := spec_add_v (x := nBin (opOf (signOf (bl (s.drop a)))) left i) (a := a2) (p := a2) (d := d) h1.1 (by omega) hs h5 (by omega) ⟨Nat.zero_le _, show 2 ≤ 1000 by omega⟩ h4
        show SAns s p d ((spec_l3Rd_add (s, (a2 : Int), false, ns2, ()) (nBin (opOf (signOf (bl (s.drop a)))) left i)).bind _) _
        rcases hadd with ⟨j, a3, ns3, r3, e3, g1, g2, g3, g4, g5⟩ | ⟨j, a3, out, e3, g1, g2, g3⟩
        · rw [e3, bs, g3]
          dsimp only
          exact spec_row_loop hs hR n l hl1 hl2 p m1 m2 a3 d j ns3 r3 g4 (by omega) (by omega) g1.1 (by omega) (by omega) g5 (by omega)
        · rw [e3, bs]
          dsimp only
          cases m2 with
          | zero => omega
          | succ m2 =>
            rw [spec_l3Rd_row.L0_eq, Bool.not_true, cond_false]
            refine SAns.bad j a3 out rfl g1.1 (by omega) g2 (doom_rowS g3 fun i' st1 e => ?_)
            rw [putN_rest e]
            dsimp only
            omega
      · rw [e, bs]
        dsimp only
        obtain ⟨j, e3⟩ := spec_add_bad (s := s) (a := a2) (out := out) (by omega) (x := nBin (opOf (signOf (bl (s.drop a)))) left i) ⟨Nat.zero_le _, show 2 ≤ 1000 by omega⟩
        show SAns s p d ((spec_l3Rd_add (s, (a2 : Int), true, out, ()) (nBin (opOf (signOf (bl (s.drop a)))) left i)).bind _) _
        rw [e3, bs]
        dsimp only
        cases m2 with
        | zero => omega
        | succ m2 =>
          rw [spec_l3Rd_row.L0_eq, Bool.not_true, cond_false]
          refine SAns.bad j a2 (out ++ [nBin (opOf (signOf (bl (s.drop a)))) left i]) rfl h1.1 (by omega) (by simp only [List.length_append, List.length_cons, List.length_nil]; omega) (doom_rowS (o := match ideal k (.bin (l + 1)) (s.drop a1, ns) with
            | none => none
            | some (i, st1) => putN (nBin (opOf (signOf (bl (s.drop a)))) left i) st1) ?_ fun i' st1 e => ?_)
          · cases ho : ideal k (.bin (l + 1)) (s.drop a1, ns) with
            | none => exact Doomed.none
            | some q => exact doomed_more (h3 _ _ ho) fun i' st1 e => putN_more e
          · cases ho : ideal k (.bin (l + 1)) (s.drop a1, ns) with
            | none => rw [ho] at e; cases e
            | some q =>
              rw [ho] at e
              have hr2 := (ideal_grow _ _ _ _ _ (by dsimp only; rw [List.length_drop]; omega) ho).1.less
              dsimp only at hr2
              rw [List.length_drop] at hr2
              rw [putN_rest e]
              omega

theorem ideal_row {k : Nat} {l : Int} {st : PSt} (hs : st.1.length ≤ 400) (hk : st.1.length < k + 1) :
    ideal (k + 1) (.bin l) st = match ideal (k + 1) (.bin (l + 1)) st with
      | none => none
      | some (i, st1) => rowS (ideal k) (k + 13) l i st1 := by
  show (match unS (ideal k) (k + 1) st with | none => none | some (i, st1) => loopS (ideal k) (k + 13) l i st1) = match (match unS (ideal k) (k + 1) st with | none => none | some (i, st1) => loopS (ideal k) (k + 13) (l + 1) i st1) with | none => none | some (i, st1) => rowS (ideal k) (k + 13) l i st1
  cases hu : unS (ideal k) (k + 1) st with
  | none => rfl
  | some q =>
    obtain ⟨i, st1⟩ := q
    have := (unS_grow (ideal_grow k) hs hu).2
    dsimp only
    rw [loop_row (ideal_grow k) (fun l st i st1 h => ideal_stopped h) l st1.1.length (k + 13) (k + 13) (k + 13) i st1 (by omega) rfl (by omega) (by omega) (by omega)]
    cases loopS (ideal k) (k + 13) (l + 1) i st1 <;> rfl

theorem row_ok {s : Bytes} (hs : s.length ≤ 200) : ∀ k : Nat, RowOk s k
  | 0 => fun a ns l d ha hk => by omega
  | k + 1 => by
    have hR := row_ok hs k
    -- what one reads
    have five : ∀ (a : Nat) (ns : List FNode) (d : Nat), a ≤ s.length → s.length < k + 1 + a → AllOk ns → ns.length + d ≤ a → SAns s a d (spec_l3Rd_row (s, (a : Int), false, ns, ()) 5) (ideal (k + 1) (.bin 5) (s.drop a, ns)) := by
      intro a ns d ha hk hn hd
      refine SAns.five ?_
      refine SAns.of (spec_l3Rd_row.of 0 _ _) ?_
      exact (spec_one_v hs hR ha (by omega) hn hd).ret
    have all : ∀ (j : Nat), j ≤ 4 → ∀ (a : Nat) (ns : List FNode) (d : Nat), a ≤ s.length → s.length < k + 1 + a → AllOk ns → ns.length + d ≤ a → SAns s a d (spec_l3Rd_row (s, (a : Int), false, ns, ()) (5 - j : Int)) (ideal (k + 1) (.bin (5 - j : Int)) (s.drop a, ns)) := by
      intro j
      induction j with
      | zero => intro _; exact five
      | succ j ihj =>
        intro hj a ns d ha hk hn hd
        have ih := ihj (by omega) a ns d ha hk hn hd
        rw [ideal_row (by dsimp only; rw [List.length_drop]; omega) (by dsimp only; rw [List.length_drop]; omega)]
        rw [show (5 - ((j + 1 : Nat) : Int) + 1) = 5 - (j : Int) by omega]
        refine SAns.of (spec_l3Rd_row.of (s.length + 2) _ _) ?_
        unfold spec_l3Rd_row.B
        dsimp only
        rw [cond_false, beq_eq_false_iff_ne.2 (show ¬ (5 - ((j + 1 : Nat) : Int)) = 5 by omega), cond_false, w64 (by omega) (by omega), show (5 - ((j + 1 : Nat) : Int) + 1) = 5 - (j : Int) by omega]
        rcases ih with ⟨i, a1, ns1, r, e, h1, h2, h3, h4, h5⟩ | ⟨i, a1, out, e, h1, h2, h3⟩
        · rw [e, bs, h3]
          dsimp only
          exact spec_row_loop hs hR (s.length + 2) (5 - ((j + 1 : Nat) : Int)) (by omega) (by omega) a (k + 13) (s.length + 2) a1 d i ns1 r h4 (by omega) (by omega) h1.1 h1.2 (by omega) h5 h2
        · rw [e, bs]
          dsimp only
          rw [spec_l3Rd_row.L0_eq, Bool.not_true, cond_false]
          refine SAns.bad i a1 out rfl h1.1 h1.2 h2 (doom_rowS h3 fun i' st1 e => ?_)
          have := (ideal_grow _ _ _ _ _ (by dsimp only; rw [List.length_drop]; omega) e).1.less
          dsimp only at this
          rw [List.length_drop] at this
          omega
    intro a ns l d ha hk hn hd hl1 hl2
    obtain ⟨j, rfl⟩ : ∃ j : Nat, l = 5 - (j : Int) := ⟨(5 - l).toNat, by omega⟩
    exact all j (by omega) a ns d ha hk hn hd

theorem spec_ReadFormula_v {s : Bytes} (hs : s.length ≤ scap) : spec_ReadFormula s = some (gotFormula (readFormula s)) := by
  refine spec_ReadFormula.of 0 _ _ ?_
  unfold spec_ReadFormula.B readFormula
  rw [spec_l2Plain_v hs, bs]
  dsimp only
  cases hp : plainB s 200 with
  | false => rfl
  | true =>
    have hl := plain_len hp
    have hs2 : s.length ≤ 200 := by omega
    rw [Bool.not_true, cond_false, if_pos rfl]
    have hb := row_ok hs2 (s.length + 1) 0 [] 1 0 (Nat.zero_le _) (by omega) (fun x hx => by cases hx) (by simp) (by omega) (by omega)
    rw [show ((0 : Nat) : Int) = 0 from rfl, List.drop_zero] at hb
    rcases hb with ⟨i, a1, ns1, r, e, h1, h2, h3, h4, h5⟩ | ⟨i, a1, out, e, h1, h2, h3⟩
    · obtain ⟨b1, b2, b3⟩ := ba_drop h1.1
      obtain ⟨g1, g2⟩ := ideal_small (by omega) h3
      rw [e, bs, h3]
      dsimp only at g1 g2 ⊢
      rw [spec_blanks_v hs2 h1.1, bs]
      dsimp only
      rw [cond_false, h4, ← b1]
      by_cases hr : s.drop (ba s a1) = []
      · have := drop_nil hr
        rw [bf (by omega), hr, spec_FormulaOk_v (formS_of (by omega) g2), bs]
        dsimp only
        cases hf : formulaOk ns1 with
        | false => rw [if_neg (fun e => by cases e.2)]; rfl
        | true => rw [if_pos ⟨rfl, rfl⟩]; rfl
      · have : ba s a1 < s.length := by
          rcases Nat.lt_or_ge (ba s a1) s.length with h | h
          · exact h
          · exact absurd (List.drop_eq_nil_of_le h) hr
        rw [if_neg (fun e => hr e.1), bt (by omega)]; rfl
    · rw [e, bs]
      dsimp only
      rw [spec_blanks_v hs2 h1.1, bs]
      dsimp only
      rw [cond_true]
      cases ho : ideal (s.length + 1) (.bin 1) (s, []) with
      | none => rfl
      | some q =>
        obtain ⟨j, r, ns1⟩ := q
        have hbad := h3 j (r, ns1) ho
        dsimp only at hbad ⊢
        rw [if_neg]
        · rfl
        · rintro ⟨_, hf⟩
          apply hbad
          intro x hx
          obtain ⟨n, hn⟩ := List.mem_iff_getElem?.1 hx
          obtain ⟨_, _, _, h, _, ht⟩ := formulaOk_iff.1 hf
          have hlt : n < ns1.length := by
            rcases Nat.lt_or_ge n ns1.length with h | h
            · exact h
            · rw [List.getElem?_eq_none h] at hn; cases hn
          have := tree_good _ ht n x (Nat.zero_le _) (by omega) hn
          unfold nodeGood at this
          rw [Bool.and_eq_true] at this
          exact this.1

end Go.Proofs.YtmgeeanbecmkbaaGreatDoor.Den
