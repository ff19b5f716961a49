/- V10: formulas read by the program: atoms, rows, the whole. -/
import Derived.Test.YtmgeeanbecmkbaaGreatDoorA5
namespace Go.Proofs.YtmgeeanbecmkbaaGreatDoor.Den
open Go
set_option linter.unusedSimpArgs false

def UnOk (k : Nat) (B : Nat) : Prop := ∀ (s : Bytes) (ns : List FNode) (deep : Nat), s.length < k → s.length + deep ≤ B → Ans (impl_reader_unary (s, ns, false, ()) deep) (ideal k .un (s, ns))

theorem impl_call_v {k : Nat} (hB : BinOk k 400) {s : Bytes} (ns : List FNode) (op : Int) (deep : Nat) (h1 : 1 ≤ op) (h2 : op ≤ 10) (hk : s.length ≤ k) (hd : s.length + deep ≤ 400) :
    Ans (impl_reader_call (s, ns, false, ()) op deep) (if signOf (bl s) = [40] then argsS (ideal k) (k + 1) op [] ((bl s).drop 1, ns) else none) := by
  refine Ans.of (impl_reader_call.of (k + 1) _ _ _) ?_
  unfold impl_reader_call.B
  have b1 := bl_len s
  dsimp only
  rw [cond_false, impl_take_v, bs]
  by_cases h : signOf (bl s) = [40]
  · rw [if_pos h, if_pos h]
    dsimp only
    have hp : 1 ≤ (bl s).length := by
      cases hb : bl s with
      | nil => rw [hb] at h; cases h
      | cons c r => simp
    rw [Bool.not_true]
    have := impl_call_loop hB (k + 1) op deep h1 h2 (k + 1) [] ((bl s).drop 1) ns (by rw [List.length_drop]; omega) (by rw [List.length_drop]; omega) (by rw [List.length_drop]; omega) (by simp only [List.length_drop, List.length_nil]; omega)
    exact this
  · rw [if_neg h, if_neg h]
    dsimp only
    rw [Bool.not_false, impl_reader_call.L0_eq, Bool.not_true, cond_false]
    unfold impl_reader_call.J2
    obtain ⟨j, e⟩ := impl_put_bad (nCall op []) (bl s) ns
    exact ans_none (by
      show (impl_reader_put (bl s, ns, true, ()) (nCall op [])).bind _ = _
      rw [e]; rfl)

theorem beq_fn {w : Bytes} {op : Int} (h1 : 1 ≤ op) (h2 : op ≤ 10) : (w == fnText op) = decide (fnNo w = op) := by
  rw [Bool.eq_iff_iff, beq_iff_eq, decide_eq_true_eq]
  constructor
  · rintro rfl; exact fnNo_text h1 h2
  · intro e
    rcases fnNo_some (w := w) with h | ⟨_, _, h⟩
    · omega
    · rw [← h, e]

theorem impl_atom_fns {k : Nat} (hB : BinOk k 400) {w s : Bytes} (ns : List FNode) (deep : Nat) (hk : s.length ≤ k) (hd : s.length + deep ≤ 400) (n : Nat) (a : Ref) (b c : Bool) (d e : Int) (f : Bytes) : ∀ (m i : Nat), 1 ≤ i → 11 < m + i → i ≤ 11 →
    Ans (impl_reader_atom.L1 n m deep w (i : Int) a b c d e f s ns false) (if fnNo w < i then none else if signOf (bl s) = [40] then argsS (ideal k) (k + 1) (fnNo w) [] ((bl s).drop 1, ns) else none)
  | 0, i, _, h, _ => by omega
  | m + 1, i, h1, h2, h3 => by
    rw [impl_reader_atom.L1_eq]
    by_cases hi : i ≤ 10
    · rw [bt (by omega), impl_fnText_v (by omega) (by omega), bs, beq_fn (by omega) (by omega)]
      by_cases he : fnNo w = (i : Int)
      · rw [bt he, if_neg (by omega), he]
        exact (impl_call_v hB ns i deep (by omega) (by omega) hk hd).ret
      · rw [bf he, w64n (by omega)]
        have := impl_atom_fns hB (w := w) ns deep hk hd n a b c d e f m (i + 1) (by omega) (by omega) (by omega)
        have hif : (fnNo w < ((i + 1 : Nat) : Int)) ↔ fnNo w < (i : Int) := by omega
        simp only [hif] at this
        exact this
    · rw [bf (by omega)]
      unfold impl_reader_atom.J2
      rcases fnNo_some (w := w) with h | ⟨_, h, _⟩
      · rw [if_pos (by omega)]; exact ans_none rfl
      · rw [if_pos (by omega)]; exact ans_none rfl

theorem impl_atom_nofn {w s : Bytes} (hw : fnNo w = 0) (ns : List FNode) (deep : Int) (n : Nat) (a : Ref) (b c : Bool) (d e : Int) (f : Bytes) : ∀ (m i : Nat), 1 ≤ i → 11 < m + i → i ≤ 11 →
    impl_reader_atom.L1 n m deep w (i : Int) a b c d e f s ns false = some (-1, (s, ns, true, ()), ())
  | 0, i, _, h, _ => by omega
  | m + 1, i, h1, h2, h3 => by
    rw [impl_reader_atom.L1_eq]
    by_cases hi : i ≤ 10
    · rw [bt (by omega), impl_fnText_v (by omega) (by omega), bs, beq_fn (by omega) (by omega), bf (by omega), w64n (by omega)]
      exact impl_atom_nofn hw ns deep n a b c d e f m (i + 1) (by omega) (by omega) (by omega)
    · rw [bf (by omega)]; rfl

theorem wordOf_all (s : Bytes) : (wordOf s).all wordCh = true := by
  unfold wordOf
  induction s with
  | nil => rfl
  | cons c r ih =>
    rw [List.takeWhile_cons]
    split
    · rename_i h; rw [List.all_cons, h, ih]; rfl
    · rfl
theorem errName_head {n : Nat} (h1 : 1 ≤ n) (h2 : n ≤ 5) : (errName (n : Int)).head? = some 35 := by
  obtain ⟨q, hq, _⟩ := errName_cases h1 h2
  rw [hq]; rfl
/-- The value of a word is a number, a truth, or the blank one of no word. -/
theorem word_value {s : Bytes} {v : Value} (h : readValue (wordOf s) = some v) : v.1 = 1 ∨ v.1 = 3 ∨ (wordOf s = [] ∧ v.1 = 0) := by
  obtain ⟨h1, h2⟩ := readValue_iff.1 h
  have hw := wordOf_all s
  rcases valueOk_cases h1 with rfl | ⟨n, rfl, _⟩ | ⟨t, rfl, _⟩ | rfl | rfl | ⟨n, rfl, n1, n2⟩
  · exact .inr (.inr ⟨h2.symm, rfl⟩)
  · exact .inl rfl
  · rw [← h2] at hw
    exact absurd (show wordCh 39 = true by
      have : (39 :: t : Bytes).all wordCh = true := hw
      rw [List.all_cons, Bool.and_eq_true] at this
      exact this.1) (by decide)
  · exact .inr (.inl rfl)
  · exact .inr (.inl rfl)
  · rw [← h2] at hw
    obtain ⟨q, hq, _⟩ := errName_cases n1 n2
    have hv : valueText (4, (n : Int), [], ()) = errName (n : Int) := rfl
    rw [hv, hq, List.all_cons, Bool.and_eq_true] at hw
    exact absurd hw.1 (by decide)
theorem fnNo_nil : fnNo [] = 0 := by decide

theorem impl_atom_word {k : Nat} (hB : BinOk k 400) {s : Bytes} (hbl : bl s = s) (ns : List FNode) (deep : Nat) (hk : s.length < k + 1) (hd : s.length + deep ≤ 400) (n : Nat) (hn : 11 ≤ n) :
    Ans (impl_reader_atom.J0 n deep s ns false) (wordS (ideal k) (k + 1) s ns) := by
  unfold impl_reader_atom.J0 wordS
  have w1 := word_len s
  rw [impl_word_v (by omega), bs, hbl]
  dsimp only
  rw [impl_ReadValue_v (sz200 (by omega)), bs]
  have place : ∀ (f : (Place × Bool × Unit) → Option (Int × reader × Unit)) (hf : ∀ p, f (p, true, ()) = ((impl_reader_put (afterWord s, ns, false, ()) (nCell p)).bind fun q => some (q.1, q.2.1, ()))) (hg : ∃ a b c d e t, f (((0, 0, ()), false, false, ()), false, ()) = impl_reader_atom.L1 n n deep (wordOf s) (1 : Int) a b c d e t (afterWord s) ns false),
      wordOf s ≠ [] → Ans ((impl_ReadPlace (wordOf s)).bind f) (match readPlace (wordOf s) with
        | some p => putN (nCell p) (afterWord s, ns)
        | none => if fnNo (wordOf s) = 0 then none else if signOf (bl (afterWord s)) = [40] then argsS (ideal k) (k + 1) (fnNo (wordOf s)) [] ((bl (afterWord s)).drop 1, ns) else none) := by
    intro f hf hg hne
    have p1 := word_pos hne
    rw [impl_ReadPlace_v (sz200 (by omega)), bs]
    cases readPlace (wordOf s) with
    | some p => rw [show gotPlace (some p) = (p, true, ()) from rfl, hf]; exact (impl_put_v _ _ _).ret
    | none =>
      obtain ⟨a, b, c, d, e, t, hg⟩ := hg
      rw [show gotPlace none = (((0, 0, ()), false, false, ()), false, ()) from rfl, hg]
      have := impl_atom_fns hB (w := wordOf s) ns deep (s := afterWord s) (by omega) (by omega) n a b c d e t n 1 (by omega) (by omega) (by omega)
      have hif : (fnNo (wordOf s) < ((1 : Nat) : Int)) ↔ fnNo (wordOf s) = 0 := by
        rcases fnNo_some (w := wordOf s) with h | ⟨h, _, _⟩ <;> omega
      simp only [hif] at this
      exact this
  cases hv : readValue (wordOf s) with
  | some v =>
    rw [show gotValue (some v) = (v, true, ()) from rfl]
    dsimp only
    rw [cond_true]
    rcases word_value hv with h1 | h3 | ⟨hw, h0⟩
    · rw [if_pos (.inl h1), h1]
      exact (impl_constant_v _ _ _).ret
    · rw [if_pos (.inr h3), h3]
      exact (impl_constant_v _ _ _).ret
    · rw [if_neg (by omega), h0]
      show Ans ((impl_ReadPlace (wordOf s)).bind _) none
      rw [hw, impl_ReadPlace_v (sz200 (by simp)), bs, readPlace_nil]
      exact ans_none (impl_atom_nofn fnNo_nil ns deep n _ _ _ _ _ _ n 1 (by omega) (by omega) (by omega))
  | none =>
    rw [show gotValue none = ((0, 0, [], ()), false, ()) from rfl]
    dsimp only
    rw [cond_false]
    refine place _ (fun p => rfl) ⟨_, _, _, _, _, _, rfl⟩ ?_
    intro e
    rw [e, readValue_nil] at hv; cases hv


theorem head_word {s : Bytes} {c : UInt8} (h : s.head? = some c) (hc : wordCh c = false) : wordOf s = [] := by
  cases s with
  | nil => rfl
  | cons d r =>
    injection h with h
    subst h
    unfold wordOf
    rw [List.takeWhile_cons, if_neg (by rw [hc]; simp)]
theorem impl_atom_err {s : Bytes} (hbl : bl s = s) (hs : s.length ≤ 400) (h35 : s.head? = some 35) (ns : List FNode) (deep : Nat) (n : Nat) (hn : 11 ≤ n) : ∀ (m j : Nat) (r : List Nat), (List.range 5).drop j = r → r.length < m →
    Ans (impl_reader_atom.L0 n m deep ((j + 1 : Nat) : Int) s ns false) (match (r.find? fun k : Nat => Lib.hasPrefix s (errName ((k : Int) + 1))).map fun k : Nat => ((k : Int) + 1, s.drop (errName ((k : Int) + 1)).length) with
      | none => none
      | some (e, q) => putN (nConst (4, e, [], ())) (q, ns))
  | 0, _, _, _, h => by omega
  | m + 1, j, [], h, _ => by
    have := drop_nil h
    rw [List.length_range] at this
    rw [impl_reader_atom.L0_eq, bf (by omega)]
    show Ans (impl_reader_atom.J0 n deep s ns false) none
    unfold impl_reader_atom.J0
    have hw := head_word h35 (by decide)
    have w1 := word_len s
    rw [impl_word_v (by omega), bs, hbl, hw]
    dsimp only
    rw [impl_ReadValue_v (sz200 (by simp)), bs, readValue_nil]
    show Ans ((impl_ReadPlace []).bind _) none
    rw [impl_ReadPlace_v (sz200 (by simp)), bs, readPlace_nil]
    exact ans_none (impl_atom_nofn fnNo_nil ns deep n _ _ _ _ _ _ n 1 (by omega) (by omega) (by omega))
  | m + 1, j, c :: r, h, hm => by
    obtain ⟨h1, h2, h3⟩ := get_drop h
    rw [List.length_range] at h3
    rw [List.getElem?_range h3] at h1
    injection h1 with h1
    subst h1
    simp only [List.length_cons] at hm
    rw [impl_reader_atom.L0_eq, bt (by omega), impl_errorText_v (by omega), bs, strings_CutPrefix.of _ _ _ (pCutPrefix_eq s _), bs, List.find?_cons, show ((j : Int) + 1) = ((j + 1 : Nat) : Int) from rfl]
    dsimp only
    cases hp : Lib.hasPrefix s (errName ((j + 1 : Nat) : Int)) with
    | true =>
      rw [cond_true, impl_fault_v, bs]
      unfold Lib.trimPrefix
      rw [if_pos hp]
      exact (impl_constant_v _ _ _).ret
    | false =>
      rw [cond_false, w64n (by omega)]
      exact impl_atom_err hbl hs h35 ns deep n hn m (j + 1) r h2 (by omega)

theorem head_bl (s : Bytes) : (bl s).head? ≠ some 32 := by
  induction s with
  | nil => simp [bl]
  | cons c r ih =>
    unfold bl
    rw [List.dropWhile_cons]
    split
    · exact ih
    · rename_i h; simpa using h
theorem hasHead (s : Bytes) (c : UInt8) : Lib.hasPrefix s [c] = decide (s.head? = some c) := by
  rw [hasPrefix_one, Bool.eq_iff_iff, beq_iff_eq, decide_eq_true_eq]

theorem impl_atom_v {k : Nat} (hB : BinOk k 400) {s : Bytes} (ns : List FNode) (deep : Nat) (hk : s.length < k + 1) (hd : s.length + deep ≤ 400) :
    Ans (impl_reader_atom (s, ns, false, ()) deep) (atomS (ideal k) (k + 1) (bl s) ns) := by
  refine Ans.of (impl_reader_atom.of 11 _ _) ?_
  unfold impl_reader_atom.B atomS
  have b1 := bl_len s
  rw [impl_blanks_v, bs]
  dsimp only
  rw [strings_HasPrefix.of _ _ _ (pHasPrefix_eq _ _), bs, hasHead]
  dsimp only
  by_cases h34 : (bl s).head? = some 34
  · rw [bt h34, if_pos h34]
    obtain ⟨r, hr⟩ : ∃ r, bl s = 34 :: r := by
      cases hb : bl s with
      | nil => rw [hb] at h34; cases h34
      | cons c r => rw [hb] at h34; injection h34 with h34; exact ⟨r, by rw [h34]⟩
    rw [hr] at b1 ⊢
    simp only [List.length_cons] at b1
    exact (impl_quoted_v (r := r) (by omega) ns).ret
  · rw [bf h34, if_neg h34, strings_HasPrefix.of _ _ _ (pHasPrefix_eq _ _), bs, hasHead]
    dsimp only
    by_cases h35 : (bl s).head? = some 35
    · rw [bt h35, if_pos h35]
      exact impl_atom_err (bl_bl s) (by omega) h35 ns deep 11 (by omega) 11 0 (List.range 5) rfl (by decide)
    · rw [bf h35, if_neg h35, impl_take_v, bl_bl, bs]
      by_cases h40 : (bl s).head? = some 40
      · have hl := tail_len h40
        rw [if_pos ((sign_one (by decide) _).2 h40), if_pos h40]
        dsimp only
        rw [cond_true, w64 (by omega) (by omega), show (bl s).drop [(40 : UInt8)].length = (bl s).tail from List.drop_one]
        have hb := hB (bl s).tail ns 1 (deep + 1) (by omega) (by omega) (by omega) (by omega)
        rw [show ((deep + 1 : Nat) : Int) = (deep : Int) + 1 by omega] at hb
        unfold parS
        cases ho : ideal k (.bin 1) ((bl s).tail, ns) with
        | none =>
          rw [ho] at hb
          obtain ⟨i, s', ns', e⟩ := hb
          rw [e]
          exact ans_none rfl
        | some p =>
          obtain ⟨i, s', ns'⟩ := p
          rw [ho] at hb
          rw [show _ = some (i, (s', ns', false, ()), ()) from hb, bs]
          dsimp only
          rw [cond_false, impl_take_v, bs]
          by_cases h41 : signOf (bl s') = [41]
          · rw [if_pos h41, if_pos h41]; rfl
          · rw [if_neg h41, if_neg h41]; exact ans_none rfl
      · rw [if_neg (fun e => h40 ((sign_one (by decide) _).1 e)), if_neg h40]
        dsimp only
        rw [cond_false]
        exact impl_atom_word hB (bl_bl s) ns deep (by omega) (by omega) 11 (by omega)

theorem impl_unary_v {k : Nat} (hB : BinOk k 400) (hU : UnOk k 400) {s : Bytes} (ns : List FNode) (deep : Nat) (hk : s.length < k + 1) (hd : s.length + deep ≤ 400) :
    Ans (impl_reader_unary (s, ns, false, ()) deep) (unS (ideal k) (k + 1) (s, ns)) := by
  refine Ans.of (impl_reader_unary.of 0 _ _) ?_
  unfold impl_reader_unary.B impl_reader_unary.J0 unS
  have b1 := bl_len s
  dsimp only
  rw [bf (by omega), cond_false, impl_take_v, bs]
  by_cases h45 : (bl s).head? = some 45
  · have hl := tail_len h45
    rw [if_pos ((sign_one (by decide) _).2 h45), if_pos h45]
    dsimp only
    rw [cond_true, w64 (by omega) (by omega), show (bl s).drop [(45 : UInt8)].length = (bl s).tail from List.drop_one]
    have hb := hU (bl s).tail ns (deep + 1) (by omega) (by omega)
    rw [show ((deep + 1 : Nat) : Int) = (deep : Int) + 1 by omega] at hb
    cases ho : ideal k .un ((bl s).tail, ns) with
    | none =>
      rw [ho] at hb
      obtain ⟨i, s', ns', e⟩ := hb
      rw [e, bs]
      obtain ⟨j, e⟩ := impl_put_bad (nNeg i) s' ns'
      exact ans_none (by
        show (impl_reader_put (s', ns', true, ()) (nNeg i)).bind _ = _
        rw [e]; rfl)
    | some p =>
      obtain ⟨i, s', ns'⟩ := p
      rw [ho] at hb
      rw [show _ = some (i, (s', ns', false, ()), ()) from hb, bs]
      exact (impl_put_v (nNeg i) s' ns').ret
  · rw [if_neg (fun e => h45 ((sign_one (by decide) _).1 e)), if_neg h45]
    dsimp only
    rw [cond_false]
    have := impl_atom_v hB (s := bl s) ns deep (by omega) (by omega)
    rw [bl_bl] at this
    exact this.ret

theorem beq_op {w : Bytes} {op : Int} (h1 : 1 ≤ op) (h2 : op ≤ 11) : (w == opText op) = decide (opOf w = op) := by
  rw [Bool.eq_iff_iff, beq_iff_eq, decide_eq_true_eq]
  constructor
  · rintro rfl; exact opOf_text h1 h2
  · intro e
    rcases opOf_some (w := w) with h | ⟨_, _, h⟩
    · omega
    · rw [← h, e]
theorem impl_binary_ops (n m0 : Nat) (l deep left : Int) (ns : List FNode) {s : Bytes} (hs : bl s = s) : ∀ (m i : Nat), 1 ≤ i → 12 < m + i → i ≤ 12 →
    impl_reader_binary.L1 n m0 m l deep left (if opOf (signOf s) < i then opOf (signOf s) else 0) (i : Int) s ns false = impl_reader_binary.J1 n m0 (m + i - 13) l deep left (opOf (signOf s)) s ns false
  | 0, i, _, h, _ => by omega
  | m + 1, i, h1, h2, h3 => by
    rw [impl_reader_binary.L1_eq]
    have ho := opOf_some (w := signOf s)
    by_cases hi : i ≤ 11
    · rw [bt (by omega), impl_sign_v, bs, impl_opText_v (by omega) (by omega), bs, hs]
      dsimp only
      rw [beq_op (by omega) (by omega), w64n (by omega)]
      have := impl_binary_ops n m0 l deep left ns hs m (i + 1) (by omega) (by omega) (by omega)
      rw [show m + (i + 1) - 13 = m + 1 + i - 13 by omega] at this
      rw [← this]
      by_cases he : opOf (signOf s) = (i : Int)
      · rw [bt he, if_pos (by omega), he]
      · rw [bf he]
        by_cases hl : opOf (signOf s) < (i : Int)
        · rw [if_pos hl, if_pos (by omega)]
        · rw [if_neg hl, if_neg (by omega)]
    · rw [bf (by omega), if_pos (by omega), show m + 1 + i - 13 = m by omega]

theorem impl_binary_loop {k : Nat} (hB : BinOk k 400) (n : Nat) (hn : 12 ≤ n) (l : Int) (deep : Nat) : ∀ (m : Nat) (left : Int) (s : Bytes) (ns : List FNode), s.length < m → s.length < k + 1 → s.length + deep ≤ 400 →
    Ans (impl_reader_binary.L0 n m l deep left s ns false) (loopS (ideal k) m l left (s, ns))
  | 0, _, _, _, h, _, _ => by omega
  | m + 1, left, s, ns, hm, hk, hd => by
    rw [impl_reader_binary.L0_eq, Bool.not_false, cond_true]
    unfold loopS
    have b1 := bl_len s
    -- the signs are passed over the blanks
    have h0 : impl_reader_binary.L1 n m n l deep left 0 1 s ns false = impl_reader_binary.J1 n m (n - 12) l deep left (opOf (signOf (bl s))) (bl s) ns false := by
      obtain ⟨n', rfl⟩ : ∃ q, n = q + 1 := ⟨n - 1, by omega⟩
      have step : impl_reader_binary.L1 (n' + 1) m (n' + 1) l deep left 0 1 s ns false = impl_reader_binary.L1 (n' + 1) m (n' + 1) l deep left 0 1 (bl s) ns false := by
        rw [impl_reader_binary.L1_eq, impl_reader_binary.L1_eq, impl_sign_v, impl_sign_v, bl_bl]
        rfl
      rw [step]
      have := impl_binary_ops (n' + 1) m l deep left ns (bl_bl s) (n' + 1) 1 (by omega) (by omega) (by omega)
      rw [show (if opOf (signOf (bl s)) < ((1 : Nat) : Int) then opOf (signOf (bl s)) else 0) = 0 by
        rcases opOf_some (w := signOf (bl s)) with h | ⟨h, _⟩
        · rw [h]; rfl
        · rw [if_neg (by omega)]] at this
      exact this
    rw [h0]
    unfold impl_reader_binary.J1
    by_cases hop : opOf (signOf (bl s)) = 0
    · rw [if_pos (.inl hop), hop]; rfl
    · rw [beq_eq_false_iff_ne.2 hop, cond_false, impl_binds_v, bs]
      dsimp only
      by_cases hlt : binds (opOf (signOf (bl s))) < l
      · rw [if_pos (.inr hlt), bt hlt]; rfl
      · obtain ⟨o1, o2, o3⟩ := opOf_some.resolve_left hop
        have hb4 := binds_le (opOf (signOf (bl s)))
        have hdr := op_drop (s := bl s) hop
        rw [if_neg (fun e => e.elim hop hlt), bf hlt, impl_opText_v (by omega) o2, bs, o3]
        dsimp only
        rw [impl_take_v, bl_bl, if_pos rfl, bs, bs]
        dsimp only
        rw [w64 (by omega) (by omega)]
        unfold opS
        have hb := hB ((bl s).drop (signOf (bl s)).length) ns (binds (opOf (signOf (bl s))) + 1) deep (by omega) (by omega) (by omega) (by omega)
        cases ho : ideal k (.bin (binds (opOf (signOf (bl s))) + 1)) ((bl s).drop (signOf (bl s)).length, ns) with
        | none =>
          rw [ho] at hb
          obtain ⟨i, s', ns', e⟩ := hb
          rw [e, bs]
          obtain ⟨j, e⟩ := impl_put_bad (nBin (opOf (signOf (bl s))) left i) s' ns'
          show Ans ((impl_reader_put (s', ns', true, ()) (nBin (opOf (signOf (bl s))) left i)).bind _) none
          rw [e, bs]
          dsimp only
          cases m with
          | zero => omega
          | succ m =>
            rw [impl_reader_binary.L0_eq]
            exact ans_none rfl
        | some p =>
          obtain ⟨i, s', ns'⟩ := p
          rw [ho] at hb
          rw [show _ = some (i, (s', ns', false, ()), ()) from hb, bs]
          have hg := (ideal_grow _ _ _ _ _ (by dsimp only; omega) ho).1.less
          dsimp only at hg ⊢
          have hput := impl_put_v (nBin (opOf (signOf (bl s))) left i) s' ns'
          show Ans ((impl_reader_put (s', ns', false, ()) (nBin (opOf (signOf (bl s))) left i)).bind _) _
          cases hq : putN (nBin (opOf (signOf (bl s))) left i) (s', ns') with
          | none =>
            rw [hq] at hput
            obtain ⟨j, s2, ns2, e⟩ := hput
            rw [e, bs]
            dsimp only
            cases m with
            | zero => omega
            | succ m =>
              rw [impl_reader_binary.L0_eq]
              exact ans_none rfl
          | some q =>
            obtain ⟨j, s2, ns2⟩ := q
            rw [hq] at hput
            have hr := putN_rest hq
            dsimp only at hr
            subst hr
            rw [show _ = some (j, (s2, ns2, false, ()), ()) from hput, bs]
            dsimp only
            exact impl_binary_loop hB n hn l deep m j s2 ns2 (by omega) (by omega) (by omega)

theorem reader_ok : ∀ k : Nat, BinOk k 400 ∧ UnOk k 400
  | 0 => ⟨fun s ns l deep h => by omega, fun s ns deep h => by omega⟩
  | k + 1 => by
    obtain ⟨hB, hU⟩ := reader_ok k
    have un : ∀ (s : Bytes) (ns : List FNode) (deep : Nat), s.length < k + 1 → s.length + deep ≤ 400 → Ans (impl_reader_unary (s, ns, false, ()) deep) (unS (ideal k) (k + 1) (s, ns)) := fun s ns deep hk hd => impl_unary_v hB hU ns deep hk hd
    refine ⟨fun s ns l deep hk hd hl1 hl2 => ?_, un⟩
    refine Ans.of (impl_reader_binary.of (k + 13) _ _ _) ?_
    unfold impl_reader_binary.B ideal
    dsimp only
    have hu := un s ns deep hk hd
    cases ho : unS (ideal k) (k + 1) (s, ns) with
    | none =>
      rw [ho] at hu
      obtain ⟨i, s', ns', e⟩ := hu
      rw [e, bs]
      dsimp only
      rw [impl_reader_binary.L0_eq]
      exact ans_none rfl
    | some p =>
      obtain ⟨i, s', ns'⟩ := p
      rw [ho] at hu
      have hg := (unS_grow (ideal_grow k) (by dsimp only; omega) ho).1.less
      dsimp only at hg
      rw [show _ = some (i, (s', ns', false, ()), ()) from hu, bs]
      dsimp only
      exact impl_binary_loop hB (k + 13) (by omega) l deep (k + 13) i s' ns' (by omega) (by omega) (by omega)

theorem formS_of {ns : List FNode} (h1 : ns.length ≤ 400) (h2 : ∀ x ∈ ns, small x) : formS ns :=
  ⟨by unfold scap; omega, fun j x hx => by
    obtain ⟨a, b⟩ := h2 x (List.mem_of_getElem? hx)
    exact ⟨by unfold scap; omega, by unfold scap; omega⟩⟩
def gotFormula (o : Option (List FNode)) : List FNode × Bool × Unit := match o with | some f => (f, true, ()) | none => ([], false, ())
theorem impl_ReadFormula_v {s : Bytes} (hs : s.length ≤ scap) : impl_ReadFormula s = some (gotFormula (readFormula s)) := by
  refine impl_ReadFormula.of 0 _ _ ?_
  unfold impl_ReadFormula.B readFormula
  rw [impl_isText_v 200 hs, bs]
  dsimp only
  cases hp : plainB s 200 with
  | false => rfl
  | true =>
    have hl := plain_len hp
    rw [Bool.not_true, cond_false, if_pos rfl]
    have hb := (reader_ok (s.length + 1)).1 s [] 1 0 (by omega) (by omega) (by omega) (by omega)
    rw [show ((0 : Nat) : Int) = 0 from rfl] at hb
    cases ho : ideal (s.length + 1) (.bin 1) (s, []) with
    | none =>
      rw [ho] at hb
      obtain ⟨i, s', ns', e⟩ := hb
      rw [e, bs]
      dsimp only
      rw [impl_blanks_v, bs]; rfl
    | some p =>
      obtain ⟨i, s', ns'⟩ := p
      rw [ho] at hb
      obtain ⟨g1, g2⟩ := ideal_small (by omega) ho
      rw [show _ = some (i, (s', ns', false, ()), ()) from hb, bs]
      dsimp only at g1 g2 ⊢
      rw [impl_blanks_v, bs]
      dsimp only
      rw [cond_false]
      by_cases hr : bl s' = []
      · rw [hr, show (([] : List UInt8) == []) = true from rfl, Bool.not_true, cond_false, impl_FormulaOk_v (formS_of (by omega) g2), bs]
        dsimp only
        cases hf : formulaOk ns' with
        | false => rw [if_neg (fun e => by cases e.2)]; rfl
        | true => rw [if_pos ⟨rfl, rfl⟩]; rfl
      · rw [if_neg (fun e => hr e.1), show (bl s' == []) = false by simpa using hr]; rfl

end Go.Proofs.YtmgeeanbecmkbaaGreatDoor.Den
