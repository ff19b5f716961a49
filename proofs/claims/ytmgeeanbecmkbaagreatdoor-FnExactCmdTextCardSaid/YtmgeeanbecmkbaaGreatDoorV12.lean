/- V12: formulas read by the specification. -/
import Derived.Test.YtmgeeanbecmkbaaGreatDoorV11
namespace Go.Proofs.YtmgeeanbecmkbaaGreatDoor.Den
open Go
set_option linter.unusedSimpArgs false

/-! Operations of a level. -/
def order : List Int := [7, 9, 11, 6, 8, 10, 1, 2, 3, 4, 5]
def opRes (level : Int) (w : Bytes) : Option Int := if opOf w = 0 ∨ binds (opOf w) ≠ level then none else some (opOf w)
def ordB (level : Int) (c : UInt8) (e1 e2 : Bool) : Bool := (order.find? fun op => binds op == level && hp c e1 e2 (opText op)) == opRes level (sgn c e1 e2)
def ordAll (c : UInt8) : Bool := ([1, 2, 3, 4] : List Int).all fun l => (ordB l c true true && ordB l c true false) && (ordB l c false true && ordB l c false false)
theorem ordAll_v : ((List.range 256).all fun n => ordAll (UInt8.ofNat n)) = true := by kernel_rfl
theorem ord_find {level : Int} (h1 : 1 ≤ level) (h2 : level ≤ 4) (c : UInt8) (e1 e2 : Bool) : (order.find? fun op => binds op == level && hp c e1 e2 (opText op)) = opRes level (sgn c e1 e2) := by
  have k1 := bytes_all (p := ordAll) ordAll_v c
  have hl : level ∈ ([1, 2, 3, 4] : List Int) := by simp only [List.mem_cons, List.not_mem_nil, or_false]; omega
  have k2 := List.all_eq_true.1 k1 level hl
  have k3 : ordB level c e1 e2 = true := by
    simp only [Bool.and_eq_true] at k2
    obtain ⟨⟨a, b⟩, c', d⟩ := k2
    cases e1 <;> cases e2 <;> assumption
  exact beq_iff_eq.1 k3
theorem opText_sign {op : Int} (h : op ∈ order) : opText op ∈ signs := by
  have : (order.all fun op => signs.contains (opText op)) = true := by kernel_rfl
  have := List.all_eq_true.1 this op h
  exact List.contains_iff_mem.1 this
theorem order_find {level : Int} (h1 : 1 ≤ level) (h2 : level ≤ 4) (w : Bytes) : (order.find? fun op => binds op == level && Lib.hasPrefix w (opText op)) = opRes level (signOf w) := by
  cases w with
  | nil =>
    have hl : level = 1 ∨ level = 2 ∨ level = 3 ∨ level = 4 := by omega
    rcases hl with rfl | rfl | rfl | rfl <;> decide
  | cons c r =>
    rw [find_congr' (q := fun op => binds op == level && hp c (r.head? == some 62) (r.head? == some 61) (opText op)) fun op ho => by rw [hp_eq (opText_sign ho)], ord_find h1 h2]
    rfl
theorem order_in : (order.all fun op => decide (1 ≤ op) && decide (op ≤ 11)) = true := by decide
theorem order_mem {op : Int} (h : op ∈ order) : 1 ≤ op ∧ op ≤ 11 := by
  have := List.all_eq_true.1 order_in op h
  rw [Bool.and_eq_true, decide_eq_true_eq, decide_eq_true_eq] at this
  exact this
theorem bl_at {s w : Bytes} {q : Nat} (h : s.drop q = bl w) : bl (s.drop q) = bl w := by rw [h, bl_bl]

theorem spec_op_loop (k : Nat) {s : Bytes} (hs : s.length ≤ 200) (level : Int) (out : List FNode) (q : Nat) (w : Bytes) : ∀ (m i p : Nat) (r : List Int), order.drop i = r → r.length < m → p ≤ s.length → ba s p = q → bl (s.drop p) = w →
    spec_l3Rd_op.L0 k m level order (i : Int) s (p : Int) false out = match r.find? (fun op => binds op == level && Lib.hasPrefix w (opText op)) with
      | some op => some (op, (s, ((q + (opText op).length : Nat) : Int), false, out, ()), ())
      | none => some (0, (s, (((if r.any (fun op => binds op == level) then q else p) : Nat) : Int), false, out, ()), ())
  | 0, _, _, _, _, h, _, _, _ => by omega
  | m + 1, i, p, [], h, _, _, _, _ => by
    have := drop_nil h
    rw [spec_l3Rd_op.L0_eq, bf (by omega)]; rfl
  | m + 1, i, p, op :: r, h, hm, hp, hq, hw => by
    obtain ⟨h1, h2, h3⟩ := get_drop h
    obtain ⟨o1, o2⟩ := order_mem (List.mem_of_getElem? h1)
    obtain ⟨b1, b2, b3⟩ := ba_drop hp
    have hlo : order.length = 11 := rfl
    simp only [List.length_cons] at hm
    rw [spec_l3Rd_op.L0_eq, bt (by omega)]
    simp only [idx_get h1]
    rw [spec_l3Level_v o1, bs, List.find?_cons]
    dsimp only
    cases hb : binds op == level with
    | false =>
      rw [cond_false, Bool.false_and, w64n (by omega), spec_op_loop k hs level out q w m (i + 1) p r h2 (by omega) hp hq hw, List.any_cons, hb, Bool.false_or]
    | true =>
      have := opText_len op
      rw [cond_true, Bool.true_and, spec_l3Sign_v (by omega) o2, bs, spec_is_v hs hp _ (by dsimp only; omega), bs, hw, hq]
      dsimp only
      cases hpre : Lib.hasPrefix w (opText op) with
      | true => rfl
      | false =>
        rw [if_neg (by simp)]
        dsimp only
        rw [cond_false, w64n (by omega), spec_op_loop k hs level out q w m (i + 1) q r h2 (by omega) (by omega) (by rw [← hq, ba_ba hp]) (by rw [← hq, b1, bl_bl, hw]), List.any_cons, hb, Bool.true_or, if_pos rfl, ite_self]
theorem spec_op_v {s : Bytes} (hs : s.length ≤ 200) {a : Nat} (ha : a ≤ s.length) (level : Int) (h1 : 1 ≤ level) (h2 : level ≤ 4) (out : List FNode) :
    spec_l3Rd_op (s, (a : Int), false, out, ()) level = some (if opOf (signOf (bl (s.drop a))) = 0 ∨ binds (opOf (signOf (bl (s.drop a)))) ≠ level then (0, (s, (ba s a : Int), false, out, ()), ())
      else (opOf (signOf (bl (s.drop a))), (s, ((ba s a + (signOf (bl (s.drop a))).length : Nat) : Int), false, out, ()), ())) := by
  refine spec_l3Rd_op.of 12 _ _ _ ?_
  unfold spec_l3Rd_op.B
  refine (spec_op_loop 12 hs level out (ba s a) (bl (s.drop a)) 12 0 a order rfl (by decide) ha rfl rfl).trans ?_
  rw [order_find h1 h2]
  unfold opRes
  by_cases h : opOf (signOf (bl (s.drop a))) = 0 ∨ binds (opOf (signOf (bl (s.drop a)))) ≠ level
  · rw [if_pos h, if_pos h]
    have hl : level = 1 ∨ level = 2 ∨ level = 3 ∨ level = 4 := by omega
    have : (order.any fun op => binds op == level) = true := by rcases hl with rfl | rfl | rfl | rfl <;> decide
    rw [this, if_pos rfl]
  · rw [if_neg h, if_neg h]
    rcases opOf_some (w := signOf (bl (s.drop a))) with e | ⟨_, _, e⟩
    · exact absurd (.inl e) h
    · dsimp only; rw [e]

/-! Texts and errors. -/
theorem c34 {c : UInt8} (h : ¬ c = 34) : ((c.toNat : Int) != 34) = true := by
  rw [bne_iff_ne]; intro e; exact h (by rw [← UInt8.toNat_inj]; exact Int.ofNat.inj e)
theorem spec_text_loop (k : Nat) {s : Bytes} (hs : s.length ≤ 200) (p d : Nat) {ns : List FNode} (hn : AllOk ns) : ∀ (m a : Nat) (o r : Bytes), s.drop a = r → (a ≤ s.length ∧ p ≤ a) → r.length < m → ns.length + d + 1 ≤ a → o.length + r.length ≤ 900 →
    SAns s p d (spec_l3Rd_text.L0 k m o s (a : Int) false ns) (match quoted r with | none => none | some (t, q) => putN (nConst (2, 0, o ++ t, ())) (q, ns))
  | 0, _, _, _, _, _, h, _, _ => by omega
  | m + 1, a, o, [], h, ha, _, hd, _ => by
    have := drop_nil h
    rw [spec_l3Rd_text.L0_eq, bf (by omega)]
    exact SAns.bad 0 a ns rfl (by omega) (by omega) (by omega) Doomed.none
  | m + 1, a, o, c :: r, h, ha, hm, hd, ho => by
    obtain ⟨h1, h2, h3⟩ := get_drop h
    simp only [List.length_cons] at hm ho
    rw [spec_l3Rd_text.L0_eq, bt (by omega), idx_get h1]
    by_cases hc : c = 34
    · subst hc
      rw [show (((34 : UInt8).toNat : Int) != 34) = false from rfl, cond_false, w64n (by omega)]
      cases r with
      | nil =>
        have := drop_nil h2
        rw [bt (by omega)]
        show SAns s p d _ (putN (nConst (2, 0, o ++ [], ())) ([], ns))
        rw [List.append_nil]
        refine (spec_add_v (by omega) (by omega) hs hn (by omega) (small_const (by dsimp only; omega)) ?_).ret
        rw [h2]
      | cons e r =>
        obtain ⟨g1, g2, g3⟩ := get_drop h2
        simp only [List.length_cons] at hm ho
        rw [bf (by omega), idx_get g1]
        by_cases he : e = 34
        · subst he
          rw [show (((34 : UInt8).toNat : Int) != 34) = false from rfl, cond_false, bt (by unfold scap; simp only [List.length_cons, List.length_nil]; omega), w64n (by omega)]
          have := spec_text_loop k hs p d hn m (a + 1 + 1) (o ++ [34]) r g2 (by omega) (by omega) (by omega) (by simp only [List.length_append, List.length_cons, List.length_nil]; omega)
          show SAns s p d _ (match (quoted r).map fun p => ((34 : UInt8) :: p.1, p.2) with | none => none | some (t, q) => putN (nConst (2, 0, o ++ t, ())) (q, ns))
          cases hq : quoted r with
          | none => rw [hq] at this; exact this
          | some t =>
            rw [hq] at this
            show SAns s p d _ (putN (nConst (2, 0, o ++ 34 :: t.1, ())) (t.2, ns))
            rw [show o ++ 34 :: t.1 = o ++ [34] ++ t.1 by simp]
            exact this
        · rw [c34 he, cond_true]
          have : quoted (34 :: e :: r) = some ([], e :: r) := by rw [quoted, if_pos rfl, if_neg he]
          rw [this]
          show SAns s p d _ (putN (nConst (2, 0, o ++ [], ())) (e :: r, ns))
          rw [List.append_nil]
          refine (spec_add_v (by omega) (by omega) hs hn (by omega) (small_const (by dsimp only; omega)) ?_).ret
          rw [h2]
    · rw [c34 hc, cond_true, w64n (by omega), cut_at (by omega) (by omega), take_drop_one h, bt (by unfold scap; simp only [List.length_cons, List.length_nil]; omega), quoted_cons hc]
      have := spec_text_loop k hs p d hn m (a + 1) (o ++ [c]) r h2 (by omega) (by omega) (by omega) (by simp only [List.length_append, List.length_cons, List.length_nil]; omega)
      cases hq : quoted r with
      | none => rw [hq] at this; exact this
      | some t =>
        rw [hq] at this
        show SAns s p d _ (putN (nConst (2, 0, o ++ c :: t.1, ())) (t.2, ns))
        rw [show o ++ c :: t.1 = o ++ [c] ++ t.1 by simp]
        exact this
theorem spec_text_v {s : Bytes} (hs : s.length ≤ 200) {p d : Nat} {ns : List FNode} (hn : AllOk ns) {a : Nat} (ha : a ≤ s.length) (hp : p ≤ a) (hd : ns.length + d + 1 ≤ a) : SAns s p d (spec_l3Rd_text (s, (a : Int), false, ns, ())) (match quoted (s.drop a) with | none => none | some (t, q) => putN (nConst (2, 0, t, ())) (q, ns)) := by
  have := spec_text_loop (s.length + 1) hs p d hn (s.length + 1) a [] (s.drop a) rfl ⟨ha, hp⟩ (by rw [List.length_drop]; omega) hd (by simp only [List.length_nil, List.length_drop]; omega)
  simp only [List.nil_append] at this
  exact SAns.of (spec_l3Rd_text.of (s.length + 1) _) this

theorem spec_err_loop (n : Nat) {s : Bytes} (hs : s.length ≤ 200) (p d : Nat) {ns : List FNode} (hn : AllOk ns) {a : Nat} (ha : a ≤ s.length) (hp : p ≤ a) (hd : ns.length + d + 1 ≤ a) : ∀ (m j : Nat) (r : List Nat), (List.range 5).drop j = r → r.length < m →
    SAns s p d (spec_l3Rd_one.L0 n m ((j + 1 : Nat) : Int) s (a : Int) false ns) (match (r.find? fun k : Nat => Lib.hasPrefix (35 :: s.drop a) (errName ((k : Int) + 1))).map fun k : Nat => ((k : Int) + 1, (35 :: s.drop a).drop (errName ((k : Int) + 1)).length) with
      | none => none
      | some (e, q) => putN (nConst (4, e, [], ())) (q, ns))
  | 0, _, _, _, h => by omega
  | m + 1, j, [], h, _ => by
    have := drop_nil h
    rw [List.length_range] at this
    rw [spec_l3Rd_one.L0_eq, bf (by omega)]
    exact SAns.bad 0 a ns rfl (by omega) (by omega) (by omega) Doomed.none
  | m + 1, j, c :: r, h, hm => by
    obtain ⟨h1, h2, h3⟩ := get_drop h
    rw [List.length_range] at h3
    rw [List.getElem?_range h3] at h1
    injection h1 with h1
    subst h1
    simp only [List.length_cons] at hm
    have hlen := errName_len ((j + 1 : Nat) : Int)
    have rcc := spec_err_loop n hs p d hn ha hp hd m (j + 1) r h2 (by omega)
    rw [spec_l3Rd_one.L0_eq, bt (by omega), spec_l2Name_v (by omega), bs, List.find?_cons, show ((j : Int) + 1) = ((j + 1 : Nat) : Int) from rfl]
    dsimp only
    obtain ⟨q, hq, _⟩ := errName_cases (n := j + 1) (by omega) (by omega)
    rw [hq] at hlen ⊢
    simp only [List.length_cons] at hlen
    have c1 := cut_at (Out := Int × l3Rd × Unit) (n := (35 :: q : Bytes).length) (a := 1) (b := (35 :: q : Bytes).length) (by simp) (Nat.le_refl _) (k := fun l12 h13 => bif (decide ((IntKind.wrap .i64 ((a : Int) + ((((35 :: q : Bytes).take h13).drop l12).length : Int))) ≤ (s.length : Int))) then (cutC s.length (a : Int) (IntKind.wrap .i64 ((a : Int) + ((((35 :: q : Bytes).take h13).drop l12).length : Int))) fun l14 h15 => bif (((s.take h15).drop l14) == (((35 :: q : Bytes).take h13).drop l12)) then ((spec_l2Error ((j + 1 : Nat) : Int)).bind fun q16 => (spec_l3Rd_add (s, (IntKind.wrap .i64 ((a : Int) + ((((35 :: q : Bytes).take h13).drop l12).length : Int))), false, ns, ()) ((1 : Int), (0 : Int), q16.1, (((0 : Int), (0 : Int), ()), false, false, ()), (((0 : Int), (0 : Int), ()), false, false, ()), [], ())).bind fun q17 => some (q17.1, q17.2.1, ())) else spec_l3Rd_one.L0 n m (IntKind.wrap .i64 (((j + 1 : Nat) : Int) + (1 : Int))) s (a : Int) false ns) else spec_l3Rd_one.L0 n m (IntKind.wrap .i64 (((j + 1 : Nat) : Int) + (1 : Int))) s (a : Int) false ns)
    rw [show ((1 : Nat) : Int) = 1 from rfl] at c1
    rw [c1, drop_take_all, show (35 :: q : Bytes).drop 1 = q from rfl]
    have hpre : Lib.hasPrefix (35 :: s.drop a) (35 :: q) = Lib.hasPrefix (s.drop a) q := by
      show ((35 : UInt8) == 35 && q.isPrefixOf (s.drop a)) = _
      rfl
    rw [hpre, prefix_take, w64 (by omega) (by omega), List.length_drop]
    by_cases hl : a + q.length ≤ s.length
    · rw [bt (by omega), show (a : Int) + (q.length : Int) = ((a + q.length : Nat) : Int) by omega, cut_at (by omega) hl, decide_eq_true (by omega), Bool.true_and, List.drop_take, Nat.add_sub_cancel_left]
      cases hb : (s.drop a).take q.length == q with
      | true =>
        rw [cond_true, spec_l2Error_v, bs]
        dsimp only [Option.map_some]
        rw [show errName ((j : Int) + 1) = 35 :: q from hq]
        refine (spec_add_v (s := s) (a := a + q.length) (by omega) (by omega) hs hn (by omega) (small_const (Nat.zero_le _)) ?_).ret
        rw [List.length_cons, List.drop_succ_cons, List.drop_drop]
      | false =>
        rw [cond_false, w64n (by omega)]
        exact rcc
    · rw [bf (by omega), decide_eq_false (by omega), Bool.false_and, w64n (by omega)]
      exact rcc

end Go.Proofs.YtmgeeanbecmkbaaGreatDoor.Den
