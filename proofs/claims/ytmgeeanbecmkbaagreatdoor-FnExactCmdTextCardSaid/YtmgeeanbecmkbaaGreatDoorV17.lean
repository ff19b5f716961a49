/- V17: the law of the texts of commands. -/
import Derived.Test.YtmgeeanbecmkbaaGreatDoorV16
namespace Go.Proofs.YtmgeeanbecmkbaaGreatDoor.Den
open Go
set_option linter.unusedSimpArgs false

theorem nameOk_len {s : Bytes} (h : nameOk s = true) : s.length ≤ 12 := by
  unfold nameOk at h
  simp only [Bool.and_eq_true, decide_eq_true_eq] at h
  exact h.2.1

theorem cmdOk_cases {c : Cmd} (h : cmdOk c = true) : (c.1 = 1 ∧ c.2.1.length ≤ 12 ∧ 1 ≤ c.2.2.2.1 ∧ c.2.2.2.1 ≤ 1000000000 ∧ macroOk c.2.2.2.2.1 = true) ∨ (c.1 = 2 ∧ c.2.1.length ≤ 12 ∧ 1 ≤ c.2.2.2.1 ∧ c.2.2.2.1 ≤ 1000000000) ∨ (c.1 = 3 ∧ c.2.1.length ≤ 12 ∧ c.2.2.1.length ≤ 12) ∨ c.1 = 4 := by
  unfold cmdOk at h
  by_cases h1 : c.1 = 1
  · rw [h1] at h
    simp only [beq_self_eq_true, cond_true, Bool.and_eq_true] at h
    have := inB_iff.1 h.2.2.1
    exact .inl ⟨h1, nameOk_len h.1, this.1, this.2, h.2.2.2⟩
  · rw [beq_eq_false_iff_ne.2 h1, cond_false] at h
    by_cases h2 : c.1 = 2
    · rw [h2] at h
      simp only [beq_self_eq_true, cond_true, Bool.and_eq_true] at h
      have := inB_iff.1 h.2.2.1
      exact .inr (.inl ⟨h2, nameOk_len h.1, this.1, this.2⟩)
    · rw [beq_eq_false_iff_ne.2 h2, cond_false] at h
      by_cases h3 : c.1 = 3
      · rw [h3] at h
        simp only [beq_self_eq_true, cond_true, Bool.and_eq_true] at h
        exact .inr (.inr (.inl ⟨h3, nameOk_len h.1, nameOk_len h.2.1⟩))
      · rw [beq_eq_false_iff_ne.2 h3, cond_false] at h
        by_cases h4 : c.1 = 4
        · exact .inr (.inr (.inr h4))
        · rw [beq_eq_false_iff_ne.2 h4, cond_false] at h; cases h

theorem impl_CmdText_v {c : Cmd} (h : cmdS c) : impl_CmdText c = some (cmdText c, ()) := by
  refine impl_CmdText.of 0 _ _ ?_
  unfold impl_CmdText.B cmdText
  rw [impl_isCmd_v h, bs]
  cases hok : cmdOk c with
  | false => rw [Bool.not_false, cond_true, cond_false]
  | true =>
    rw [Bool.not_true, cond_false, cond_true]
    rcases cmdOk_cases hok with ⟨e, n1, b1, b2, hm⟩ | ⟨e, n1, b1, b2⟩ | ⟨e, n1, n2⟩ | e
    · have hdl := dec_len (n := c.2.2.2.1) (by omega) (by omega)
      obtain ⟨m1, m2⟩ := macroOk_B hm
      have hml := macroText_len m2
      rw [show (c.1 == 1) = true by rw [e]; rfl, cond_true, cond_true]
      iterate 2 rw [bt (by unfold scap; simp only [List.length_append, List.length_cons, List.length_nil]; omega)]
      rw [impl_decimal_v (by omega) (by omega), bs]
      iterate 2 rw [bt (by unfold scap; simp only [List.length_append, List.length_cons, List.length_nil]; omega)]
      rw [impl_macroText_v hm, bs, bt (by unfold scap; simp only [List.length_append, List.length_cons, List.length_nil]; omega)]
    · have hdl := dec_len (n := c.2.2.2.1) (by omega) (by omega)
      rw [show (c.1 == 1) = false by rw [e]; rfl, show (c.1 == 2) = true by rw [e]; rfl, cond_false, cond_false, cond_true, cond_true]
      iterate 2 rw [bt (by unfold scap; simp only [List.length_append, List.length_cons, List.length_nil]; omega)]
      rw [impl_decimal_v (by omega) (by omega), bs]
      iterate 2 rw [bt (by unfold scap; simp only [List.length_append, List.length_cons, List.length_nil]; omega)]
    · rw [show (c.1 == 1) = false by rw [e]; rfl, show (c.1 == 2) = false by rw [e]; rfl, show (c.1 == 3) = true by rw [e]; rfl, cond_false, cond_false, cond_false, cond_false, cond_true, cond_true]
      iterate 4 rw [bt (by unfold scap; simp only [List.length_append, List.length_cons, List.length_nil]; omega)]
    · rw [e]; rfl
theorem spec_CmdText_v {c : Cmd} (h : cmdS c) : spec_CmdText c = some (cmdText c, ()) := by
  refine spec_CmdText.of 0 _ _ ?_
  unfold spec_CmdText.B cmdText
  rw [spec_l14CmdOk_v h, bs]
  cases hok : cmdOk c with
  | false => rw [Bool.not_false, cond_true, cond_false]
  | true =>
    rw [Bool.not_true, cond_false, cond_true]
    rcases cmdOk_cases hok with ⟨e, n1, b1, b2, hm⟩ | ⟨e, n1, b1, b2⟩ | ⟨e, n1, n2⟩ | e
    · have hdl := dec_len (n := c.2.2.2.1) (by omega) (by omega)
      obtain ⟨m1, m2⟩ := macroOk_B hm
      have hml := macroText_len m2
      rw [show (c.1 == 1) = true by rw [e]; rfl, cond_true, cond_true]
      iterate 2 rw [bt (by unfold scap; simp only [List.length_append, List.length_cons, List.length_nil]; omega)]
      rw [spec_l1Dec_v (by omega) (by omega), bs]
      iterate 2 rw [bt (by unfold scap; simp only [List.length_append, List.length_cons, List.length_nil]; omega)]
      rw [spec_MacroText_v h.stmts, hm, cond_true, bs, bt (by unfold scap; simp only [List.length_append, List.length_cons, List.length_nil]; omega)]
    · have hdl := dec_len (n := c.2.2.2.1) (by omega) (by omega)
      rw [show (c.1 == 1) = false by rw [e]; rfl, show (c.1 == 2) = true by rw [e]; rfl, cond_false, cond_false, cond_true, cond_true]
      iterate 2 rw [bt (by unfold scap; simp only [List.length_append, List.length_cons, List.length_nil]; omega)]
      rw [spec_l1Dec_v (by omega) (by omega), bs]
      iterate 2 rw [bt (by unfold scap; simp only [List.length_append, List.length_cons, List.length_nil]; omega)]
    · rw [show (c.1 == 1) = false by rw [e]; rfl, show (c.1 == 2) = false by rw [e]; rfl, show (c.1 == 3) = true by rw [e]; rfl, cond_false, cond_false, cond_false, cond_false, cond_true, cond_true]
      iterate 4 rw [bt (by unfold scap; simp only [List.length_append, List.length_cons, List.length_nil]; omega)]
    · rw [e]; rfl

/-! The law's own helpers. -/
theorem laws_toRef_v (r : Ref) : laws_toRef r = some (r, ()) := laws_toRef.of 0 r _ rfl
theorem laws_toStmt_v (x : Stmt) : laws_toStmt x = some (x, ()) := laws_toStmt.of 0 x _ (by unfold laws_toStmt.B; rw [laws_toRef_v]; rfl)
theorem laws_toStmtS_loop (k : Nat) {m : List Stmt} (hl : m.length ≤ 1048576) : ∀ (f i : Nat) (t : List Stmt), t.length = m.length → t.take i = m.take i → i ≤ m.length → m.length < f + i → laws_toStmtS.L0 k f m (i : Int) t = some (m, ())
  | 0, i, _, _, _, h, h2 => by omega
  | f + 1, i, t, h1, h2, h3, h4 => by
    rw [laws_toStmtS.L0_eq]
    by_cases hi : i < m.length
    · rw [bt (by omega), idx_at hi, laws_toStmt_v, bs, decide_eq_true (show (0 : Int) ≤ (i : Int) by omega), decide_eq_true (show (i : Int) < (t.length : Int) by omega), Bool.and_true, cond_true, w64n (by omega), Int.toNat_natCast]
      refine laws_toStmtS_loop k hl f (i + 1) _ (by rw [List.length_set]; exact h1) ?_ (by omega) (by omega)
      rw [List.take_add_one, List.take_set_of_le (Nat.le_refl i), List.getElem?_set, List.take_add_one, h2]
      rw [if_pos rfl, if_pos (by omega), List.getElem?_eq_getElem hi]
    · rw [bf (by omega)]
      unfold laws_toStmtS.J0
      rw [List.take_of_length_le (by omega), List.take_of_length_le (by omega)] at h2
      rw [h2]
theorem laws_toStmtS_v {m : List Stmt} (hl : m.length ≤ 1048576) : laws_toStmtS m = some (m, ()) := by
  refine laws_toStmtS.of (m.length + 1) _ _ ?_
  unfold laws_toStmtS.B
  rw [decide_eq_true (show (0 : Int) ≤ (m.length : Int) by omega), decide_eq_true (show (m.length : Int) ≤ (cap : Int) by unfold cap; omega), decide_eq_true rfl, Bool.and_true, Bool.and_true, cond_true, Int.toNat_natCast]
  exact laws_toStmtS_loop _ hl (m.length + 1) 0 _ (by rw [List.length_replicate]) rfl (Nat.zero_le _) (by omega)
theorem laws_toCmd_v {c : Cmd} (hl : c.2.2.2.2.1.length ≤ 1048576) : laws_toCmd c = some (c, ()) := laws_toCmd.of 0 c _ (by unfold laws_toCmd.B; rw [laws_toStmtS_v hl]; rfl)

theorem laws_eqRef_v (r : Ref) : laws_eqRef r r = some (true, ()) := laws_eqRef.of 0 r r _ (by unfold laws_eqRef.B; simp only [bne_self_eq_false, cond_false])
theorem laws_eqStmt_v (x : Stmt) : laws_eqStmt x x = some (true, ()) := laws_eqStmt.of 0 x x _ (by unfold laws_eqStmt.B; rw [laws_eqRef_v, bs]; simp only [bne_self_eq_false, beq_self_eq_true, Bool.not_true, cond_false])
theorem laws_eqStmtS_loop (k : Nat) {m : List Stmt} (hl : m.length ≤ lim) : ∀ (f i : Nat), i ≤ m.length → m.length < f + i → laws_eqStmtS.L0 k f m m (i : Int) = some (true, ())
  | 0, i, h1, h => by omega
  | f + 1, i, h1, h => by
    unfold lim at hl
    rw [laws_eqStmtS.L0_eq]
    by_cases hi : i < m.length
    · rw [bt (by omega), idx_at hi, idx_at hi, laws_eqStmt_v, bs, w64n (by omega)]
      exact laws_eqStmtS_loop k hl f (i + 1) (by omega) (by omega)
    · rw [bf (by omega)]; rfl
theorem laws_eqStmtS_v {m : List Stmt} (hl : m.length ≤ lim) : laws_eqStmtS m m = some (true, ()) := by
  refine laws_eqStmtS.of (m.length + 1) _ _ _ ?_
  unfold laws_eqStmtS.B
  rw [bne_self_eq_false, cond_false]
  exact laws_eqStmtS_loop _ hl (m.length + 1) 0 (Nat.zero_le _) (by omega)
theorem laws_eqCmd_v {c : Cmd} (h : cmdS c) : laws_eqCmd c c = some (true, ()) := by
  refine laws_eqCmd.of 0 _ _ _ ?_
  unfold laws_eqCmd.B
  rw [laws_eqStmtS_v h.stmts.1, bs]
  simp only [bne_self_eq_false, beq_self_eq_true, Bool.not_true, cond_false]

theorem laws_szStmt_v {x : Stmt} (hx : x.2.2.1.length ≤ lim) {l : Int} (h0 : 0 ≤ l) (h1 : l ≤ 1048576) : laws_szStmt x l = some (if l - (x.2.2.1.length : Int) < 0 then -1 else l - (x.2.2.1.length : Int), ()) := by
  unfold lim at hx
  refine laws_szStmt.of 0 _ _ _ ?_
  unfold laws_szStmt.B
  rw [w64 (by omega) (by omega)]
  by_cases h : l - (x.2.2.1.length : Int) < 0
  · rw [bt h, if_pos h]
  · rw [bf h, if_neg h]
theorem laws_szStmtS_loop (k : Nat) {m : List Stmt} (hm : macroS m) : ∀ (f i : Nat) (l : Int), 0 ≤ l → l ≤ 1048576 → i ≤ m.length → m.length < f + i → ∃ r, laws_szStmtS.L0 k f m l (i : Int) = some (r, ())
  | 0, i, _, _, _, h1, h => by omega
  | f + 1, i, l, h0, h1, h2, h => by
    have hml := hm.1
    unfold lim at hml
    rw [laws_szStmtS.L0_eq]
    by_cases hi : i < m.length
    · rw [bt (by omega), idx_at hi, laws_szStmt_v (hm.2 _ (List.getElem_mem hi)) h0 h1, bs, w64n (by omega)]
      by_cases hn : l - (m[i].2.2.1.length : Int) < 0
      · rw [if_pos hn]; exact ⟨-1, rfl⟩
      · rw [if_neg hn, bf hn]
        exact laws_szStmtS_loop k hm f (i + 1) _ (by omega) (by omega) (by omega) (by omega)
    · rw [bf (by omega)]; exact ⟨l, rfl⟩
theorem laws_szStmtS_v {m : List Stmt} (hm : macroS m) {l : Int} (h0 : 0 ≤ l) (h1 : l ≤ 1048576) : ∃ r, laws_szStmtS m l = some (r, ()) ∧ (0 ≤ r → m.length ≤ 1048576) := by
  have hml := hm.1
  unfold lim at hml
  by_cases h : l - (m.length : Int) < 0
  · refine ⟨-1, laws_szStmtS.of 0 _ _ _ ?_, fun e => by omega⟩
    unfold laws_szStmtS.B
    rw [w64 (by omega) (by omega), bt h]
  · obtain ⟨r, hr⟩ := laws_szStmtS_loop (m.length + 1) hm (m.length + 1) 0 (l - (m.length : Int)) (by omega) (by omega) (Nat.zero_le _) (by omega)
    refine ⟨r, laws_szStmtS.of (m.length + 1) _ _ _ ?_, fun e => by omega⟩
    unfold laws_szStmtS.B
    rw [w64 (by omega) (by omega), bf h]
    exact hr
theorem laws_szCmd_v {c : Cmd} (h : cmdS c) : ∃ r, laws_szCmd c 1048576 = some (r, ()) ∧ (0 ≤ r → c.2.2.2.2.1.length ≤ 1048576) := by
  have n1 := h.name
  have n2 := h.other
  unfold lim at n1 n2
  have hB : ∀ r, laws_szCmd.B 0 c 1048576 = some (r, ()) → laws_szCmd c 1048576 = some (r, ()) := fun r e => laws_szCmd.of 0 _ _ _ e
  unfold laws_szCmd.B at hB
  rw [w64 (x := 1048576 - (c.2.1.length : Int)) (by omega) (by omega), w64 (x := 1048576 - (c.2.1.length : Int) - (c.2.2.1.length : Int)) (by omega) (by omega)] at hB
  by_cases h1 : 1048576 - (c.2.1.length : Int) < 0
  · exact ⟨-1, hB _ (by rw [bt h1]), fun e => by omega⟩
  · by_cases h2 : 1048576 - (c.2.1.length : Int) - (c.2.2.1.length : Int) < 0
    · exact ⟨-1, hB _ (by rw [bf h1, bt h2]), fun e => by omega⟩
    · obtain ⟨r, hr, hr2⟩ := laws_szStmtS_v h.stmts (l := 1048576 - (c.2.1.length : Int) - (c.2.2.1.length : Int)) (by omega) (by omega)
      by_cases h3 : r < 0
      · exact ⟨-1, hB _ (by rw [bf h1, bf h2, hr, bs, bt h3]), fun e => by omega⟩
      · exact ⟨r, hB _ (by rw [bf h1, bf h2, hr, bs, bf h3]), hr2⟩

/-- THE LAW: true, whatever the command. -/
theorem law_v {c : Cmd} (h : cmdS c) : laws_FnExactCmdText c = some (true, ()) := by
  refine laws_FnExactCmdText.of 0 _ _ ?_
  unfold laws_FnExactCmdText.B
  obtain ⟨r, hr, hr2⟩ := laws_szCmd_v h
  rw [hr, bs]
  dsimp only
  by_cases h0 : r < 0
  · rw [bt h0]
  · have hl := hr2 (by omega)
    rw [bf h0, laws_toCmd_v hl, bs]
    dsimp only
    rw [spec_CmdText_v h, bs, bs]
    dsimp only
    rw [impl_CmdText_v h, bs]
    dsimp only
    rw [beq_self_eq_true, Bool.not_true, cond_false, bs]
    dsimp only
    rw [laws_eqCmd_v h, bs]
    rfl

end Go.Proofs.YtmgeeanbecmkbaaGreatDoor.Den
