/- Pok: each function of the library is as it is said to be: out of the shelf's contracts at this program. -/
import Derived.Test.YtmgeeanbecmkbaaGreatDoorPok0
import Derived.Test.YtmgeeanbecmkbaaGreatDoorLay2
import Derived.Test.YtmgeeanbecmkbaaGreatDoorA3
namespace Go.Proofs.YtmgeeanbecmkbaaGreatDoor.Den
open Go Go.RowKit Go.Proofs
set_option linter.unusedVariables false

abbrev pS (T : TypeId) : Par := ⟨false, T, .str, [], false⟩
abbrev pI (T : TypeId) : Par := ⟨false, T, .int .i64, [], false⟩

theorem okHasPrefix {T U : TypeId} (xs : List Arg) (r : (Sig.out ⟨[pS T, pS U], [.bool]⟩).D) (h : pHasPrefix xs = some r) : CallOKs Tryz.prog cfg ⟨[pS T, pS U], [.bool]⟩ 130 xs r := by
  unfold pHasPrefix at h
  split at h
  · rename_i s p
    injection h with h
    subst h
    refine okPure rfl (fun R w vs io ha => (args_ss ha).2) fun R w vs ha hg hlt => ?_
    rw [(args_ss ha).1]
    refine (Tryz.strings_HasPrefix ⟨s.toArray⟩ ⟨p.toArray⟩ w).mono ?_
    rintro e w' ⟨rfl, rfl⟩
    exact ⟨_, rfl, Below.refl _ _, res_bool _, rfl⟩
  · cases h
theorem okTrimPrefix {T U : TypeId} (xs : List Arg) (r : (Sig.out ⟨[pS T, pS U], [.str]⟩).D) (h : pTrimPrefix xs = some r) : CallOKs Tryz.prog cfg ⟨[pS T, pS U], [.str]⟩ 128 xs r := by
  unfold pTrimPrefix at h
  split at h
  · rename_i s p
    injection h with h
    subst h
    refine okPure rfl (fun R w vs io ha => (args_ss ha).2) fun R w vs ha hg hlt => ?_
    rw [(args_ss ha).1]
    refine (Tryz.strings_TrimPrefix ⟨s.toArray⟩ ⟨p.toArray⟩ w).mono ?_
    rintro e w' ⟨rfl, rfl⟩
    exact ⟨_, rfl, Below.refl _ _, res_str _, rfl⟩
  · cases h
theorem okCutPrefix {T U : TypeId} (xs : List Arg) (r : (Sig.out ⟨[pS T, pS U], [.str, .bool]⟩).D) (h : pCutPrefix xs = some r) : CallOKs Tryz.prog cfg ⟨[pS T, pS U], [.str, .bool]⟩ 99 xs r := by
  unfold pCutPrefix at h
  split at h
  · rename_i s p
    injection h with h
    subst h
    refine okPure rfl (fun R w vs io ha => (args_ss ha).2) fun R w vs ha hg hlt => ?_
    rw [(args_ss ha).1]
    refine (Tryz.strings_CutPrefix ⟨s.toArray⟩ ⟨p.toArray⟩ w).mono ?_
    rintro e w' ⟨rfl, rfl⟩
    exact ⟨_, rfl, Below.refl _ _, [_, _], rfl, _, _, rfl, res_str _, rfl, _, _, rfl, res_bool _, rfl, rfl⟩
  · cases h
theorem max_len {w : World} (hg : Glob cfg.G w []) : ∃ m, w.cell? ⟨5, 0, none⟩ = some (.int .i64 m) := by
  obtain ⟨b, h1, m, t, fz, h2⟩ := glob_at hg (p := (5, gInt)) (by simp [cfg, mkCfg, globs])
  subst h2
  exact ⟨m, by unfold World.cell?; rw [show w.heap[5]? = some _ from h1]; rfl⟩
theorem okCut {T U : TypeId} (xs : List Arg) (r : (Sig.out ⟨[pS T, pS U], [.str, .str, .bool]⟩).D) (h : pCut xs = some r) : CallOKs Tryz.prog cfg ⟨[pS T, pS U], [.str, .str, .bool]⟩ 174 xs r := by
  unfold pCut at h
  split at h
  · rename_i s p
    cases hs : decide (s.length < 4294967281) <;> rw [hs] at h
    · cases h
    · rw [cond_true] at h
      injection h with h
      subst h
      refine okPure rfl (fun R w vs io ha => (args_ss ha).2) fun R w vs ha hg hlt => ?_
      rw [(args_ss ha).1]
      obtain ⟨m, hm⟩ := max_len hg
      refine (Tryz.strings_Cut ⟨s.toArray⟩ ⟨p.toArray⟩ m w (by rw [size_of]; exact of_decide_eq_true hs) hm).mono ?_
      rintro e w' ⟨rfl, n, rfl⟩
      exact ⟨_, rfl, below_drewN w n, [_, _, _], rfl, _, _, rfl, res_str _, rfl, _, _, rfl, res_str _, rfl, _, _, rfl, res_bool _, rfl, rfl⟩
  · cases h
theorem countB_le' (s o : List UInt8) (h : 1 ≤ o.length) : Lib.countB ⟨s.toArray⟩ ⟨o.toArray⟩ ≤ s.length := by
  have := Lib.countB_le ⟨o.toArray⟩ (by rw [size_of]; exact h) s.length ⟨s.toArray⟩ (by rw [size_of]; exact Nat.le_refl _)
  rw [size_of] at this
  exact this
theorem okReplaceAll {T U V : TypeId} (xs : List Arg) (r : (Sig.out ⟨[pS T, pS U, pS V], [.str]⟩).D) (h : pReplaceAll xs = some r) : CallOKs Tryz.prog cfg ⟨[pS T, pS U, pS V], [.str]⟩ 156 xs r := by
  unfold pReplaceAll at h
  split at h
  · rename_i s o c
    cases hs : decide (s.length < 4294967281) && decide (1 ≤ o.length) && decide (s.length + s.length * c.length ≤ 140737488355328) <;> rw [hs] at h
    · cases h
    · rw [cond_true] at h
      injection h with h
      subst h
      simp only [Bool.and_eq_true, decide_eq_true_eq] at hs
      refine okPure rfl (fun R w vs io ha => (args_sss ha).2) fun R w vs ha hg hlt => ?_
      rw [(args_sss ha).1]
      obtain ⟨m, hm⟩ := max_len hg
      have hc := countB_le' s o hs.1.2
      refine (Tryz.strings_ReplaceAll ⟨s.toArray⟩ ⟨o.toArray⟩ ⟨c.toArray⟩ m w (by rw [size_of]; exact hs.1.1) hm (by rw [size_of]; exact hs.1.2) (by
        rw [size_of, size_of]
        have := Nat.mul_le_mul_right c.length hc
        omega)).mono ?_
      rintro e w' ⟨rfl, hb⟩
      exact ⟨_, rfl, hb, res_str _, rfl⟩
  · cases h
theorem ascii_at {c : List UInt8} (h : asciiB c = true) : ∀ (j : Nat) b, (⟨c.toArray⟩ : ByteArray).data.toList[j]? = some b → b.toNat < 128 := fun j b hb =>
  of_decide_eq_true (List.all_eq_true.1 h b (List.mem_of_getElem? hb))
theorem okTrim {T U : TypeId} (xs : List Arg) (r : (Sig.out ⟨[pS T, pS U], [.str]⟩).D) (h : pTrim xs = some r) : CallOKs Tryz.prog cfg ⟨[pS T, pS U], [.str]⟩ 38 xs r := by
  unfold pTrim at h
  split at h
  · rename_i s c
    cases hs : decide (s.length ≤ scap) && decide (c.length < 4294967281) && asciiB c <;> rw [hs] at h
    · cases h
    · rw [cond_true] at h
      injection h with h
      subst h
      simp only [Bool.and_eq_true, decide_eq_true_eq] at hs
      refine okPure rfl (fun R w vs io ha => (args_ss ha).2) fun R w vs ha hg hlt => ?_
      rw [(args_ss ha).1]
      refine (Any.strings_Trim_laid Tryz.lays160 (by kernel_rfl) ⟨s.toArray⟩ ⟨c.toArray⟩ w (by rw [size_of]; have := hs.1.1; unfold scap at this; omega) (by rw [size_of]; exact hs.1.2) (ascii_at hs.2)).mono ?_
      rintro e w' ⟨rfl, hb⟩
      exact ⟨_, rfl, hb, res_str _, rfl⟩
  · cases h
theorem okTrimLeft {T U : TypeId} (xs : List Arg) (r : (Sig.out ⟨[pS T, pS U], [.str]⟩).D) (h : pTrimLeft xs = some r) : CallOKs Tryz.prog cfg ⟨[pS T, pS U], [.str]⟩ 144 xs r := by
  unfold pTrimLeft at h
  split at h
  · rename_i s c
    cases hs : decide (c.length < 4294967281) && asciiB c <;> rw [hs] at h
    · cases h
    · rw [cond_true] at h
      injection h with h
      subst h
      simp only [Bool.and_eq_true, decide_eq_true_eq] at hs
      refine okPure rfl (fun R w vs io ha => (args_ss ha).2) fun R w vs ha hg hlt => ?_
      rw [(args_ss ha).1]
      refine (Any.strings_TrimLeft_laid Tryz.lays161 (by kernel_rfl) ⟨s.toArray⟩ ⟨c.toArray⟩ w (by rw [size_of]; exact hs.1) (ascii_at hs.2)).mono ?_
      rintro e w' ⟨rfl, hb⟩
      exact ⟨_, rfl, hb, res_str _, rfl⟩
  · cases h
theorem okFormatInt {T U : TypeId} (xs : List Arg) (r : (Sig.out ⟨[pI T, pI U], [.str]⟩).D) (h : pFormatInt xs = some r) : CallOKs Tryz.prog cfg ⟨[pI T, pI U], [.str]⟩ 27 xs r := by
  unfold pFormatInt at h
  split at h
  · rename_i n b
    cases hs : decide (b = 10) && decide (-9223372036854775808 ≤ n) && decide (n ≤ 9223372036854775807) <;> rw [hs] at h
    · cases h
    · rw [cond_true] at h
      injection h with h
      subst h
      simp only [Bool.and_eq_true, decide_eq_true_eq] at hs
      refine okPure rfl (fun R w vs io ha => (args_ii ha).2) fun R w vs ha hg hlt => ?_
      rw [(args_ii ha).1, hs.1.1]
      obtain ⟨o, h1, t, fz, h2⟩ := glob_at hg (p := (0, gTab .u64 Lib.pow10Tab)) (by simp [cfg, mkCfg, globs])
      subst h2
      have htab : Lib.TabIs Tryz.prog w "internal/strconv.uint64pow10" .u64 Lib.pow10Tab := by
        unfold Lib.TabIs World.var?
        rw [show Tryz.prog.globalNamed "internal/strconv.uint64pow10" = some 0 by kernel_rfl]
        show (match w.heap[0]? with | some (.cells cs _ _) => some cs | _ => none) = _
        rw [show w.heap[0]? = some _ from h1]
      refine (Tryz.strconv_FormatInt_10 n hs.1.2 hs.2 w htab).mono ?_
      rintro e w' ⟨rfl, k, os, rfl⟩
      exact ⟨_, rfl, Lib.below_grow _ _ (Nat.le_refl _) _ _, res_str _, rfl⟩
  · cases h
theorem err_var {w : World} (hg : Glob cfg.G w []) (n : Nat) (name : String) (hn : Tryz.prog.globalNamed name = some n) (hm : (n, gErr) ∈ cfg.G) : ∃ tp p, w.var? Tryz.prog name = some #[.iface tp p] := by
  obtain ⟨b, h1, u, v, t, fz, h2⟩ := glob_at hg hm
  subst h2
  refine ⟨u, v, ?_⟩
  unfold World.var?
  rw [hn]
  show (match w.heap[n]? with | some (.cells cs _ _) => some cs | _ => none) = _
  rw [show w.heap[n]? = some _ from h1]
theorem below_bytes (w : World) (e : TypeId) (s : ByteArray) : Below w.heap.size w (Lib.bytesWorld w e s) := by
  unfold Lib.bytesWorld
  exact Lib.below_freeze ((Below.drew (Below.refl _ w)).alloc (Nat.le_refl _) _) (p := ⟨w.heap.size, _, none⟩) (Nat.le_refl _) _
theorem okParseInt {T U V : TypeId} (xs : List Arg) (r : (Sig.out ⟨[pS T, pI U, pI V], [.int .i64, .err]⟩).D) (h : pParseInt xs = some r) : CallOKs Tryz.prog cfg ⟨[pS T, pI U, pI V], [.int .i64, .err]⟩ 102 xs r := by
  unfold pParseInt at h
  split at h
  · rename_i s b z
    cases hs : decide (b = 10) && decide (z = 64) && decide (s.length ≤ 281474976710656) <;> rw [hs] at h
    · cases h
    · rw [cond_true] at h
      injection h with h
      subst h
      simp only [Bool.and_eq_true, decide_eq_true_eq] at hs
      refine okPure rfl (fun R w vs io ha => (args_sii ha).2) fun R w vs ha hg hlt => ?_
      rw [(args_sii ha).1, hs.1.1, hs.1.2]
      have hsz : (⟨s.toArray⟩ : ByteArray).size ≤ 281474976710656 := by rw [size_of]; exact hs.2
      have hl : (⟨s.toArray⟩ : ByteArray).data.toList = s := by simp
      unfold parsed
      match hp : Lib.parseIntB 64 s with
      | .ok v =>
        refine (Tryz.strconv_ParseInt_10_at64_ok ⟨s.toArray⟩ (by omega) v (by rw [hl]; exact hp) w).mono ?_
        rintro e w' ⟨rfl, hw⟩
        refine ⟨_, rfl, ?_, [_, _], rfl, _, _, rfl, res_int _ _, rfl, _, _, rfl, res_nil, rfl, rfl⟩
        rcases hw with rfl | ⟨t, rfl⟩
        · exact Below.refl _ _
        · exact below_bytes _ _ _
      | .syntax =>
        obtain ⟨tp, p, hv⟩ := err_var hg 6 "strconv.ErrSyntax" (by kernel_rfl) (by simp [cfg, mkCfg, globs])
        refine (Tryz.strconv_ParseInt_10_at64_syntax_var ⟨s.toArray⟩ hsz (by rw [hl]; exact hp) tp p w hv).mono ?_
        rintro e w' ⟨N, rfl, _, _, hb⟩
        exact ⟨_, rfl, hb, [_, _], rfl, _, _, rfl, res_int _ _, rfl, _, _, rfl, res_err _ _, rfl, rfl⟩
      | .range =>
        obtain ⟨tp, p, hv⟩ := err_var hg 7 "strconv.ErrRange" (by kernel_rfl) (by simp [cfg, mkCfg, globs])
        refine (Tryz.strconv_ParseInt_10_at64_range_var ⟨s.toArray⟩ hsz (by rw [hl]; exact hp) tp p w hv).mono ?_
        rintro e w' ⟨N, rfl, _, _, hb⟩
        rw [hl]
        exact ⟨_, rfl, hb, [_, _], rfl, _, _, rfl, res_int _ _, rfl, _, _, rfl, res_err _ _, rfl, rfl⟩
  · cases h


theorem args_ls {C : Cfg} {R : Nat → Nat → Prop} {w : World} {p q : Par} {e : TypeId} {xs : List (List UInt8)} {b : List UInt8} {vs : List Go.Value} {io : Option (Nat × Hds)} (h : ArgsRep C R w [p, q] [.val (.slice e .str) xs, .val .str b] vs io) :
    ∃ A c, vs = [.slice A xs.length c, .string ⟨b.toArray⟩] ∧ io = none ∧ xs.length ≤ c ∧ ∀ (i : Nat) (h : i < xs.length), ∃ g o, A = some ⟨g, o, none⟩ ∧ w.cell? ⟨g, o + i, none⟩ = some (.string ⟨xs[i].toArray⟩) ∧ R g (o + i) := by
  match vs, h with
  | [v1, v2], ⟨_, ⟨cs, ⟨A, c, h1, h5, h6⟩, h4⟩, _, h2, h3⟩ =>
    have h4 : cs = [v1] := h4
    rw [h1] at h4
    injection h4 with h4 _
    refine ⟨A, c, by rw [str_val h2, ← h4], h3, h5, fun i hi => ?_⟩
    obtain ⟨g, o, c2, g1, g2, g3⟩ := h6 i hi
    have g2 : c2 = [.string ⟨xs[i].toArray⟩] := g2
    have := g3 0 (.string ⟨xs[i].toArray⟩) (by rw [g2]; rfl)
    rw [show i * Ty.size .str + 0 = i by simp [Ty.size]] at this
    exact ⟨g, o, g1, this.1, this.2⟩
  | [], h => exact h.elim
  | [_], ⟨_, _, h⟩ => exact h.elim
  | _ :: _ :: _ :: _, ⟨_, _, _, _, h⟩ => exact h.elim
theorem okJoin {T U e : TypeId} (xs : List Arg) (r : (Sig.out ⟨[⟨false, T, .slice e .str, [], false⟩, pS U], [.str]⟩).D) (h : pJoin xs = some r) : CallOKs Tryz.prog cfg ⟨[⟨false, T, .slice e .str, [], false⟩, pS U], [.str]⟩ 158 xs r := by
  unfold pJoin at h
  split at h
  · rename_i e' l c
    cases hs : decide (l.length ≤ 140737488355328) && decide ((Lib.join l c).length ≤ 140737488355328) <;> rw [hs] at h
    · cases h
    · rw [cond_true] at h
      injection h with h
      subst h
      simp only [Bool.and_eq_true, decide_eq_true_eq] at hs
      refine okPure rfl (fun R w vs io ha => by obtain ⟨_, _, _, h, _⟩ := args_ls ha; exact h) fun R w vs ha hg hlt => ?_
      obtain ⟨A, cp, rfl, _, hc, hcell⟩ := args_ls ha
      cases l with
      | nil =>
        refine (Tryz.strings_Join_none A cp ⟨c.toArray⟩ w).mono ?_
        rintro e w' ⟨rfl, hw⟩
        exact ⟨_, rfl, by first | exact hw | (subst hw; exact Below.refl _ _), res_str [], rfl⟩
      | cons x l =>
        obtain ⟨g, o, rfl, _, _⟩ := hcell 0 (by simp)
        have hlen : ((x :: l).map fun t => (⟨t.toArray⟩ : ByteArray)).length = (x :: l).length := List.length_map ..
        have hmap : (((x :: l).map fun t => (⟨t.toArray⟩ : ByteArray)).map fun t => t.data.toList) = x :: l := by
          rw [List.map_map]
          conv => rhs; rw [← List.map_id (x :: l)]
          exact List.map_congr_left fun t _ => by simp
        have hgs : g < w.heap.size := by
          obtain ⟨g', o', e1, _, e2⟩ := hcell 0 (by simp)
          injection e1 with e1
          injection e1 with e1 e3 _
          subst e1
          exact hlt _ _ e2
        have key := Tryz.strings_Join g o cp ((x :: l).map fun t => (⟨t.toArray⟩ : ByteArray)) ⟨c.toArray⟩ w (fun j y hj => by
          rw [List.getElem?_map, Option.map_eq_some_iff] at hj
          obtain ⟨t, h1, h2⟩ := hj
          subst h2
          have hjl : j < (x :: l).length := by
            rcases Nat.lt_or_ge j (x :: l).length with h' | h'
            · exact h'
            · rw [List.getElem?_eq_none h'] at h1; cases h1
          obtain ⟨g', o', e1, e2, _⟩ := hcell j hjl
          injection e1 with e1
          injection e1 with e1 e3 _
          subst e1 e3
          rw [List.getElem?_eq_getElem hjl] at h1
          injection h1 with h1
          rw [h1] at e2
          exact e2) hgs (by rw [hlen]; exact hs.1) (by rw [hlen]; exact hc) (by rw [hmap]; exact hs.2)
        rw [hlen, hmap] at key
        refine key.mono ?_
        rintro e w' ⟨rfl, hb⟩
        exact ⟨_, rfl, hb, res_str _, rfl⟩
  · cases h

end Go.Proofs.YtmgeeanbecmkbaaGreatDoor.Den
