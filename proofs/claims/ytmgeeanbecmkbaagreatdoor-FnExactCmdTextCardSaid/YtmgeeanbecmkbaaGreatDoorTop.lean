/- Top: the law FnExactCmdText answers true at every command, and leaves its argument as it was: the row, the tied card. Conditions: the listed variables of the library hold what the program's text lays; each text and each slice is within the form's reach. -/
import Derived.Test.YtmgeeanbecmkbaaGreatDoorGlue
import Derived.Test.YtmgeeanbecmkbaaGreatDoorWrap
import Derived.Test.YtmgeeanbecmkbaaGreatDoorV17
import Derived.Test.YtmgeeanbecmkbaaGreatDoorTie
import Derived.Test.YtmgeeanbecmkbaaGreatDoorCards
import Derived.SevenTiedAt
namespace Go.Proofs.YtmgeeanbecmkbaaGreatDoor.Den
open Go Go.RowKit Go.Proofs Go.ChangeShapes Go.WideShapes Go.ChangeAt
set_option linter.unusedVariables false
set_option maxRecDepth 100000

noncomputable abbrev laidRow : List (String × DataW Unit) := Rows.fnExactCmdTextRow.laid
theorem own : ownKnob Tryz.prog.godebug = none := by kernel_rfl

theorem var_block {W : World} {name : String} {g : Nat} {cs : Array Go.Value} (hg : Tryz.prog.globalNamed name = some g) (h : W.var? Tryz.prog name = some cs) : ∃ t fz, W.heap[g]? = some (.cells cs t fz) := by
  unfold World.var? at h
  rw [hg] at h
  simp only [Option.bind_some] at h
  split at h
  · rename_i c t fz hh
    injection h with h
    subst h
    exact ⟨t, fz, hh⟩
  · cases h
theorem err_glob {W : World} {name : String} {g : Nat} {d : DataW Unit} {nm : String} (hg : Tryz.prog.globalNamed name = some g) (ht : (Tryz.prog.globals[g]?).map (·.type) = some 61)
    (h : Lib.VarReads Tryz.prog W name (.iface nm d)) : ∃ b, W.heap[g]? = some b ∧ gErr b ∧ g ∉ ([] : List Nat) := by
  obtain ⟨g', t', cs, fuel, p, h1, h2, h3, h4⟩ := h
  obtain rfl := Option.some.inj (hg.symm.trans h1)
  obtain rfl := Option.some.inj (ht.symm.trans h2)
  obtain ⟨t, fz, hb⟩ := var_block hg h3
  obtain ⟨u, v, hc⟩ := trod_iface Tryz.underlying61 h4
  refine ⟨_, hb, ⟨u, v, t, fz, ?_⟩, by simp⟩
  rw [← Array.eq_one_of_toList hc]

theorem glob_ok {W : World} (hL : laidMetH Tryz.prog laidRow W) (hsh : W.ShapedOpen Tryz.prog) : Glob cfg.G W [] := by
  rw [MakeChecks.laidMetH_plain _ _ _ (by kernel_rfl)] at hL
  show ∀ p ∈ globs, _
  refine all_cons ?_ (all_cons ?_ (all_cons ?_ (all_cons ?_ all_nil)))
  · obtain ⟨g', t', cs, fuel, p, h1, h2, h3, h4⟩ := Lib.laidMet.reads hL (n := "internal/strconv.uint64pow10") (d := Rows.laid_internal_strconv_uint64pow10) (by simp [laidRow, Rows.fnExactCmdTextRow])
    obtain rfl := Option.some.inj ((show Tryz.prog.globalNamed "internal/strconv.uint64pow10" = some 0 by kernel_rfl).symm.trans h1)
    obtain rfl := Option.some.inj ((show (Tryz.prog.globals[0]?).map (·.type) = some 116 by kernel_rfl).symm.trans h2)
    obtain ⟨t, fz, hb⟩ := var_block (show Tryz.prog.globalNamed "internal/strconv.uint64pow10" = some 0 by kernel_rfl) h3
    have hd : (Rows.laid_internal_strconv_uint64pow10 : DataW Unit) = Lib.tabData .u64 Lib.pow10Tab := by kernel_rfl
    rw [hd] at h4
    have hcs := Lib.cells_of_tab (n := 20) (zs := Lib.pow10Tab) (t := 116) Tryz.underlying116 Tryz.underlying94 (by kernel_rfl) (by kernel_rfl) h4
    refine ⟨_, hb, ⟨t, fz, ?_⟩, by simp⟩
    rw [← hcs]
  · exact err_glob (name := "strconv.ErrSyntax") (by kernel_rfl) (by kernel_rfl) (Lib.laidMet.reads hL (n := "strconv.ErrSyntax") (d := Rows.laid_strconv_ErrSyntax) (by simp [laidRow, Rows.fnExactCmdTextRow]))
  · exact err_glob (name := "strconv.ErrRange") (by kernel_rfl) (by kernel_rfl) (Lib.laidMet.reads hL (n := "strconv.ErrRange") (d := Rows.laid_strconv_ErrRange) (by simp [laidRow, Rows.fnExactCmdTextRow]))
  · have h0 : ((begin Tryz.prog (fun _ _ => 0) default).world.heap[5]?).bind Obj.row? = some (#[.int .i64 0], 3) := by kernel_rfl
    obtain ⟨m, hm⟩ := cell_of_shapedOpen_int (g := 5) (t := 3) (zero := #[.int .i64 0]) (k := .i64) hsh (of_decide_eq_true (by kernel_rfl)) h0 rfl (by kernel_rfl) (by kernel_rfl) Tryz.underlying3
    obtain ⟨cs, hh, hs, _⟩ := hsh.1 5 _ 3 (of_decide_eq_true (by kernel_rfl)) h0
    refine ⟨_, hh, ⟨m, 3, (0, 0), ?_⟩, by simp⟩
    unfold World.cell? at hm
    rw [show W.heap[(⟨5, 0, none⟩ : Addr).block]? = some _ from hh] at hm
    have hm : cs[0]? = some (.int .i64 m) := hm
    have : cs = #[.int .i64 m] := by
      have hs : cs.size = 1 := hs
      apply Array.ext'
      obtain ⟨l⟩ := cs
      match l, hs, hm with
      | [x], _, hm =>
        simp at hm
        rw [hm]
    rw [this]

theorem bytes_ok : ∀ e u, cfg.ty e = some u → 1 ≤ Tryz.prog.bytesOf e := by
  intro e u h
  have hm : (e, u) ∈ tab := look_mem h
  have key : (tab.all fun p => decide (1 ≤ Tryz.prog.bytesOf p.1)) = true := by kernel_rfl
  exact of_decide_eq_true (List.all_eq_true.1 key _ hm)

theorem cmdS_of {c : Cmd} (h : Lim reachBytes tlaws_Cmd c) : cmdS c := by
  obtain ⟨_, h1, h2, _, ⟨h3, h4⟩, _⟩ := h
  have hr : reachBytes ≤ lim := Nat.le_of_ble_eq_true (by kernel_rfl)
  exact ⟨Nat.le_trans h1 hr, Nat.le_trans h2 hr, Nat.le_trans h3 hr, fun x hx => Nat.le_trans (h4 x hx).2.2.1 hr⟩

/-- The law's call, whatever the command. -/
theorem law_call {H' : Type} {W : World} {v : Go.Value} {d : DataW H'} {enc : TypeId × Go.Value → H'} {ps : List MemPlace} (hd : DataW.Trod enc Tryz.prog W 0 (fun _ => true) true 24 v d ps) (hw : ∀ n ∈ d.weights Tryz.prog 24, n ≤ reachBytes)
    (hL : laidMetH Tryz.prog laidRow W) (hsh : W.ShapedOpen Tryz.prog) : Calls Tryz.prog 3 #[v] W fun e W' => e = .returned (.bool true) ∧ Below W.heap.size W W' := by
  obtain ⟨c, hr, hl⟩ := open_arg prog_ok.cfg bytes_ok (T := 24) (t := tlaws_Cmd) rfl rfl hd hw
  have hv : v = .agg v.cells := by
    have hs := hr.size
    have hs : v.cells.toList.length = 5 := hs
    cases v <;> first | rfl | (simp [Go.Value.cells] at hs)
  have htv : toVal tlaws_Cmd v.cells.toList v := by
    unfold toVal
    rw [if_pos (show Ty.isSt tlaws_Cmd = true from rfl)]
    simpa using hv
  have hcall : ENV 3 [.val tlaws_Cmd c] = some (true, ()) := law_v (cmdS_of hl)
  have hok := env_ok 3 [.val tlaws_Cmd c] (true, ()) hcall (prog_ok.has 3 (by kernel_rfl))
  have := hok (oldR W) W [v] none ⟨rfl, ⟨v.cells.toList, hr, htv⟩, rfl⟩ List.nodup_nil (fun g o h => h) (glob_ok hL hsh)
  refine this.mono ?_
  rintro e W' ⟨R', v', res', rfl, ha, hres, _⟩
  have hb : v' = .bool true := by
    obtain ⟨⟨cs, h1, h2⟩, _⟩ := hres
    have h1 : cs = [.bool true] := h1
    have h2 : cs = [v'] := h2
    rw [h1] at h2
    injection h2 with h2 _
    exact h2.symm
  exact ⟨by rw [hb], ⟨ha.os, ha.tape, ha.output, ha.size, fun k hk => ha.block k hk (by simp [resBlocks])⟩⟩


noncomputable def argW : Array Go.Value := #[.agg #[.int .i64 0, .string ⟨#[]⟩, .string ⟨#[]⟩, .int .i64 0, .slice none 0 0]]
theorem lifted (os : Os) (started : os.Started) (H : Type) (enc : TypeId × Go.Value → H) :
    ReturnsInHanded {} Tryz.checked os 3 .any (fun w args => (Rows.fnExactCmdTextSpec.pre enc Tryz.prog Tryz.f3 [] false w args ∧ laidMetH Tryz.prog laidRow w) ∧ sizedMet enc Tryz.prog Tryz.f3 (OpenSpec.ofChange Rows.fnExactCmdTextSpec) false w args)
      (Rows.fnExactCmdTextSpec.post enc Tryz.prog Tryz.f3 false true false false) := by
  refine wrap_and_shaped (C := Tryz.checked) (X := fun w _ => laidMetH Tryz.prog laidRow w) (fun _ _ _ hh h => h.of_heap hh) own started (by kernel_rfl) Tryz.func3
    (ChangeSpec.witness_shaped (enc := enc) (C := Tryz.checked) (os := os) (X := fun w _ => laidMetH Tryz.prog laidRow w) false (World.laidAll Tryz.prog os laidRow) argW 8 (World.laidAll_os _ _ _)
      (World.shaped_of_ZipB (by kernel_rfl) (by kernel_rfl)) (by kernel_rfl) (by kernel_rfl) (by kernel_rfl)
      (by rw [MakeChecks.laidMetH_plain _ _ _ (by kernel_rfl)]; exact laidMet_laidAll _ (by kernel_rfl) (by kernel_rfl))) ?_
  intro W base args ds gs before hval hW _ hz hL hsh
  have hW' := hW
  obtain ⟨p, q, hA0, hV, hb, _, _⟩ := hW
  have hA : DataW.TrodAll enc Tryz.prog W 0 (fun _ => true) true Tryz.f3.params.toList args.toList ds p := hA0
  rw [Tryz.params3] at hA
  obtain ⟨v0, d0, rfl, rfl, h0⟩ := trodAll_one hA
  obtain ⟨rfl, rfl⟩ := trodVars_none hV
  have hw : ∀ n ∈ d0.weights Tryz.prog 24, n ≤ reachBytes := by
    intro n hn
    have := List.all_eq_true.1 hz n (DataW.weights_mem_each (j := 0) (t := 24) (d := d0) (by
      show (Tryz.f3.params.toList ++ _)[0]? = some 24
      rw [Tryz.params3]; rfl) rfl n hn)
    simpa using this
  refine (law_call h0 hw hL hsh).mono ?_
  rintro e W' ⟨rfl, hbelow⟩
  exact ⟨_, rfl, post_true (t := 24) (b := 4) (by kernel_rfl) (by kernel_rfl) (of_decide_eq_true (by kernel_rfl)) Tryz.params3 (by kernel_rfl) Tryz.underlying4 rfl ⟨rfl, rfl, rfl⟩ hW' hbelow⟩

theorem holds : Rows.FnExactCmdTextSaid :=
  OpenClaim.holds_of_wide 3 Tryz.f3 rfl rfl rfl rfl rfl rfl rfl ⟨rfl, rfl, rfl, rfl, rfl⟩ rfl rfl rfl rfl rfl (by kernel_rfl) Tryz.func3 (by kernel_rfl)
    (of_decide_eq_true (by kernel_rfl)) (by unfold Func.isWrapper; first | (rw [if_pos (by decide +kernel)]; kernel_rfl) | (rw [if_neg (by decide +kernel)]; exact ⟨rfl, rfl⟩))
    (fun os started H enc _ => lifted os started H enc)
theorem card_holds : Rows.FnExactCmdTextCardSaid :=
  Claim7.holds_tied_plain_at .later [] [.data, .data, .data, .data, .sentinel, .sentinel, .pinned] true (true, "0113d5dfd42d7827ac4b2bccd7420a20efd9af9512710b3d5b14e04ef6a66ccc") true holds (fun _ h => by cases h) (by kernel_rfl) (fun _ h => by cases h) fnExactCmdText_row_tie rfl ⟨rfl, rfl⟩ (by kernel_rfl) rfl
    (fun f fn hf hfn => by
      obtain rfl : f = 3 := Option.some.inj ((show Tryz.prog.funcNamed "loop.example/g00267/laws.FnExactCmdText" = some 3 by kernel_rfl).symm.trans hf) |>.symm
      obtain rfl : fn = Tryz.f3 := (Option.some.inj (Tryz.func3.symm.trans hfn)).symm
      exact ⟨by kernel_rfl, fun j t ht => by
        rw [Tryz.params3] at ht
        have hm : t ∈ [24] := by simpa using Array.mem_of_getElem? ht
        have hall : ([24].all fun u => !Tryz.prog.wantsStandIn u) = true := by kernel_rfl
        exact (show Tryz.prog.wantsStandIn t = false by simpa using List.all_eq_true.1 hall t hm)⟩)
    (by kernel_rfl)
#print axioms holds
#print axioms card_holds

end Go.Proofs.YtmgeeanbecmkbaaGreatDoor.Den
