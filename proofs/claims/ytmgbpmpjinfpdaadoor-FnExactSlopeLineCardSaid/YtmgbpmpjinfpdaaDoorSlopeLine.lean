/- The card of the slope's line; what every card of this seat needs. -/
import Derived.Test.YtmgbpmpjinfpdaaDoorRows
import Derived.Test.YtmgbpmpjinfpdaaDoorCards
import Derived.Test.YtmgbpmpjinfpdaaDoorTie
import Derived.Test.YtmgbpmpjinfpdaaDoorVmWalks
import Derived.Test.YtmgbpmpjinfpdaaDoorVmLogicB
import Derived.Lib.LaidTab
import Derived.LaidHandle
import Derived.SevenTiedAt
import Derived.Stop.LaidErr
import Derived.Handed
import Derived.ChangeVars
set_option linter.unusedVariables false
set_option linter.unusedSimpArgs false
set_option maxRecDepth 4000
namespace Go.Vm
open Go Go.Proofs Go.RowKit
theorem ok_I {p : PV} (h : (Sh.int .i64).ok p) : ∃ z, p = I z ∧ -9223372036854775808 ≤ z ∧ z ≤ 9223372036854775807 := by
  simp only [Sh.ok] at h
  obtain ⟨z, rfl, hz⟩ := h
  refine ⟨z, rfl, ?_⟩
  simp [Lit.wf, IntKind.min, IntKind.max, IntKind.signed, IntKind.bits] at hz
  exact hz
def inR (l : List Int) : Prop := ∀ z ∈ l, -9223372036854775808 ≤ z ∧ z ≤ 9223372036854775807
theorem ok_ints {p : PV} (h : (Sh.sl 1 (.int .i64)).ok p) : ∃ l, p = ints l ∧ l.length ≤ 9223372036854775807 ∧ inR l := ok_list (fun x hx => ok_I hx) h
/-- From the table that the row lists to what the contracts ask. -/
theorem glob_of_tab {P : Program} {W : World} (h : Lib.TabIs P W "internal/strconv.uint64pow10" .u64 Lib.pow10Tab) : GlobOk P W fun _ => none := ⟨fun n cs g hm hg => by
  obtain ⟨rfl, rfl⟩ := Prod.mk.inj (List.mem_singleton.1 hm)
  refine ⟨rfl, ?_⟩
  rw [Lib.TabIs, World.var?, hg, Option.bind_some] at h
  split at h
  · rename_i cs t fr hh
    rw [Option.some.inj h] at hh
    exact ⟨t, fr, hh⟩
  · cases h⟩
end Go.Vm
namespace Go.Proofs.YtmgbpmpjinfpdaaDoor.Ends
open Go Go.Vm
theorem own : ownKnob Tryd.prog.godebug = none := by kernel_rfl
theorem laidOut : laidOutB Tryd.prog = true := by kernel_rfl
noncomputable def put (h : Array Obj) (g : Nat) (cs : List Value) : Array Obj := h.modify g fun
  | .cells _ t frozen => .cells cs.toArray t frozen
  | o => o
def ints8 : DataW Unit → List Value
  | .agg ds => ds.map fun
    | .lit (.int k z) => .int k z
    | _ => undef
  | _ => []
/-- A world in which the tables hold what the text lays. -/
noncomputable def laidWorld (os : Os) : World :=
  let w0 := World.holding Tryd.prog os ⟨#[], #[], []⟩
  { w0 with heap := put (put (put w0.heap 1 (ints8 Rows.laid_internal_strconv_uint64pow10)) 4 (ints8 Rows.laid_math_bits_deBruijn32tab)) 5 (ints8 Rows.laid_math_bits_deBruijn64tab) }
abbrev laid3 : List (String × DataW Unit) := [("math/bits.deBruijn32tab", Rows.laid_math_bits_deBruijn32tab), ("math/bits.deBruijn64tab", Rows.laid_math_bits_deBruijn64tab), ("internal/strconv.uint64pow10", Rows.laid_internal_strconv_uint64pow10)]
theorem laidWorld_met (os : Os) (args : Array Value) : laidMet Tryd.prog laid3 ((laidWorld os).forCall (fun _ _ => 0) ⟨#[], args, []⟩).memory :=
  laidMet_of_run' 8 (by kernel_rfl) (by kernel_rfl)
theorem glob_of_laid {W : World} (h : laidMet Tryd.prog laid3 W) : GlobOk Tryd.prog W fun _ => none := by
  obtain ⟨t, ht⟩ : ∃ t, (Tryd.prog.globals[1]?).map (·.type) = some t := ⟨_, rfl⟩
  exact glob_of_tab (Lib.tabIs_of_head (g := 1) (t := 167) (e := 157) (n := 20) (by kernel_rfl) (by kernel_rfl) (by kernel_rfl) (by kernel_rfl) (by kernel_rfl) (by kernel_rfl) (laidMet.tail (laidMet.tail h)))
end Go.Proofs.YtmgbpmpjinfpdaaDoor.Ends

/- The card 'FnExactSlopeLine'. -/
set_option linter.unusedVariables false
set_option linter.unusedSimpArgs false
set_option maxRecDepth 4000
namespace Go.Proofs.YtmgbpmpjinfpdaaDoor.SlopeLine
open Go Go.Vm Go.Proofs.YtmgbpmpjinfpdaaDoor.Ends
set_option maxRecDepth 100000 in
theorem lifted (os : Os) (started : os.Started) (H : Type) (enc : TypeId × Value → H) :
    ReturnsInHanded {} Tryd.checked os 3 .any (fun w args => (Rows.fnExactSlopeLineSpec.pre enc Tryd.prog Tryd.f3 [] false w args ∧ laidMetH Tryd.prog laid3 w) ∧ sizedMet enc Tryd.prog Tryd.f3 (OpenSpec.ofChange Rows.fnExactSlopeLineSpec) false w args)
      (Rows.fnExactSlopeLineSpec.post enc Tryd.prog Tryd.f3 false true false false) := by
  refine returnsInHanded_of_change_and (C := Tryd.checked) (X := fun w _ => laidMetH Tryd.prog laid3 w) (fun _ _ _ hh h => h.of_heap hh) own started (by kernel_rfl) Tryd.func3
    (ChangeSpec.witness_at (enc := enc) (C := Tryd.checked) (os := os) (X := fun w _ => laidMetH Tryd.prog laid3 w) false (laidWorld os) #[.slice none 0 0] 8 rfl (by kernel_rfl) (by kernel_rfl) (by kernel_rfl) (by kernel_rfl) (by kernel_rfl) (laidWorld_met os _)) ?_
  intro W base args ds gs before hval hW _ _ hL _
  refine law_post (shs := [.sl 1 (.int .i64)]) pk.tab laidOut (by kernel_rfl) Tryd.underlying4 rfl ?_ (by kernel_rfl) (by kernel_rfl) ?_ (glob_of_laid hL) hval hW
  · intro ds hd
    match ds, hd with
    | [_], _ => rfl
  · intro ps h
    simp only [Sh.oks] at h
    obtain ⟨p1, q1, rfl, h1, rfl⟩ := h
    obtain ⟨x, rfl, hx, _⟩ := ok_ints h1
    exact law_SlopeLine x hx
theorem over : Rows.FnExactSlopeLineSaid :=
  OpenClaim.holds_of_wide 3 Tryd.f3 rfl rfl rfl rfl rfl rfl rfl ⟨rfl, rfl, rfl, rfl, rfl⟩ rfl rfl rfl rfl rfl (by kernel_rfl) Tryd.func3 (by kernel_rfl)
    (of_decide_eq_true (by kernel_rfl)) (by unfold Func.isWrapper; first | (rw [if_pos (by decide +kernel)]; kernel_rfl) | (rw [if_neg (by decide +kernel)]; exact ⟨rfl, rfl⟩))
    (fun os started H enc _ => lifted os started H enc)
theorem card : Rows.FnExactSlopeLineCardSaid :=
  Claim7.holds_tied_plain_at .later [] [.data, .data, .data] true _ true
    over (fun _ h => by cases h) (by kernel_rfl) (fun _ h => by cases h) fnExactSlopeLine_row_tie rfl ⟨rfl, rfl⟩ (by kernel_rfl) rfl
    (fun f fn hf hfn => by
      obtain rfl : f = 3 := Option.some.inj ((show Tryd.prog.funcNamed "loop.example/g02079/laws.FnExactSlopeLine" = some 3 by kernel_rfl).symm.trans hf) |>.symm
      obtain rfl : fn = Tryd.f3 := (Option.some.inj (Tryd.func3.symm.trans hfn)).symm
      exact ⟨by kernel_rfl, fun j t ht => by
        have hm : t ∈ Tryd.f3.params.toList := List.mem_of_getElem? (by simpa using ht)
        have key : (Tryd.f3.params.toList.all fun t => Tryd.prog.wantsStandIn t == false) = true := by kernel_rfl
        exact (beq_iff_eq.1 (List.all_eq_true.1 key t hm) : Tryd.prog.wantsStandIn t = false)⟩)
    (by kernel_rfl)
end Go.Proofs.YtmgbpmpjinfpdaaDoor.SlopeLine
namespace Go.Proofs.YtmgbpmpjinfpdaaDoor
theorem fnExactSlopeLine_holds : Rows.FnExactSlopeLineCardSaid := SlopeLine.card
end Go.Proofs.YtmgbpmpjinfpdaaDoor
#print axioms Go.Proofs.YtmgbpmpjinfpdaaDoor.fnExactSlopeLine_holds
