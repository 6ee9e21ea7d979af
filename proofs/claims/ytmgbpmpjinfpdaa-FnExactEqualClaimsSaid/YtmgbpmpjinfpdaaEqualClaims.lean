/- The law 'FnExactEqualClaims', as the row says it. -/
import Derived.Test.YtmgbpmpjinfpdaaRows
import Derived.Test.YtmgbpmpjinfpdaaVmWalks
import Derived.Test.YtmgbpmpjinfpdaaVmLogicB
set_option linter.unusedVariables false
set_option linter.unusedSimpArgs false
set_option maxRecDepth 4000
namespace Go.Vm
open Go Go.Proofs Go.RowKit
theorem ok_I {p : PV} (h : (Sh.int .i64).ok p) : ∃ z, p = I z ∧ -9223372036854775808 ≤ z ∧ z ≤ 9223372036854775807 := by
  simp only [Sh.ok] at h
  obtain ⟨z, rfl, hz⟩ := h
  refine ⟨z, rfl, ?_⟩
  simp [Lit.wf, IntKind.min, IntKind.max, IntKind.signed, IntKind.bits] at hz
  exact hz
def inR (l : List Int) : Prop := ∀ z ∈ l, -9223372036854775808 ≤ z ∧ z ≤ 9223372036854775807
theorem ok_ints {p : PV} (h : (Sh.sl 1 (.int .i64)).ok p) : ∃ l, p = ints l ∧ l.length ≤ 9223372036854775807 ∧ inR l := ok_list (fun x hx => ok_I hx) h
theorem ok_intss {p : PV} (h : (Sh.sl 1 (.sl 1 (.int .i64))).ok p) : ∃ ls, p = intss ls ∧ small ls 9223372036854775807 ∧ ∀ l ∈ ls, inR l := by
  obtain ⟨ls, h1, h2, h3⟩ := ok_list (fun x hx => ok_ints hx) h
  exact ⟨ls, h1, ⟨h2, fun l hl => (h3 l hl).1⟩, fun l hl => (h3 l hl).2⟩
def shSq : Sh := .st [.int .i64, .sl 1 (.sl 1 (.int .i64)), .sl 1 (.int .i64)]
theorem ok_Sq {p : PV} (h : shSq.ok p) : ∃ s, p = sqP s ∧ SqOk s 9223372036854775807 := by
  simp only [shSq, Sh.ok, Sh.oks] at h
  obtain ⟨ps, rfl, p1, q1, rfl, h1, p2, q2, rfl, h2, p3, q3, rfl, h3, rfl⟩ := h
  obtain ⟨z, rfl, _⟩ := ok_I (p := p1) h1
  obtain ⟨ls, rfl, h2, _⟩ := ok_intss (p := p2) h2
  obtain ⟨l, rfl, h3, _⟩ := ok_ints (p := p3) h3
  exact ⟨⟨z, ls, l⟩, rfl, h2, h3⟩
def shNd : Sh := .st [.int .i64, .int .i64, .int .i64, .int .i64]
theorem ok_Nd {p : PV} (h : shNd.ok p) : ∃ s, p = ndP s ∧ True := by
  simp only [shNd, Sh.ok, Sh.oks] at h
  obtain ⟨ps, rfl, p1, q1, rfl, h1, p2, q2, rfl, h2, p3, q3, rfl, h3, p4, q4, rfl, h4, rfl⟩ := h
  obtain ⟨a, rfl, _⟩ := ok_I (p := p1) h1
  obtain ⟨b, rfl, _⟩ := ok_I (p := p2) h2
  obtain ⟨c, rfl, _⟩ := ok_I (p := p3) h3
  obtain ⟨d, rfl, _⟩ := ok_I (p := p4) h4
  exact ⟨⟨a, b, c, d⟩, rfl, trivial⟩
def shCl : Sh := .st [.int .i64, shSq, shSq, .sl 4 shNd, .sl 1 (.int .i64), .int .i64, .sl 1 (.int .i64)]
theorem ok_Cl {p : PV} (h : shCl.ok p) : ∃ c, p = clP c ∧ ClOk c 9223372036854775807 := by
  simp only [shCl, Sh.ok.eq_5, Sh.oks] at h
  obtain ⟨ps, rfl, p1, q1, rfl, h1, p2, q2, rfl, h2, p3, q3, rfl, h3, p4, q4, rfl, h4, p5, q5, rfl, h5, p6, q6, rfl, h6, p7, q7, rfl, h7, rfl⟩ := h
  obtain ⟨a, rfl, _⟩ := ok_I h1
  obtain ⟨b, rfl, hb⟩ := ok_Sq h2
  obtain ⟨c, rfl, hc⟩ := ok_Sq h3
  obtain ⟨d, hd1, hd, _⟩ := ok_list (fun x hx => ok_Nd hx) h4
  obtain ⟨e, rfl, he, _⟩ := ok_ints h5
  obtain ⟨f, rfl, _⟩ := ok_I h6
  obtain ⟨g, rfl, hg, _⟩ := ok_ints h7
  subst hd1
  exact ⟨⟨a, b, c, d, e, f, g⟩, rfl, hb, hc, hd, he, hg⟩
end Go.Vm
namespace Go.Proofs.Ytmgbpmpjinfpdaa.EqualClaims
open Go Go.Vm
theorem own : ownKnob Try.prog.godebug = none := by kernel_rfl
theorem laidOut : laidOutB Try.prog = true := by kernel_rfl
set_option maxRecDepth 100000 in
theorem lifted (os : Os) (started : os.Started) (H : Type) (enc : TypeId × Value → H) :
    ReturnsInHanded {} Try.checked os 3 .any (Rows.fnExactEqualClaimsSpec.pre6 enc Try.prog Try.f3 Rows.fnExactEqualClaimsRow.domain false) (Rows.fnExactEqualClaimsSpec.post enc Try.prog Try.f3 false true false false) := by
  refine returnsInHanded_of_change_shaped (C := Try.checked) own started (by kernel_rfl) Try.func3
    (ChangeSpec.witness6 (enc := enc) (C := Try.checked) false ⟨#[], #[.agg #[.int .i64 0, .int .i64 0, .slice none 0 0, .slice none 0 0, .int .i64 0, .slice none 0 0, .slice none 0 0, .slice none 0 0, .slice none 0 0, .int .i64 0, .slice none 0 0], .agg #[.int .i64 0, .int .i64 0, .slice none 0 0, .slice none 0 0, .int .i64 0, .slice none 0 0, .slice none 0 0, .slice none 0 0, .slice none 0 0, .int .i64 0, .slice none 0 0]], []⟩ 8 (by kernel_rfl) (by kernel_rfl) (by kernel_rfl) (by kernel_rfl)) ?_
  intro W base args ds gs before hval hW _ _ _ _
  refine law_post (shs := [shCl, shCl]) pk.tab laidOut (by kernel_rfl) Try.underlying4 rfl ?_ (by kernel_rfl) (by kernel_rfl) ?_ hval hW
  · intro ds hd
    match ds, hd with
    | [_, _], _ => rfl
  · intro ps h
    simp only [Sh.oks] at h
    obtain ⟨p1, q1, rfl, h1, p2, q2, rfl, h2, rfl⟩ := h
    obtain ⟨x, rfl, hx⟩ := ok_Cl h1
    obtain ⟨y, rfl, hy⟩ := ok_Cl h2
    exact law_call x y hx hy
theorem over : Rows.fnExactEqualClaimsRow.holds Try.pinned (OpenSpec.ofChange Rows.fnExactEqualClaimsSpec) :=
  OpenClaim.holds_of_wide 3 Try.f3 rfl rfl rfl rfl rfl rfl rfl ⟨rfl, rfl, rfl, rfl, rfl⟩ rfl rfl rfl rfl rfl (by kernel_rfl) Try.func3 (by kernel_rfl)
    (of_decide_eq_true (by kernel_rfl)) (by unfold Func.isWrapper; first | (rw [if_pos (by decide +kernel)]; kernel_rfl) | (rw [if_neg (by decide +kernel)]; exact ⟨rfl, rfl⟩))
    (fun os started H enc _ => lifted os started H enc)
end Go.Proofs.Ytmgbpmpjinfpdaa.EqualClaims
namespace Go.Proofs.Ytmgbpmpjinfpdaa
theorem fnExactEqualClaims_holds : Rows.FnExactEqualClaimsSaid := EqualClaims.over
end Go.Proofs.Ytmgbpmpjinfpdaa
#print axioms Go.Proofs.Ytmgbpmpjinfpdaa.fnExactEqualClaims_holds
