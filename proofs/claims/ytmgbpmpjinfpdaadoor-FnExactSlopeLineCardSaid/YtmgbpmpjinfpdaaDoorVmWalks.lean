import Derived.Test.YtmgbpmpjinfpdaaDoorProg
import Derived.Test.YtmgbpmpjinfpdaaDoorVmLogicB
import Derived.Laws.Strings
import Derived.Test.YtmgbpmpjinfpdaaDoorShelf
import Derived.Lib.ItoaLen
import Derived.Lib.JoinLaws
namespace Go.Vm
open Go Go.Proofs
def tyL : List TI :=
[⟨.one, 1, 0⟩, ⟨.one, 1, 8⟩, ⟨.int .i64, 1, 8⟩, ⟨.int .i64, 1, 8⟩, ⟨.bool, 1, 1⟩, ⟨.int .u8, 1, 1⟩, ⟨.int .u8, 1, 1⟩, ⟨.struct [2, 3, 4, 6], 4, 24⟩,
  ⟨.struct [2, 3, 4, 6], 4, 24⟩, ⟨.str, 1, 16⟩, ⟨.str, 1, 16⟩, ⟨.str, 1, 16⟩, ⟨.int .u64, 1, 8⟩, ⟨.struct [9, 12], 2, 24⟩, ⟨.struct [9, 12], 2, 24⟩, ⟨.ptr 191, 1, 8⟩,
  ⟨.ptr 194, 1, 8⟩, ⟨.ptr 201, 1, 8⟩, ⟨.struct [17], 1, 8⟩, ⟨.struct [17], 1, 8⟩, ⟨.one, 1, 16⟩, ⟨.int .i32, 1, 4⟩, ⟨.slice 3, 1, 24⟩, ⟨.one, 1, 8⟩, ⟨.one, 1, 8⟩,
  ⟨.one, 1, 8⟩, ⟨.one, 1, 8⟩, ⟨.one, 1, 8⟩, ⟨.one, 1, 8⟩, ⟨.slice 22, 1, 24⟩, ⟨.struct [3, 29, 22], 3, 56⟩, ⟨.struct [3, 29, 22], 3, 56⟩, ⟨.slice 102, 1, 24⟩,
  ⟨.struct [3, 31, 31, 32, 22, 3, 22], 11, 200⟩, ⟨.struct [3, 31, 31, 32, 22, 3, 22], 11, 200⟩, ⟨.one, 1, 8⟩, ⟨.one, 1, 8⟩, ⟨.struct [3, 29, 22], 3, 56⟩,
  ⟨.slice 78, 1, 24⟩, ⟨.struct [3, 37, 37, 38, 22, 3, 22], 11, 200⟩, ⟨.struct [3, 37, 37, 38, 22, 3, 22], 11, 200⟩, ⟨.one, 1, 8⟩, ⟨.one, 1, 8⟩, ⟨.one, 1, 8⟩, ⟨.one, 1, 0⟩,
  ⟨.one, 1, 8⟩, ⟨.one, 1, 8⟩, ⟨.one, 1, 8⟩, ⟨.one, 1, 8⟩, ⟨.one, 1, 8⟩, ⟨.one, 1, 8⟩, ⟨.one, 1, 8⟩, ⟨.one, 1, 8⟩, ⟨.one, 1, 8⟩, ⟨.one, 1, 0⟩, ⟨.one, 1, 8⟩, ⟨.one, 1, 0⟩,
  ⟨.one, 1, 8⟩, ⟨.one, 1, 8⟩, ⟨.one, 1, 8⟩, ⟨.slice 9, 1, 24⟩, ⟨.one, 1, 8⟩, ⟨.one, 1, 8⟩, ⟨.one, 1, 8⟩, ⟨.one, 1, 8⟩, ⟨.one, 1, 8⟩, ⟨.one, 1, 8⟩, ⟨.one, 1, 8⟩,
  ⟨.one, 1, 8⟩, ⟨.one, 1, 8⟩, ⟨.one, 1, 0⟩, ⟨.one, 1, 8⟩, ⟨.ptr 74, 1, 8⟩, ⟨.struct [9, 3, 4, 38], 4, 56⟩, ⟨.struct [9, 3, 4, 38], 4, 56⟩, ⟨.one, 1, 8⟩, ⟨.one, 1, 8⟩,
  ⟨.struct [3, 3, 3, 3], 4, 32⟩, ⟨.struct [3, 3, 3, 3], 4, 32⟩, ⟨.one, 1, 8⟩, ⟨.one, 1, 8⟩, ⟨.one, 1, 8⟩, ⟨.one, 1, 8⟩, ⟨.one, 1, 0⟩, ⟨.one, 1, 8⟩, ⟨.one, 1, 8⟩,
  ⟨.one, 1, 8⟩, ⟨.slice 5, 1, 24⟩, ⟨.one, 1, 8⟩, ⟨.one, 1, 8⟩, ⟨.one, 1, 8⟩, ⟨.one, 1, 8⟩, ⟨.one, 1, 8⟩, ⟨.one, 1, 8⟩, ⟨.one, 1, 8⟩, ⟨.ptr 97, 1, 8⟩,
  ⟨.struct [3, 22, 3, 3, 22], 5, 72⟩, ⟨.struct [3, 22, 3, 3, 22], 5, 72⟩, ⟨.one, 1, 8⟩, ⟨.one, 1, 8⟩, ⟨.one, 1, 8⟩, ⟨.one, 1, 8⟩, ⟨.struct [3, 3, 3, 3], 4, 32⟩,
  ⟨.one, 1, 8⟩, ⟨.one, 1, 0⟩, ⟨.one, 1, 8⟩, ⟨.one, 1, 8⟩, ⟨.one, 1, 8⟩, ⟨.one, 1, 8⟩, ⟨.slice 37, 1, 24⟩, ⟨.one, 1, 0⟩, ⟨.one, 1, 8⟩, ⟨.one, 1, 8⟩, ⟨.one, 1, 8⟩,
  ⟨.one, 1, 8⟩, ⟨.one, 1, 0⟩, ⟨.one, 1, 8⟩, ⟨.one, 1, 8⟩, ⟨.ptr 120, 1, 8⟩, ⟨.struct [118, 87], 2, 32⟩, ⟨.struct [118, 87], 2, 32⟩, ⟨.one, 1, 8⟩, ⟨.one, 1, 16⟩,
  ⟨.one, 1, 16⟩, ⟨.one, 1, 0⟩, ⟨.one, 1, 8⟩, ⟨.one, 1, 8⟩, ⟨.one, 1, 8⟩, ⟨.struct [3, 22], 2, 32⟩, ⟨.struct [3, 22], 2, 32⟩, ⟨.one, 1, 0⟩, ⟨.one, 1, 8⟩, ⟨.one, 1, 8⟩,
  ⟨.one, 1, 8⟩, ⟨.slice 4, 1, 24⟩, ⟨.one, 1, 8⟩, ⟨.one, 1, 8⟩, ⟨.one, 1, 8⟩, ⟨.one, 1, 8⟩, ⟨.one, 1, 8⟩, ⟨.one, 1, 8⟩, ⟨.one, 1, 8⟩, ⟨.one, 1, 0⟩, ⟨.one, 1, 8⟩,
  ⟨.one, 1, 8⟩, ⟨.one, 1, 8⟩, ⟨.one, 1, 8⟩, ⟨.one, 1, 8⟩, ⟨.ptr 5, 1, 8⟩, ⟨.one, 1, 8⟩, ⟨.one, 1, 8⟩, ⟨.one, 1, 8⟩, ⟨.one, 1, 8⟩, ⟨.one, 1, 8⟩, ⟨.one, 1, 0⟩, ⟨.one, 1, 8⟩,
  ⟨.arr 24 5, 24, 24⟩, ⟨.int .u64, 1, 8⟩, ⟨.one, 1, 8⟩, ⟨.one, 1, 8⟩, ⟨.one, 1, 0⟩, ⟨.one, 1, 8⟩, ⟨.one, 1, 8⟩, ⟨.one, 1, 8⟩, ⟨.one, 1, 8⟩, ⟨.one, 1, 8⟩,
  ⟨.int .u64, 1, 8⟩, ⟨.arr 20 157, 20, 160⟩, ⟨.int .u32, 1, 4⟩, ⟨.arr 65 5, 65, 65⟩, ⟨.one, 1, 8⟩, ⟨.int .i64, 1, 8⟩, ⟨.one, 1, 0⟩, ⟨.one, 1, 8⟩, ⟨.ptr 182, 1, 8⟩,
  ⟨.one, 1, 8⟩, ⟨.one, 1, 8⟩, ⟨.one, 1, 8⟩, ⟨.one, 1, 0⟩, ⟨.one, 1, 8⟩, ⟨.one, 1, 8⟩, ⟨.struct [9, 9, 123], 3, 48⟩, ⟨.struct [9, 9, 123], 3, 48⟩, ⟨.one, 1, 8⟩,
  ⟨.arr 32 5, 32, 32⟩, ⟨.arr 64 5, 64, 64⟩, ⟨.one, 1, 8⟩, ⟨.ptr 189, 1, 8⟩, ⟨.struct [9], 1, 16⟩, ⟨.struct [9], 1, 16⟩, ⟨.struct [17, 17, 17, 9], 4, 40⟩,
  ⟨.struct [17, 17, 17, 9], 4, 40⟩, ⟨.arr 0 16, 0, 0⟩, ⟨.struct [192], 0, 0⟩, ⟨.struct [192], 0, 0⟩, ⟨.int .u8, 1, 1⟩, ⟨.int .u8, 1, 1⟩, ⟨.one, 1, 8⟩, ⟨.int .i32, 1, 4⟩,
  ⟨.int .i32, 1, 4⟩, ⟨.struct [12, 12, 168, 195, 5, 5, 196, 197, 148, 198, 199], 11, 48⟩, ⟨.struct [12, 12, 168, 195, 5, 5, 196, 197, 148, 198, 199], 11, 48⟩,
  ⟨.one, 1, 8⟩]
def T : Tab := tabT tyL
theorem ptab : (List.range tyL.length).map (tabOf Tryd.prog) = tyL := by kernel_rfl
theorem pnames : namesB Tryd.prog = true := by kernel_rfl
theorem pk : POk Tryd.prog T := pok_of ptab (by kernel_rfl) (by kernel_rfl) (by kernel_rfl) (by kernel_rfl) pnames
end Go.Vm

/- The claims' arguments: their sizes, their copies, their comparison. -/
set_option linter.unusedVariables false
set_option linter.unusedSimpArgs false
set_option maxRecDepth 4000
namespace Go.Vm
open Go Go.Proofs Go.RowKit
def szL (n : Nat) (left : Int) : Int := if left - n < 0 then -1 else left - n
theorem szL_le {n : Nat} {left : Int} (h : -1 ≤ left ∧ left ≤ 1048576) : -1 ≤ szL n left ∧ szL n left ≤ 1048576 := by
  unfold szL; split <;> omega
theorem szIntS_call (l : List Int) (left : Int) (hl : l.length ≤ 9223372036854775807) (h : -1 ≤ left ∧ left ≤ 1048576) : CallV Tryd.prog 53 [ints l, I left] [I (szL l.length left)] := by
  refine callV_of pk Tryd.func53 rfl rfl ?_
  repeat' ((try (conv => whnf)); first
      | refine Num.len ?_
      | refine Num.i64 (by omega) ?_
      | refine Tst.dec (fun h => ?_) (fun h => ?_)
      | refine Tst.ndec (fun h => ?_) (fun h => ?_)
      | refine Elt.cast (by first | exact True.intro | exact Int.natCast_nonneg _ | omega) (by omega) ?_
      | refine Drw.mk (by kernel_rfl) ?_
      | refine Tst.any (fun h => ?_) (fun h => ?_)
      | refine Ret.bool ?_
      | refine Ret.int ?_
      | refine Row.is True.intro ?_
      | refine Ret.str ?_)
  · simp [szL, *]
  · simp [szL, *]
theorem toIntS_call (l : List Int) (hl : l.length ≤ 1048576) : CallV Tryd.prog 9 [ints l] [ints l] := by
  refine callV_of pk Tryd.func9 rfl rfl ?_
  repeat' ((try (conv => whnf)); first
      | refine Num.len ?_
      | refine Num.i64 (by omega) ?_
      | refine Tst.dec (fun h => ?_) (fun h => ?_)
      | refine Tst.ndec (fun h => ?_) (fun h => ?_)
      | refine Elt.cast (by first | exact True.intro | exact Int.natCast_nonneg _ | omega) (by omega) ?_
      | refine Drw.mk (by kernel_rfl) ?_
      | refine Tst.any (fun h => ?_) (fun h => ?_)
      | refine Ret.bool ?_
      | refine Ret.int ?_
      | refine Row.is True.intro ?_
      | refine Ret.str ?_)
  refine Row.eq (ys := fillP I (I 0) l 0) rfl ⟨by omega, by omega, (by show (8 : Int) * _ ≤ _; omega), by omega⟩ ?_
  refine Lop.of (ι := Nat) (fun i => i ≤ l.length) (fun i => (⟨22, [(0, .pv (ints l)), (3, .row 8), (4, .pv (I i))], [(8, some (1, 3, .sl 1 (fillP I (I 0) l i)))]⟩ : St)) (fun i => l.length - i) 0
    (Nat.zero_le _) (by refine ⟨[(8, some 8)], rfl, rfl, ?_, ?_⟩ <;> (repeat' (first | exact trivial | exact retP_refl _ | refine And.intro ?_ ?_ | exact rfl))) fun i hi => ?_
  repeat' ((try (conv => whnf)); first
      | refine Owe.by (by rw [fillP_len hi]; omega) ?_
      | refine Row.eq (fillP_step (by omega)) (by rw [fillP_len hi]; omega) ?_
      | refine Num.len ?_
      | refine Num.i64 (by omega) ?_
      | refine Tst.dec (fun h => ?_) (fun h => ?_)
      | refine Tst.ndec (fun h => ?_) (fun h => ?_)
      | refine Elt.cast (by first | exact True.intro | exact Int.natCast_nonneg _ | omega) (by omega) ?_
      | refine Drw.mk (by kernel_rfl) ?_
      | refine Tst.any (fun h => ?_) (fun h => ?_)
      | refine Ret.bool ?_
      | refine Ret.int ?_
      | refine Row.is True.intro ?_
      | refine Ret.str ?_)
  · exact Bck.at (i + 1) (by refine ⟨[(8, some 8)], rfl, rfl, ?_, ?_⟩ <;> (repeat' (first | exact trivial | exact retP_refl _ | refine And.intro ?_ ?_ | exact rfl))) (by omega) (by omega)
  · exact Ret.sl (fillP_all (by omega))
theorem eqIntS_call (xs ys : List Int) (hx : xs.length ≤ 1048576) (hy : ys.length ≤ 1048576) : CallV Tryd.prog 11 [ints xs, ints ys] [B (decide (xs = ys))] := by
  refine callV_of pk Tryd.func11 rfl rfl ?_
  repeat' ((try (conv => whnf)); first
      | refine Num.len ?_
      | refine Num.i64 (by omega) ?_
      | refine Tst.dec (fun h => ?_) (fun h => ?_)
      | refine Tst.ndec (fun h => ?_) (fun h => ?_)
      | refine Elt.cast (by first | exact True.intro | exact Int.natCast_nonneg _ | omega) (by omega) ?_
      | refine Drw.mk (by kernel_rfl) ?_
      | refine Tst.any (fun h => ?_) (fun h => ?_)
      | refine Ret.bool ?_
      | refine Ret.int ?_
      | refine Row.is True.intro ?_
      | refine Ret.str ?_)
  · simp; rintro rfl; omega
  refine Lop.of (ι := Nat) (fun i => i ≤ xs.length ∧ xs.take i = ys.take i) (fun i => (⟨26, [(0, .pv (ints xs)), (1, .pv (ints ys)), (5, .pv (I i))], []⟩ : St)) (fun i => xs.length - i) 0
      ⟨Nat.zero_le _, rfl⟩ (by refine ⟨[], rfl, rfl, ?_, ?_⟩ <;> (repeat' (first | exact trivial | exact retP_refl _ | refine And.intro ?_ ?_ | exact rfl))) fun i hi => ?_
  repeat' ((try (conv => whnf)); first
      | refine Num.len ?_
      | refine Num.i64 (by omega) ?_
      | refine Tst.dec (fun h => ?_) (fun h => ?_)
      | refine Tst.ndec (fun h => ?_) (fun h => ?_)
      | refine Elt.cast (by first | exact True.intro | exact Int.natCast_nonneg _ | omega) (by omega) ?_
      | refine Drw.mk (by kernel_rfl) ?_
      | refine Tst.any (fun h => ?_) (fun h => ?_)
      | refine Ret.bool ?_
      | refine Ret.int ?_
      | refine Row.is True.intro ?_
      | refine Ret.str ?_)
  · simp; rintro rfl; omega
  · refine Bck.at (i + 1) (by refine ⟨[], rfl, rfl, ?_, ?_⟩ <;> (repeat' (first | exact trivial | exact retP_refl _ | refine And.intro ?_ ?_ | exact rfl))) ⟨by omega, ?_⟩ (by omega)
    rw [take_next (by omega), take_next (by omega)]; simp [*]
  · simp; have := hi.2; rw [List.take_of_length_le (by omega), List.take_of_length_le (by omega)] at this; exact this
def intss (ls : List (List Int)) : PV := .sl 1 (ls.map ints)
def small (ls : List (List Int)) (n : Nat) : Prop := ls.length ≤ n ∧ ∀ l ∈ ls, l.length ≤ n
def szLs : List (List Int) → Int → Int
  | [], left => left
  | l :: ls, left => if szL l.length left < 0 then -1 else szLs ls (szL l.length left)
def szSS (ls : List (List Int)) (left : Int) : Int := if left - ls.length < 0 then -1 else szLs ls (left - ls.length)
theorem szIntSS_call (ls : List (List Int)) (left : Int) (hl : small ls 9223372036854775807) (h : -1 ≤ left ∧ left ≤ 1048576) : CallV Tryd.prog 66 [intss ls, I left] [I (szSS ls left)] := by
  refine callV_of pk Tryd.func66 rfl rfl ?_
  have hn := hl.1
  repeat' ((try (conv => whnf)); first
      | refine Num.len ?_
      | refine Num.i64 (by omega) ?_
      | refine Tst.dec (fun h => ?_) (fun h => ?_)
      | refine Tst.ndec (fun h => ?_) (fun h => ?_)
      | refine Elt.cast (by first | exact True.intro | exact Int.natCast_nonneg _ | omega) (by omega) ?_
      | refine Drw.mk (by kernel_rfl) ?_
      | refine Tst.any (fun h => ?_) (fun h => ?_)
      | refine Ret.bool ?_
      | refine Ret.int ?_
      | refine Row.is True.intro ?_
      | refine Ret.str ?_)
  · simp [szSS, *]
  refine Lop.of2 (fun (i : Nat) r => i ≤ ls.length ∧ 0 ≤ r ∧ r ≤ 1048576 ∧ szLs (ls.drop i) r = szSS ls left) (fun i r => (⟨27, [(0, .pv (intss ls)), (1, .pv (I r)), (5, .pv (I i))], []⟩ : St)) (fun i _ => ls.length - i) 0 (left - ls.length)
    ⟨Nat.zero_le _, by omega, by omega, by simp [szSS, *]⟩ (by refine ⟨[], rfl, rfl, ?_, ?_⟩ <;> (repeat' (first | exact trivial | exact retP_refl _ | refine And.intro ?_ ?_ | exact rfl))) fun i r ⟨hi1, hi2, hi3, hi4⟩ => ?_
  repeat' ((try (conv => whnf)); first
      | refine Cal.by (szIntS_call (at' ls i) r (hl.2 _ (at_mem (by omega))) ⟨by omega, by omega⟩) rfl ?_
      | refine Num.len ?_
      | refine Num.i64 (by omega) ?_
      | refine Tst.dec (fun h => ?_) (fun h => ?_)
      | refine Tst.ndec (fun h => ?_) (fun h => ?_)
      | refine Elt.cast (by first | exact True.intro | exact Int.natCast_nonneg _ | omega) (by omega) ?_
      | refine Drw.mk (by kernel_rfl) ?_
      | refine Tst.any (fun h => ?_) (fun h => ?_)
      | refine Ret.bool ?_
      | refine Ret.int ?_
      | refine Row.is True.intro ?_
      | refine Ret.str ?_)
  · rw [← hi4, drop_at (i := i) (by omega), szLs, if_pos (by omega)]
  · have hb := szL_le (n := (at' ls i).length) (left := r) ⟨by omega, hi3⟩
    refine Bck.at2 (i + 1) _ (by refine ⟨[], rfl, rfl, ?_, ?_⟩ <;> (repeat' (first | exact trivial | exact retP_refl _ | refine And.intro ?_ ?_ | exact rfl))) ⟨by omega, by omega, hb.2, ?_⟩ (by omega)
    rw [← hi4, drop_at (i := i) (by omega), szLs, if_neg (by omega)]
  · rw [← hi4, List.drop_eq_nil_of_le (by omega)]; rfl
theorem toIntSS_call (ls : List (List Int)) (hl : small ls 1048576) : CallV Tryd.prog 73 [intss ls] [intss ls] := by
  refine callV_of pk Tryd.func73 rfl rfl ?_
  have hn := hl.1
  repeat' ((try (conv => whnf)); first
      | refine Num.len ?_
      | refine Num.i64 (by omega) ?_
      | refine Tst.dec (fun h => ?_) (fun h => ?_)
      | refine Tst.ndec (fun h => ?_) (fun h => ?_)
      | refine Elt.cast (by first | exact True.intro | exact Int.natCast_nonneg _ | omega) (by omega) ?_
      | refine Drw.mk (by kernel_rfl) ?_
      | refine Tst.any (fun h => ?_) (fun h => ?_)
      | refine Ret.bool ?_
      | refine Ret.int ?_
      | refine Row.is True.intro ?_
      | refine Ret.str ?_)
  refine Row.eq (ys := fillP ints .nil ls 0) rfl ⟨by omega, by omega, (by show (24 : Int) * _ ≤ _; omega), by omega⟩ ?_
  refine Lop.of (ι := Nat) (fun i => i ≤ ls.length) (fun i => (⟨23, [(0, .pv (intss ls)), (3, .row 8), (4, .pv (I i))], [(8, some (1, 22, .sl 1 (fillP ints .nil ls i)))]⟩ : St)) (fun i => ls.length - i) 0
    (Nat.zero_le _) (by refine ⟨[(8, some 8)], rfl, rfl, ?_, ?_⟩ <;> (repeat' (first | exact trivial | exact retP_refl _ | refine And.intro ?_ ?_ | exact rfl))) fun i hi => ?_
  repeat' ((try (conv => whnf)); first
      | refine Cal.by (toIntS_call (at' ls i) (hl.2 _ (at_mem (by omega)))) rfl ?_
      | refine Owe.by (by rw [fillP_len hi]; omega) ?_
      | refine Row.eq (fillP_step (by omega)) (by rw [fillP_len hi]; omega) ?_
      | refine Num.len ?_
      | refine Num.i64 (by omega) ?_
      | refine Tst.dec (fun h => ?_) (fun h => ?_)
      | refine Tst.ndec (fun h => ?_) (fun h => ?_)
      | refine Elt.cast (by first | exact True.intro | exact Int.natCast_nonneg _ | omega) (by omega) ?_
      | refine Drw.mk (by kernel_rfl) ?_
      | refine Tst.any (fun h => ?_) (fun h => ?_)
      | refine Ret.bool ?_
      | refine Ret.int ?_
      | refine Row.is True.intro ?_
      | refine Ret.str ?_)
  · exact Bck.at (i + 1) (by refine ⟨[(8, some 8)], rfl, rfl, ?_, ?_⟩ <;> (repeat' (first | exact trivial | exact retP_refl _ | refine And.intro ?_ ?_ | exact rfl))) (by omega) (by omega)
  · exact Ret.sl (fillP_all (by omega))
theorem eqIntSS_call (xs ys : List (List Int)) (hx : xs.length ≤ 1048576) (hy : ys.length ≤ 1048576) (hx' : small xs 1048576) (hy' : small ys 1048576) : CallV Tryd.prog 80 [intss xs, intss ys] [B (decide (xs = ys))] := by
  refine callV_of pk Tryd.func80 rfl rfl ?_
  repeat' ((try (conv => whnf)); first
      | refine Num.len ?_
      | refine Num.i64 (by omega) ?_
      | refine Tst.dec (fun h => ?_) (fun h => ?_)
      | refine Tst.ndec (fun h => ?_) (fun h => ?_)
      | refine Elt.cast (by first | exact True.intro | exact Int.natCast_nonneg _ | omega) (by omega) ?_
      | refine Drw.mk (by kernel_rfl) ?_
      | refine Tst.any (fun h => ?_) (fun h => ?_)
      | refine Ret.bool ?_
      | refine Ret.int ?_
      | refine Row.is True.intro ?_
      | refine Ret.str ?_)
  · simp; rintro rfl; omega
  refine Lop.of (ι := Nat) (fun i => i ≤ xs.length ∧ xs.take i = ys.take i) (fun i => (⟨27, [(0, .pv (intss xs)), (1, .pv (intss ys)), (5, .pv (I i))], []⟩ : St)) (fun i => xs.length - i) 0
      ⟨Nat.zero_le _, rfl⟩ (by refine ⟨[], rfl, rfl, ?_, ?_⟩ <;> (repeat' (first | exact trivial | exact retP_refl _ | refine And.intro ?_ ?_ | exact rfl))) fun i hi => ?_
  repeat' ((try (conv => whnf)); first
      | refine Cal.bool (eqIntS_call (at' xs i) (at' ys i) (hx'.2 _ (at_mem (by omega))) (hy'.2 _ (at_mem (by omega)))) rfl (fun h => ?_) (fun h => ?_)
      | refine Num.len ?_
      | refine Num.i64 (by omega) ?_
      | refine Tst.dec (fun h => ?_) (fun h => ?_)
      | refine Tst.ndec (fun h => ?_) (fun h => ?_)
      | refine Elt.cast (by first | exact True.intro | exact Int.natCast_nonneg _ | omega) (by omega) ?_
      | refine Drw.mk (by kernel_rfl) ?_
      | refine Tst.any (fun h => ?_) (fun h => ?_)
      | refine Ret.bool ?_
      | refine Ret.int ?_
      | refine Row.is True.intro ?_
      | refine Ret.str ?_)
  · refine Bck.at (i + 1) (by refine ⟨[], rfl, rfl, ?_, ?_⟩ <;> (repeat' (first | exact trivial | exact retP_refl _ | refine And.intro ?_ ?_ | exact rfl))) ⟨by omega, ?_⟩ (by omega)
    rw [take_next (by omega), take_next (by omega)]; simp [*]
  · simp; rintro rfl; simp at *
  · simp; have := hi.2; rw [List.take_of_length_le (by omega), List.take_of_length_le (by omega)] at this; exact this
end Go.Vm

/- Continued fractions and their words. -/
set_option linter.unusedVariables false
set_option linter.unusedSimpArgs false
set_option maxRecDepth 4000
namespace Go.Vm
open Go Go.Proofs Go.RowKit
theorem l1In_call (x lo hi : Int) : CallV Tryd.prog 94 [I x, I lo, I hi] [B (decide (lo ≤ x ∧ x ≤ hi))] := by
  refine callV_of pk Tryd.func94 rfl rfl ?_
  repeat' ((try (conv => whnf)); first
      | refine Num.len ?_
      | refine Num.i64 (by omega) ?_
      | refine Tst.dec (fun h => ?_) (fun h => ?_)
      | refine Tst.ndec (fun h => ?_) (fun h => ?_)
      | refine Elt.cast (by first | exact True.intro | exact Int.natCast_nonneg _ | omega) (by omega) ?_
      | refine Drw.mk (by kernel_rfl) ?_
      | refine Tst.any (fun h => ?_) (fun h => ?_)
      | refine Ret.bool ?_
      | refine Ret.int ?_
      | refine Row.is True.intro ?_
      | refine Ret.str ?_)
  all_goals (simp; omega)
/-- A continued fraction. -/
def areQ (a : List Int) : Prop := (1 ≤ a.length ∧ a.length ≤ 8) ∧ ∀ x ∈ a, 1 ≤ x ∧ x ≤ 9
instance (a : List Int) : Decidable (areQ a) := by unfold areQ; infer_instance
theorem sAreQuotients_call (a : List Int) (hl : a.length ≤ 1048576) : CallV Tryd.prog 81 [ints a] [B (decide (areQ a))] := by
  refine callV_of pk Tryd.func81 rfl rfl ?_
  repeat' ((try (conv => whnf)); first
      | refine Num.len ?_
      | refine Num.i64 (by omega) ?_
      | refine Tst.dec (fun h => ?_) (fun h => ?_)
      | refine Tst.ndec (fun h => ?_) (fun h => ?_)
      | refine Elt.cast (by first | exact True.intro | exact Int.natCast_nonneg _ | omega) (by omega) ?_
      | refine Drw.mk (by kernel_rfl) ?_
      | refine Tst.any (fun h => ?_) (fun h => ?_)
      | refine Ret.bool ?_
      | refine Ret.int ?_
      | refine Row.is True.intro ?_
      | refine Ret.str ?_)
  refine Lop.of (ι := Nat) (fun i => i ≤ a.length ∧ ∀ x ∈ a.take i, 1 ≤ x ∧ x ≤ 9) (fun i => (⟨19, [(0, .pv (ints a)), (3, .pv (I i))], []⟩ : St)) (fun i => a.length - i) 0
      ⟨Nat.zero_le _, by simp⟩ (by refine ⟨[], rfl, rfl, ?_, ?_⟩ <;> (repeat' (first | exact trivial | exact retP_refl _ | refine And.intro ?_ ?_ | exact rfl))) fun i ⟨hi, hm⟩ => ?_
  repeat' ((try (conv => whnf)); first
      | refine Cal.bool (l1In_call (at' a i) 1 9) rfl (fun h => ?_) (fun h => ?_)
      | refine Cal.by (l1In_call a.length 1 8) rfl ?_
      | refine Num.len ?_
      | refine Num.i64 (by omega) ?_
      | refine Tst.dec (fun h => ?_) (fun h => ?_)
      | refine Tst.ndec (fun h => ?_) (fun h => ?_)
      | refine Elt.cast (by first | exact True.intro | exact Int.natCast_nonneg _ | omega) (by omega) ?_
      | refine Drw.mk (by kernel_rfl) ?_
      | refine Tst.any (fun h => ?_) (fun h => ?_)
      | refine Ret.bool ?_
      | refine Ret.int ?_
      | refine Row.is True.intro ?_
      | refine Ret.str ?_)
  · refine Bck.at (i + 1) (by refine ⟨[], rfl, rfl, ?_, ?_⟩ <;> (repeat' (first | exact trivial | exact retP_refl _ | refine And.intro ?_ ?_ | exact rfl))) ⟨by omega, ?_⟩ (by omega)
    rw [take_next (by omega)]
    intro x hx
    rcases List.mem_append.1 hx with hx | hx
    · exact hm x hx
    · simp at hx; omega
  · refine (decide_eq_false ?_).symm
    rintro ⟨_, h2⟩
    have := h2 _ (at_mem (l := a) (i := i) (by omega))
    omega
  · rw [List.take_of_length_le (by omega)] at hm
    refine decide_eq_decide.2 ⟨fun h => ⟨by omega, hm⟩, fun h => ?_⟩
    have := h.1; omega
theorem iAreQuotients_call (a : List Int) (hl : a.length ≤ 1048576) : CallV Tryd.prog 86 [ints a] [B (decide (areQ a))] := by
  refine callV_of pk Tryd.func86 rfl rfl ?_
  repeat' ((try (conv => whnf)); first
      | refine Num.len ?_
      | refine Num.i64 (by omega) ?_
      | refine Tst.dec (fun h => ?_) (fun h => ?_)
      | refine Tst.ndec (fun h => ?_) (fun h => ?_)
      | refine Elt.cast (by first | exact True.intro | exact Int.natCast_nonneg _ | omega) (by omega) ?_
      | refine Drw.mk (by kernel_rfl) ?_
      | refine Tst.any (fun h => ?_) (fun h => ?_)
      | refine Ret.bool ?_
      | refine Ret.int ?_
      | refine Row.is True.intro ?_
      | refine Ret.str ?_)
  · exact (decide_eq_false fun h => by have := h.1; omega).symm
  · exact (decide_eq_false fun h => by have := h.1; omega).symm
  refine Lop.of (ι := Nat) (fun i => i ≤ a.length ∧ ∀ x ∈ a.take i, 1 ≤ x ∧ x ≤ 9) (fun i => (⟨26, [(13, .pv (ints a)), (14, .pv (I a.length)), (15, .pv (I i))], []⟩ : St)) (fun i => a.length - i) 0
      ⟨Nat.zero_le _, by simp⟩ (by refine ⟨[], rfl, rfl, ?_, ?_⟩ <;> (repeat' (first | exact trivial | exact retP_refl _ | refine And.intro ?_ ?_ | exact rfl))) fun i ⟨hi, hm⟩ => ?_
  repeat' ((try (conv => whnf)); first
      | refine Num.len ?_
      | refine Num.i64 (by omega) ?_
      | refine Tst.dec (fun h => ?_) (fun h => ?_)
      | refine Tst.ndec (fun h => ?_) (fun h => ?_)
      | refine Elt.cast (by first | exact True.intro | exact Int.natCast_nonneg _ | omega) (by omega) ?_
      | refine Drw.mk (by kernel_rfl) ?_
      | refine Tst.any (fun h => ?_) (fun h => ?_)
      | refine Ret.bool ?_
      | refine Ret.int ?_
      | refine Row.is True.intro ?_
      | refine Ret.str ?_)
  · refine (decide_eq_false ?_).symm
    rintro ⟨_, h2⟩
    have := h2 _ (at_mem (l := a) (i := i) (by omega))
    omega
  · refine (decide_eq_false ?_).symm
    rintro ⟨_, h2⟩
    have := h2 _ (at_mem (l := a) (i := i) (by omega))
    omega
  · refine Bck.at (i + 1) (by refine ⟨[], rfl, rfl, ?_, ?_⟩ <;> (repeat' (first | exact trivial | exact retP_refl _ | refine And.intro ?_ ?_ | exact rfl))) ⟨by omega, ?_⟩ (by omega)
    rw [take_next (by omega)]
    intro x hx
    rcases List.mem_append.1 hx with hx | hx
    · exact hm x hx
    · simp at hx; omega
  · rw [List.take_of_length_le (by omega)] at hm
    exact (decide_eq_true ⟨by omega, hm⟩).symm
/-- The convergent: what is behind the place, folded. -/
def conv : List Int → Int × Int
  | [] => (0, 1)
  | x :: l => ((conv l).2, x * (conv l).2 + (conv l).1)
theorem conv_le : ∀ (l : List Int), (∀ x ∈ l, 1 ≤ x ∧ x ≤ 9) → (0 ≤ (conv l).1 ∧ (conv l).1 ≤ 10 ^ l.length) ∧ 0 ≤ (conv l).2 ∧ (conv l).2 ≤ 10 ^ l.length
  | [], _ => by simp [conv]
  | x :: l, h => by
    have ⟨⟨h1, h2⟩, h3, h4⟩ := conv_le l fun x hx => h x (List.mem_cons_of_mem _ hx)
    have hx := h x (List.mem_cons_self ..)
    have e : (10 : Int) ^ (x :: l).length = 10 * 10 ^ l.length := by rw [List.length_cons, Int.pow_succ, Int.mul_comm]
    have p : x * (conv l).2 ≤ 9 * (conv l).2 := Int.mul_le_mul_of_nonneg_right hx.2 h3
    have q : 0 ≤ x * (conv l).2 := Int.mul_nonneg (by omega) h3
    simp only [conv, e]
    omega
theorem conv_at {a : List Int} (ha : areQ a) (i : Nat) : (0 ≤ (conv (a.drop i)).1 ∧ (conv (a.drop i)).1 ≤ 100000000) ∧ 0 ≤ (conv (a.drop i)).2 ∧ (conv (a.drop i)).2 ≤ 100000000 := by
  have ⟨⟨h1, h2⟩, h3, h4⟩ := conv_le (a.drop i) fun x hx => ha.2 x (List.mem_of_mem_drop hx)
  have : (10 : Int) ^ (a.drop i).length ≤ 10 ^ 8 := by
    have h8 : (a.drop i).length ≤ 8 := by have := ha.1; simp; omega
    rcases (show (a.drop i).length = 0 ∨ (a.drop i).length = 1 ∨ (a.drop i).length = 2 ∨ (a.drop i).length = 3 ∨ (a.drop i).length = 4 ∨ (a.drop i).length = 5 ∨ (a.drop i).length = 6 ∨ (a.drop i).length = 7 ∨ (a.drop i).length = 8 by omega) with h | h | h | h | h | h | h | h | h <;> rw [h] <;> decide
  omega
def convOf (a : List Int) : Int × Int := if areQ a then conv a else (0, 0)
theorem conv_next {a : List Int} (ha : areQ a) {i p q : Int} (hi : 0 ≤ i) (hn : i < a.length) (hc : conv (a.drop (i + 1).toNat) = (p, q)) :
    (0 ≤ p ∧ p ≤ 100000000) ∧ (0 ≤ q ∧ q ≤ 100000000) ∧ (0 ≤ at' a i.toNat * q ∧ at' a i.toNat * q ≤ 900000000) ∧ conv (a.drop (i - 1 + 1).toNat) = (q, at' a i.toNat * q + p) := by
  have h := conv_at ha (i + 1).toNat
  rw [hc] at h
  have hx := ha.2 _ (at_mem (l := a) (i := i.toNat) (by omega))
  have e : (i - 1 + 1).toNat = i.toNat := by omega
  have e2 : (i + 1).toNat = i.toNat + 1 := by omega
  have p1 : at' a i.toNat * q ≤ 9 * q := Int.mul_le_mul_of_nonneg_right hx.2 h.2.1
  have q1 : 0 ≤ at' a i.toNat * q := Int.mul_nonneg (by omega) h.2.1
  simp only at h
  refine ⟨h.1, h.2, ⟨q1, by omega⟩, ?_⟩
  rw [e, drop_at (l := a) (by omega), conv, ← e2, hc]
theorem sConvergentOf_call (a : List Int) (hl : a.length ≤ 1048576) : CallV Tryd.prog 29 [ints a] [I (convOf a).1, I (convOf a).2, B (decide (areQ a))] := by
  refine callV_of pk Tryd.func29 rfl rfl ?_
  refine Cal.bool (sAreQuotients_call a hl) rfl (fun ha => ?_) (fun ha => ?_)
  · have hn := ha.1
    repeat' ((try (conv => whnf)); first
        | refine Elt.int (by omega) (by omega) ?_
        | refine Num.len ?_
        | refine Num.i64 (by omega) ?_
        | refine Tst.dec (fun h => ?_) (fun h => ?_)
        | refine Tst.ndec (fun h => ?_) (fun h => ?_)
        | refine Elt.cast (by first | exact True.intro | exact Int.natCast_nonneg _ | omega) (by omega) ?_
        | refine Drw.mk (by kernel_rfl) ?_
        | refine Tst.any (fun h => ?_) (fun h => ?_)
        | refine Ret.bool ?_
        | refine Ret.int ?_
        | refine Row.is True.intro ?_
        | refine Ret.str ?_)
    refine Lop.of3 (fun (i p q : Int) => -1 ≤ i ∧ i < a.length ∧ conv (a.drop (i + 1).toNat) = (p, q)) (fun i p q => (⟨37, [(0, .pv (ints a)), (5, .pv (I p)), (6, .pv (I q)), (7, .pv (I i))], []⟩ : St)) (fun i _ _ => (i + 1).toNat) (a.length - 2) 1 (at' a ((a.length : Int) - 1).toNat)
      ⟨by omega, by omega, ?_⟩ (by refine ⟨[], rfl, rfl, ?_, ?_⟩ <;> (repeat' (first | exact trivial | exact retP_refl _ | refine And.intro ?_ ?_ | exact rfl))) fun i p q ⟨hi, hi2, hc⟩ => ?_
    · rw [show ((a.length : Int) - 2 + 1).toNat = ((a.length : Int) - 1).toNat by omega, drop_at (l := a) (by omega), List.drop_eq_nil_of_le (by omega)]; simp [conv]
    repeat' ((try (conv => whnf)); first
        | refine Num.len ?_
        | refine Num.i64 (by omega) ?_
        | refine Tst.dec (fun h => ?_) (fun h => ?_)
        | refine Tst.ndec (fun h => ?_) (fun h => ?_)
        | refine Elt.cast (by first | exact True.intro | exact Int.natCast_nonneg _ | omega) (by omega) ?_
        | refine Drw.mk (by kernel_rfl) ?_
        | refine Tst.any (fun h => ?_) (fun h => ?_)
        | refine Ret.bool ?_
        | refine Ret.int ?_
        | refine Row.is True.intro ?_
        | refine Ret.str ?_)
    · rename_i h
      have ⟨b1, b2, b3, b4⟩ := conv_next ha h hi2 hc
      repeat' ((try (conv => whnf)); first
          | refine Elt.int (by omega) (by omega) ?_
          | refine Num.i64 (by omega) ?_
          | refine Num.len ?_
          | refine Num.i64 (by omega) ?_
          | refine Tst.dec (fun h => ?_) (fun h => ?_)
          | refine Tst.ndec (fun h => ?_) (fun h => ?_)
          | refine Elt.cast (by first | exact True.intro | exact Int.natCast_nonneg _ | omega) (by omega) ?_
          | refine Drw.mk (by kernel_rfl) ?_
          | refine Tst.any (fun h => ?_) (fun h => ?_)
          | refine Ret.bool ?_
          | refine Ret.int ?_
          | refine Row.is True.intro ?_
          | refine Ret.str ?_)
      exact Bck.at3 _ _ _ (by refine ⟨[], rfl, rfl, ?_, ?_⟩ <;> (repeat' (first | exact trivial | exact retP_refl _ | refine And.intro ?_ ?_ | exact rfl))) ⟨by omega, by omega, b4⟩ (by omega)
    · refine Ret.of ?_
      rw [show (i + 1).toNat = 0 by omega, List.drop_zero] at hc
      simp [convOf, ha, hc, I, B]
  · repeat' ((try (conv => whnf)); first
        | refine Num.len ?_
        | refine Num.i64 (by omega) ?_
        | refine Tst.dec (fun h => ?_) (fun h => ?_)
        | refine Tst.ndec (fun h => ?_) (fun h => ?_)
        | refine Elt.cast (by first | exact True.intro | exact Int.natCast_nonneg _ | omega) (by omega) ?_
        | refine Drw.mk (by kernel_rfl) ?_
        | refine Tst.any (fun h => ?_) (fun h => ?_)
        | refine Ret.bool ?_
        | refine Ret.int ?_
        | refine Row.is True.intro ?_
        | refine Ret.str ?_)
    exact Ret.of (by simp [convOf, ha, I, B])
theorem iConvergentOf_call (a : List Int) (hl : a.length ≤ 1048576) : CallV Tryd.prog 36 [ints a] [I (convOf a).1, I (convOf a).2, B (decide (areQ a))] := by
  refine callV_of pk Tryd.func36 rfl rfl ?_
  refine Cal.bool (iAreQuotients_call a hl) rfl (fun ha => ?_) (fun ha => ?_)
  · have hn := ha.1
    repeat' ((try (conv => whnf)); first
        | refine Num.len ?_
        | refine Num.i64 (by omega) ?_
        | refine Tst.dec (fun h => ?_) (fun h => ?_)
        | refine Tst.ndec (fun h => ?_) (fun h => ?_)
        | refine Elt.cast (by first | exact True.intro | exact Int.natCast_nonneg _ | omega) (by omega) ?_
        | refine Drw.mk (by kernel_rfl) ?_
        | refine Tst.any (fun h => ?_) (fun h => ?_)
        | refine Ret.bool ?_
        | refine Ret.int ?_
        | refine Row.is True.intro ?_
        | refine Ret.str ?_)
    refine Lop.of3 (fun (i p q : Int) => -1 ≤ i ∧ i < a.length ∧ conv (a.drop (i + 1).toNat) = (p, q)) (fun i p q => (⟨29, [(0, .pv (ints a)), (5, .pv (I p)), (6, .pv (I q)), (7, .pv (I i))], []⟩ : St)) (fun i _ _ => (i + 1).toNat) (a.length - 1) 0 1
      ⟨by omega, by omega, ?_⟩ (by refine ⟨[], rfl, rfl, ?_, ?_⟩ <;> (repeat' (first | exact trivial | exact retP_refl _ | refine And.intro ?_ ?_ | exact rfl))) fun i p q ⟨hi, hi2, hc⟩ => ?_
    · rw [List.drop_eq_nil_of_le (by omega)]; simp [conv]
    repeat' ((try (conv => whnf)); first
        | refine Num.len ?_
        | refine Num.i64 (by omega) ?_
        | refine Tst.dec (fun h => ?_) (fun h => ?_)
        | refine Tst.ndec (fun h => ?_) (fun h => ?_)
        | refine Elt.cast (by first | exact True.intro | exact Int.natCast_nonneg _ | omega) (by omega) ?_
        | refine Drw.mk (by kernel_rfl) ?_
        | refine Tst.any (fun h => ?_) (fun h => ?_)
        | refine Ret.bool ?_
        | refine Ret.int ?_
        | refine Row.is True.intro ?_
        | refine Ret.str ?_)
    · rename_i h
      have ⟨b1, b2, b3, b4⟩ := conv_next ha h hi2 hc
      repeat' ((try (conv => whnf)); first
          | refine Elt.int (by omega) (by omega) ?_
          | refine Num.i64 (by omega) ?_
          | refine Num.len ?_
          | refine Num.i64 (by omega) ?_
          | refine Tst.dec (fun h => ?_) (fun h => ?_)
          | refine Tst.ndec (fun h => ?_) (fun h => ?_)
          | refine Elt.cast (by first | exact True.intro | exact Int.natCast_nonneg _ | omega) (by omega) ?_
          | refine Drw.mk (by kernel_rfl) ?_
          | refine Tst.any (fun h => ?_) (fun h => ?_)
          | refine Ret.bool ?_
          | refine Ret.int ?_
          | refine Row.is True.intro ?_
          | refine Ret.str ?_)
      exact Bck.at3 _ _ _ (by refine ⟨[], rfl, rfl, ?_, ?_⟩ <;> (repeat' (first | exact trivial | exact retP_refl _ | refine And.intro ?_ ?_ | exact rfl))) ⟨by omega, by omega, b4⟩ (by omega)
    · refine Ret.of ?_
      rw [show (i + 1).toNat = 0 by omega, List.drop_zero] at hc
      simp [convOf, ha, hc, I, B]
  · repeat' ((try (conv => whnf)); first
        | refine Num.len ?_
        | refine Num.i64 (by omega) ?_
        | refine Tst.dec (fun h => ?_) (fun h => ?_)
        | refine Tst.ndec (fun h => ?_) (fun h => ?_)
        | refine Elt.cast (by first | exact True.intro | exact Int.natCast_nonneg _ | omega) (by omega) ?_
        | refine Drw.mk (by kernel_rfl) ?_
        | refine Tst.any (fun h => ?_) (fun h => ?_)
        | refine Ret.bool ?_
        | refine Ret.int ?_
        | refine Row.is True.intro ?_
        | refine Ret.str ?_)
    exact Ret.of (by simp [convOf, ha, I, B])
end Go.Vm

/- Standard words. -/
set_option linter.unusedVariables false
set_option linter.unusedSimpArgs false
set_option maxRecDepth 4000
namespace Go.Vm
open Go Go.Proofs Go.RowKit
def reps (t : Int) (l : List Int) : List Int := (List.replicate t.toNat l).flatten
def swGo : List Int → List Int → List Int → Option (List Int)
  | [], _, l => some l
  | t :: ts, b, l => if 400 < (reps t l ++ b).length then none else swGo ts l (reps t l ++ b)
def swTimes : List Int → List Int
  | [] => []
  | x :: l => (x - 1) :: l
def stdw (a : List Int) : Option (List Int) := if areQ a then swGo (swTimes a) [1] [0] else none
theorem reps_next {l : List Int} {k : Nat} : reps k l ++ l = reps (k + 1 : Int) l := by
  have e : ((k : Int) + 1).toNat = k + 1 := by omega
  rw [reps, reps, e, List.replicate_succ', Int.toNat_natCast]; simp
theorem reps_len {l : List Int} {t : Int} : (reps t l).length = t.toNat * l.length := by simp [reps]
theorem sw_len {a : List Int} : (swTimes a).length = a.length := by cases a <;> rfl
theorem sw_first {a : List Int} (h : 0 < a.length) : at' (swTimes a) 0 = at' a 0 - 1 := by cases a; simp at h; rfl
theorem sw_later {a : List Int} {i : Nat} (h : i < a.length) (h0 : i ≠ 0) : at' (swTimes a) i = at' a i := by
  cases a
  · simp at h
  · obtain ⟨j, rfl⟩ := Nat.exists_eq_succ_of_ne_zero h0
    simp [swTimes, at']
theorem sw_step {a : List Int} (ha : areQ a) {i : Nat} {b l : List Int} (hi : i < a.length) (hc : swGo ((swTimes a).drop i) b l = stdw a) :
    (0 ≤ at' (swTimes a) i ∧ at' (swTimes a) i ≤ 9) ∧ (if 400 < (reps (at' (swTimes a) i) l ++ b).length then none else swGo ((swTimes a).drop (i + 1)) l (reps (at' (swTimes a) i) l ++ b)) = stdw a := by
  have hq := ha.2 _ (at_mem (l := a) (i := i) hi)
  refine ⟨?_, ?_⟩
  · by_cases h : i = 0
    · subst h; rw [sw_first (by omega)]; omega
    · rw [sw_later hi h]; omega
  · rw [← hc, drop_at (l := swTimes a) (i := i) (by rw [sw_len]; omega), swGo]
theorem reps_room {t : Int} {l : List Int} {n : Nat} (h : 0 ≤ t ∧ t ≤ 9) (hl : l.length ≤ 400) (hn : n ≤ 400) : (reps t l).length + n ≤ 4000 := by
  rw [reps_len]
  have := Nat.mul_le_mul (show t.toNat ≤ 9 by omega) hl
  omega
theorem sStandardWord_call (a : List Int) (hl : a.length ≤ 1048576) : CallV Tryd.prog 30 [ints a] [ints ((stdw a).getD []), B (stdw a).isSome] := by
  refine callV_of pk Tryd.func30 rfl rfl ?_
  refine Cal.bool (sAreQuotients_call a hl) rfl (fun ha => ?_) (fun ha => ?_)
  · have hn := ha.1
    repeat' ((try (conv => whnf)); first
        | refine Num.len ?_
        | refine Num.i64 (by omega) ?_
        | refine Tst.dec (fun h => ?_) (fun h => ?_)
        | refine Tst.ndec (fun h => ?_) (fun h => ?_)
        | refine Elt.cast (by first | exact True.intro | exact Int.natCast_nonneg _ | omega) (by omega) ?_
        | refine Drw.mk (by kernel_rfl) ?_
        | refine Tst.any (fun h => ?_) (fun h => ?_)
        | refine Ret.bool ?_
        | refine Ret.int ?_
        | refine Row.is True.intro ?_
        | refine Ret.str ?_)
    refine Lop.of3 (fun (i : Nat) (b l : List Int) => i ≤ a.length ∧ b.length ≤ 400 ∧ l.length ≤ 400 ∧ swGo ((swTimes a).drop i) b l = stdw a) (fun i b l => (⟨53, [(0, .pv (ints a)), (4, .row 15), (5, .row 16), (6, .pv (I i))], [(15, some (1, 3, ints b)), (16, some (1, 3, ints l))]⟩ : St)) (fun i _ _ => a.length - i) 0 [1] [0]
      ⟨by omega, by simp, by simp, by simp [stdw, ha]⟩ (by refine ⟨[(15, some 15), (16, some 16)], rfl, rfl, ?_, ?_⟩ <;> (repeat' (first | exact trivial | exact retP_refl _ | refine And.intro ?_ ?_ | exact rfl))) fun i b l ⟨hi, hb, hw, hc⟩ => ?_
    repeat' ((try (conv => whnf)); first
        | refine Num.len ?_
        | refine Num.i64 (by omega) ?_
        | refine Tst.dec (fun h => ?_) (fun h => ?_)
        | refine Tst.ndec (fun h => ?_) (fun h => ?_)
        | refine Elt.cast (by first | exact True.intro | exact Int.natCast_nonneg _ | omega) (by omega) ?_
        | refine Drw.mk (by kernel_rfl) ?_
        | refine Tst.any (fun h => ?_) (fun h => ?_)
        | refine Ret.bool ?_
        | refine Ret.int ?_
        | refine Row.is True.intro ?_
        | refine Ret.str ?_)
    case refine_1.refine_1.refine_1 =>
      rename_i h1 h2
      obtain rfl : i = 0 := by omega
      refine Elt.int (by omega) (by omega) ?_
      have hq := ha.2 _ (at_mem (l := a) (i := 0) (by omega))
      have e : IntKind.i64.wrap (at' a (Int.toNat 0) - 1) = at' (swTimes a) 0 := by rw [sw_first (by omega), show Int.toNat 0 = 0 from rfl, Vm.i64 (by omega)]
      repeat' ((try (conv => whnf)); first
          | refine Num.eq True.intro e ?_
          | refine Num.len ?_
          | refine Num.i64 (by omega) ?_
          | refine Tst.dec (fun h => ?_) (fun h => ?_)
          | refine Tst.ndec (fun h => ?_) (fun h => ?_)
          | refine Elt.cast (by first | exact True.intro | exact Int.natCast_nonneg _ | omega) (by omega) ?_
          | refine Drw.mk (by kernel_rfl) ?_
          | refine Tst.any (fun h => ?_) (fun h => ?_)
          | refine Ret.bool ?_
          | refine Ret.int ?_
          | refine Row.is True.intro ?_
          | refine Ret.str ?_)
      have ⟨b1, b2⟩ := sw_step ha (i := 0) (by omega) hc
      refine Lop.of (ι := Nat) (fun k => k ≤ (at' (swTimes a) 0).toNat) (fun k => (⟨53, [(0, .pv (ints a)), (4, .row 15), (5, .row 16), (6, .pv (I (0 : Nat))), (7, .pv (I (at' (swTimes a) 0))), (8, .row 33), (9, .pv (I k))], [(15, some (1, 3, ints b)), (16, some (1, 3, ints l)), (33, some (1, 3, ints (reps k l)))]⟩ : St)) (fun k => (at' (swTimes a) 0).toNat - k) 0
        (by omega) (by refine ⟨[(15, some 15), (16, some 16), (33, some 33)], rfl, rfl, ?_, ?_⟩ <;> (repeat' (first | exact trivial | exact retP_refl _ | refine And.intro ?_ ?_ | exact rfl))) fun k hk => ?_
      repeat' ((try (conv => whnf)); first
          | refine Row.app reps_next (Nat.le_trans (reps_room (n := 0) (by omega) hw (by omega)) (by omega)) (by decide) ?_
          | refine Num.len ?_
          | refine Num.i64 (by omega) ?_
          | refine Tst.dec (fun h => ?_) (fun h => ?_)
          | refine Tst.ndec (fun h => ?_) (fun h => ?_)
          | refine Elt.cast (by first | exact True.intro | exact Int.natCast_nonneg _ | omega) (by omega) ?_
          | refine Drw.mk (by kernel_rfl) ?_
          | refine Tst.any (fun h => ?_) (fun h => ?_)
          | refine Ret.bool ?_
          | refine Ret.int ?_
          | refine Row.is True.intro ?_
          | refine Ret.str ?_)
      · exact Bck.at (k + 1) (by refine ⟨[(15, some 15), (16, some 16), (33, some 41)], rfl, rfl, ?_, ?_⟩ <;> (repeat' (first | exact trivial | exact retP_refl _ | refine And.intro ?_ ?_ | exact rfl))) (by omega) (by omega)
      · have ek : at' (swTimes a) 0 = k := by omega
        rw [ek] at b1 b2
        conv => whnf
        refine Row.app rfl (by rw [List.length_append]; exact Nat.le_trans (reps_room b1 hw hb) (by omega)) (by decide) ?_
        repeat' ((try (conv => whnf)); first
            | refine Num.len ?_
            | refine Num.i64 (by omega) ?_
            | refine Tst.dec (fun h => ?_) (fun h => ?_)
            | refine Tst.ndec (fun h => ?_) (fun h => ?_)
            | refine Elt.cast (by first | exact True.intro | exact Int.natCast_nonneg _ | omega) (by omega) ?_
            | refine Drw.mk (by kernel_rfl) ?_
            | refine Tst.any (fun h => ?_) (fun h => ?_)
            | refine Ret.bool ?_
            | refine Ret.int ?_
            | refine Row.is True.intro ?_
            | refine Ret.str ?_)
        · rename_i h3
          rw [if_pos (by omega)] at b2
          rw [← b2]
          exact Ret.of rfl
        · rename_i h3
          rw [if_neg (by omega)] at b2
          exact Bck.at3 (0 + 1) _ _ (by refine ⟨[(15, some 16), (16, some 44)], rfl, rfl, ?_, ?_⟩ <;> (repeat' (first | exact trivial | exact retP_refl _ | refine And.intro ?_ ?_ | exact rfl))) ⟨by omega, by omega, by omega, b2⟩ (by omega)
    case refine_1.refine_1.refine_2 =>
      rename_i h1 h2
      rw [← sw_later (a := a) (i := i) (by omega) (by omega)]
      have ⟨b1, b2⟩ := sw_step ha (i := i) (by omega) hc
      refine Lop.of (ι := Nat) (fun k => k ≤ (at' (swTimes a) i).toNat) (fun k => (⟨53, [(0, .pv (ints a)), (4, .row 15), (5, .row 16), (6, .pv (I (i : Nat))), (7, .pv (I (at' (swTimes a) i))), (8, .row 33), (9, .pv (I k))], [(15, some (1, 3, ints b)), (16, some (1, 3, ints l)), (33, some (1, 3, ints (reps k l)))]⟩ : St)) (fun k => (at' (swTimes a) i).toNat - k) 0
        (by omega) (by refine ⟨[(15, some 15), (16, some 16), (33, some 33)], rfl, rfl, ?_, ?_⟩ <;> (repeat' (first | exact trivial | exact retP_refl _ | refine And.intro ?_ ?_ | exact rfl))) fun k hk => ?_
      repeat' ((try (conv => whnf)); first
          | refine Row.app reps_next (Nat.le_trans (reps_room (n := 0) (by omega) hw (by omega)) (by omega)) (by decide) ?_
          | refine Num.len ?_
          | refine Num.i64 (by omega) ?_
          | refine Tst.dec (fun h => ?_) (fun h => ?_)
          | refine Tst.ndec (fun h => ?_) (fun h => ?_)
          | refine Elt.cast (by first | exact True.intro | exact Int.natCast_nonneg _ | omega) (by omega) ?_
          | refine Drw.mk (by kernel_rfl) ?_
          | refine Tst.any (fun h => ?_) (fun h => ?_)
          | refine Ret.bool ?_
          | refine Ret.int ?_
          | refine Row.is True.intro ?_
          | refine Ret.str ?_)
      · exact Bck.at (k + 1) (by refine ⟨[(15, some 15), (16, some 16), (33, some 41)], rfl, rfl, ?_, ?_⟩ <;> (repeat' (first | exact trivial | exact retP_refl _ | refine And.intro ?_ ?_ | exact rfl))) (by omega) (by omega)
      · have ek : at' (swTimes a) i = k := by omega
        rw [ek] at b1 b2
        conv => whnf
        refine Row.app rfl (by rw [List.length_append]; exact Nat.le_trans (reps_room b1 hw hb) (by omega)) (by decide) ?_
        repeat' ((try (conv => whnf)); first
            | refine Num.len ?_
            | refine Num.i64 (by omega) ?_
            | refine Tst.dec (fun h => ?_) (fun h => ?_)
            | refine Tst.ndec (fun h => ?_) (fun h => ?_)
            | refine Elt.cast (by first | exact True.intro | exact Int.natCast_nonneg _ | omega) (by omega) ?_
            | refine Drw.mk (by kernel_rfl) ?_
            | refine Tst.any (fun h => ?_) (fun h => ?_)
            | refine Ret.bool ?_
            | refine Ret.int ?_
            | refine Row.is True.intro ?_
            | refine Ret.str ?_)
        · rename_i h3
          rw [if_pos (by omega)] at b2
          rw [← b2]
          exact Ret.of rfl
        · rename_i h3
          rw [if_neg (by omega)] at b2
          exact Bck.at3 (i + 1) _ _ (by refine ⟨[(15, some 16), (16, some 44)], rfl, rfl, ?_, ?_⟩ <;> (repeat' (first | exact trivial | exact retP_refl _ | refine And.intro ?_ ?_ | exact rfl))) ⟨by omega, by omega, by omega, b2⟩ (by omega)
    case refine_1.refine_2 =>
      rw [List.drop_eq_nil_of_le (by rw [sw_len]; omega), swGo] at hc
      rw [← hc]
      repeat' ((try (conv => whnf)); first
          | refine Row.new (by omega) (by decide) ?_
          | refine Num.len ?_
          | refine Num.i64 (by omega) ?_
          | refine Tst.dec (fun h => ?_) (fun h => ?_)
          | refine Tst.ndec (fun h => ?_) (fun h => ?_)
          | refine Elt.cast (by first | exact True.intro | exact Int.natCast_nonneg _ | omega) (by omega) ?_
          | refine Drw.mk (by kernel_rfl) ?_
          | refine Tst.any (fun h => ?_) (fun h => ?_)
          | refine Ret.bool ?_
          | refine Ret.int ?_
          | refine Row.is True.intro ?_
          | refine Ret.str ?_)
      exact Ret.of rfl
  · repeat' ((try (conv => whnf)); first
        | refine Num.len ?_
        | refine Num.i64 (by omega) ?_
        | refine Tst.dec (fun h => ?_) (fun h => ?_)
        | refine Tst.ndec (fun h => ?_) (fun h => ?_)
        | refine Elt.cast (by first | exact True.intro | exact Int.natCast_nonneg _ | omega) (by omega) ?_
        | refine Drw.mk (by kernel_rfl) ?_
        | refine Tst.any (fun h => ?_) (fun h => ?_)
        | refine Ret.bool ?_
        | refine Ret.int ?_
        | refine Row.is True.intro ?_
        | refine Ret.str ?_)
    refine Ret.of ?_
    simp [stdw, ha, ints, B]; rfl
theorem iStandardWord_call (a : List Int) (hl : a.length ≤ 1048576) : CallV Tryd.prog 37 [ints a] [ints ((stdw a).getD []), B (stdw a).isSome] := by
  refine callV_of pk Tryd.func37 rfl rfl ?_
  refine Cal.bool (iAreQuotients_call a hl) rfl (fun ha => ?_) (fun ha => ?_)
  · have hn := ha.1
    repeat' ((try (conv => whnf)); first
        | refine Num.len ?_
        | refine Num.i64 (by omega) ?_
        | refine Tst.dec (fun h => ?_) (fun h => ?_)
        | refine Tst.ndec (fun h => ?_) (fun h => ?_)
        | refine Elt.cast (by first | exact True.intro | exact Int.natCast_nonneg _ | omega) (by omega) ?_
        | refine Drw.mk (by kernel_rfl) ?_
        | refine Tst.any (fun h => ?_) (fun h => ?_)
        | refine Ret.bool ?_
        | refine Ret.int ?_
        | refine Row.is True.intro ?_
        | refine Ret.str ?_)
    refine Lop.of3 (fun (i : Nat) (b l : List Int) => i ≤ a.length ∧ b.length ≤ 400 ∧ l.length ≤ 400 ∧ swGo ((swTimes a).drop i) b l = stdw a) (fun i b l => (⟨45, [(4, .row 14), (5, .row 15), (15, .pv (ints a)), (16, .pv (I a.length)), (17, .pv (I i))], [(14, some (1, 3, ints b)), (15, some (1, 3, ints l))]⟩ : St)) (fun i _ _ => a.length - i) 0 [1] [0]
      ⟨by omega, by simp, by simp, by simp [stdw, ha]⟩ (by refine ⟨[(14, some 14), (15, some 15)], rfl, rfl, ?_, ?_⟩ <;> (repeat' (first | exact trivial | exact retP_refl _ | refine And.intro ?_ ?_ | exact rfl))) fun i b l ⟨hi, hb, hw, hc⟩ => ?_
    repeat' ((try (conv => whnf)); first
        | refine Num.len ?_
        | refine Num.i64 (by omega) ?_
        | refine Tst.dec (fun h => ?_) (fun h => ?_)
        | refine Tst.ndec (fun h => ?_) (fun h => ?_)
        | refine Elt.cast (by first | exact True.intro | exact Int.natCast_nonneg _ | omega) (by omega) ?_
        | refine Drw.mk (by kernel_rfl) ?_
        | refine Tst.any (fun h => ?_) (fun h => ?_)
        | refine Ret.bool ?_
        | refine Ret.int ?_
        | refine Row.is True.intro ?_
        | refine Ret.str ?_)
    case refine_1.refine_1.refine_1 =>
      rename_i h1 h2
      have hq := ha.2 _ (at_mem (l := a) (i := i) (by omega))
      have e : IntKind.i64.wrap (at' a i - 1) = at' (swTimes a) i := by
        obtain rfl : i = 0 := by omega
        rw [sw_first (by omega), Vm.i64 (by omega)]
      repeat' ((try (conv => whnf)); first
          | refine Num.eq True.intro e ?_
          | refine Num.len ?_
          | refine Num.i64 (by omega) ?_
          | refine Tst.dec (fun h => ?_) (fun h => ?_)
          | refine Tst.ndec (fun h => ?_) (fun h => ?_)
          | refine Elt.cast (by first | exact True.intro | exact Int.natCast_nonneg _ | omega) (by omega) ?_
          | refine Drw.mk (by kernel_rfl) ?_
          | refine Tst.any (fun h => ?_) (fun h => ?_)
          | refine Ret.bool ?_
          | refine Ret.int ?_
          | refine Row.is True.intro ?_
          | refine Ret.str ?_)
      have ⟨b1, b2⟩ := sw_step ha (i := i) (by omega) hc
      refine Lop.of (ι := Nat) (fun k => k ≤ (at' (swTimes a) i).toNat) (fun k => (⟨45, [(4, .row 14), (5, .row 15), (8, .row 27), (15, .pv (ints a)), (16, .pv (I a.length)), (17, .pv (I i)), (27, .pv (I (at' (swTimes a) i))), (28, .pv (I k))], [(14, some (1, 3, ints b)), (15, some (1, 3, ints l)), (27, some (1, 3, ints (reps k l)))]⟩ : St)) (fun k => (at' (swTimes a) i).toNat - k) 0
        (by omega) (by refine ⟨[(14, some 14), (15, some 15), (27, some 27)], rfl, rfl, ?_, ?_⟩ <;> (repeat' (first | exact trivial | exact retP_refl _ | refine And.intro ?_ ?_ | exact rfl))) fun k hk => ?_
      repeat' ((try (conv => whnf)); first
          | refine Row.app reps_next (Nat.le_trans (reps_room (n := 0) (by omega) hw (by omega)) (by omega)) (by decide) ?_
          | refine Num.len ?_
          | refine Num.i64 (by omega) ?_
          | refine Tst.dec (fun h => ?_) (fun h => ?_)
          | refine Tst.ndec (fun h => ?_) (fun h => ?_)
          | refine Elt.cast (by first | exact True.intro | exact Int.natCast_nonneg _ | omega) (by omega) ?_
          | refine Drw.mk (by kernel_rfl) ?_
          | refine Tst.any (fun h => ?_) (fun h => ?_)
          | refine Ret.bool ?_
          | refine Ret.int ?_
          | refine Row.is True.intro ?_
          | refine Ret.str ?_)
      · exact Bck.at (k + 1) (by refine ⟨[(14, some 14), (15, some 15), (27, some 33)], rfl, rfl, ?_, ?_⟩ <;> (repeat' (first | exact trivial | exact retP_refl _ | refine And.intro ?_ ?_ | exact rfl))) (by omega) (by omega)
      · have ek : at' (swTimes a) i = k := by omega
        rw [ek] at b1 b2
        conv => whnf
        refine Row.app rfl (by rw [List.length_append]; exact Nat.le_trans (reps_room b1 hw hb) (by omega)) (by decide) ?_
        repeat' ((try (conv => whnf)); first
            | refine Num.len ?_
            | refine Num.i64 (by omega) ?_
            | refine Tst.dec (fun h => ?_) (fun h => ?_)
            | refine Tst.ndec (fun h => ?_) (fun h => ?_)
            | refine Elt.cast (by first | exact True.intro | exact Int.natCast_nonneg _ | omega) (by omega) ?_
            | refine Drw.mk (by kernel_rfl) ?_
            | refine Tst.any (fun h => ?_) (fun h => ?_)
            | refine Ret.bool ?_
            | refine Ret.int ?_
            | refine Row.is True.intro ?_
            | refine Ret.str ?_)
        · rename_i h3
          rw [if_pos (by omega)] at b2
          rw [← b2]
          exact Ret.of rfl
        · rename_i h3
          rw [if_neg (by omega)] at b2
          exact Bck.at3 (i + 1) _ _ (by refine ⟨[(14, some 15), (15, some 37)], rfl, rfl, ?_, ?_⟩ <;> (repeat' (first | exact trivial | exact retP_refl _ | refine And.intro ?_ ?_ | exact rfl))) ⟨by omega, by omega, by omega, b2⟩ (by omega)
    case refine_1.refine_1.refine_2 =>
      rename_i h1 h2
      rw [← sw_later (a := a) (i := i) (by omega) (by omega)]
      have ⟨b1, b2⟩ := sw_step ha (i := i) (by omega) hc
      refine Lop.of (ι := Nat) (fun k => k ≤ (at' (swTimes a) i).toNat) (fun k => (⟨45, [(4, .row 14), (5, .row 15), (8, .row 27), (15, .pv (ints a)), (16, .pv (I a.length)), (17, .pv (I i)), (27, .pv (I (at' (swTimes a) i))), (28, .pv (I k))], [(14, some (1, 3, ints b)), (15, some (1, 3, ints l)), (27, some (1, 3, ints (reps k l)))]⟩ : St)) (fun k => (at' (swTimes a) i).toNat - k) 0
        (by omega) (by refine ⟨[(14, some 14), (15, some 15), (27, some 27)], rfl, rfl, ?_, ?_⟩ <;> (repeat' (first | exact trivial | exact retP_refl _ | refine And.intro ?_ ?_ | exact rfl))) fun k hk => ?_
      repeat' ((try (conv => whnf)); first
          | refine Row.app reps_next (Nat.le_trans (reps_room (n := 0) (by omega) hw (by omega)) (by omega)) (by decide) ?_
          | refine Num.len ?_
          | refine Num.i64 (by omega) ?_
          | refine Tst.dec (fun h => ?_) (fun h => ?_)
          | refine Tst.ndec (fun h => ?_) (fun h => ?_)
          | refine Elt.cast (by first | exact True.intro | exact Int.natCast_nonneg _ | omega) (by omega) ?_
          | refine Drw.mk (by kernel_rfl) ?_
          | refine Tst.any (fun h => ?_) (fun h => ?_)
          | refine Ret.bool ?_
          | refine Ret.int ?_
          | refine Row.is True.intro ?_
          | refine Ret.str ?_)
      · exact Bck.at (k + 1) (by refine ⟨[(14, some 14), (15, some 15), (27, some 33)], rfl, rfl, ?_, ?_⟩ <;> (repeat' (first | exact trivial | exact retP_refl _ | refine And.intro ?_ ?_ | exact rfl))) (by omega) (by omega)
      · have ek : at' (swTimes a) i = k := by omega
        rw [ek] at b1 b2
        conv => whnf
        refine Row.app rfl (by rw [List.length_append]; exact Nat.le_trans (reps_room b1 hw hb) (by omega)) (by decide) ?_
        repeat' ((try (conv => whnf)); first
            | refine Num.len ?_
            | refine Num.i64 (by omega) ?_
            | refine Tst.dec (fun h => ?_) (fun h => ?_)
            | refine Tst.ndec (fun h => ?_) (fun h => ?_)
            | refine Elt.cast (by first | exact True.intro | exact Int.natCast_nonneg _ | omega) (by omega) ?_
            | refine Drw.mk (by kernel_rfl) ?_
            | refine Tst.any (fun h => ?_) (fun h => ?_)
            | refine Ret.bool ?_
            | refine Ret.int ?_
            | refine Row.is True.intro ?_
            | refine Ret.str ?_)
        · rename_i h3
          rw [if_pos (by omega)] at b2
          rw [← b2]
          exact Ret.of rfl
        · rename_i h3
          rw [if_neg (by omega)] at b2
          exact Bck.at3 (i + 1) _ _ (by refine ⟨[(14, some 15), (15, some 37)], rfl, rfl, ?_, ?_⟩ <;> (repeat' (first | exact trivial | exact retP_refl _ | refine And.intro ?_ ?_ | exact rfl))) ⟨by omega, by omega, by omega, b2⟩ (by omega)
    case refine_1.refine_2 =>
      rw [List.drop_eq_nil_of_le (by rw [sw_len]; omega), swGo] at hc
      rw [← hc]
      exact Ret.of rfl
  · repeat' ((try (conv => whnf)); first
        | refine Num.len ?_
        | refine Num.i64 (by omega) ?_
        | refine Tst.dec (fun h => ?_) (fun h => ?_)
        | refine Tst.ndec (fun h => ?_) (fun h => ?_)
        | refine Elt.cast (by first | exact True.intro | exact Int.natCast_nonneg _ | omega) (by omega) ?_
        | refine Drw.mk (by kernel_rfl) ?_
        | refine Tst.any (fun h => ?_) (fun h => ?_)
        | refine Ret.bool ?_
        | refine Ret.int ?_
        | refine Row.is True.intro ?_
        | refine Ret.str ?_)
    refine Ret.of ?_
    simp [stdw, ha, ints, B]; rfl
end Go.Vm

/- Words and their texts. -/
set_option linter.unusedVariables false
set_option linter.unusedSimpArgs false
set_option maxRecDepth 4000
namespace Go.Vm
open Go Go.Proofs Go.RowKit
def isW (w : List Int) (n : Int) : Prop := (1 ≤ n ∧ n ≤ 16 ∧ w.length ≤ 400) ∧ ∀ x ∈ w, 0 ≤ x ∧ x < n
instance (w : List Int) (n : Int) : Decidable (isW w n) := by unfold isW; infer_instance
theorem take_all {α : Type} [Inhabited α] {l : List α} {p : α → Prop} {i : Nat} (hi : i < l.length) (h : ∀ x ∈ l.take i, p x) (hp : p (at' l i)) : ∀ x ∈ l.take (i + 1), p x := by
  rw [take_next hi]
  intro x hx
  rcases List.mem_append.1 hx with hx | hx
  · exact h x hx
  · simp at hx; exact hx ▸ hp
theorem take_end {α : Type} {l : List α} {p : α → Prop} {i : Nat} (hi : l.length ≤ i) (h : ∀ x ∈ l.take i, p x) : ∀ x ∈ l, p x := by
  rwa [List.take_of_length_le hi] at h
theorem not_all {α : Type} [Inhabited α] {l : List α} {p : α → Prop} {i : Nat} (hi : i < l.length) (hp : ¬ p (at' l i)) : ¬ ∀ x ∈ l, p x := fun h => hp (h _ (at_mem hi))
theorem sIsWord_call (w : List Int) (n : Int) (hl : w.length ≤ 1048576) : CallV Tryd.prog 82 [ints w, I n] [B (decide (isW w n))] := by
  refine callV_of pk Tryd.func82 rfl rfl ?_
  repeat' ((try (conv => whnf)); first
      | refine Num.len ?_
      | refine Num.i64 (by omega) ?_
      | refine Tst.dec (fun h => ?_) (fun h => ?_)
      | refine Tst.ndec (fun h => ?_) (fun h => ?_)
      | refine Elt.cast (by first | exact True.intro | exact Int.natCast_nonneg _ | omega) (by omega) ?_
      | refine Drw.mk (by kernel_rfl) ?_
      | refine Tst.any (fun h => ?_) (fun h => ?_)
      | refine Ret.bool ?_
      | refine Ret.int ?_
      | refine Row.is True.intro ?_
      | refine Ret.str ?_)
  refine Lop.of (ι := Nat) (fun i => i ≤ w.length ∧ ∀ x ∈ w.take i, 0 ≤ x ∧ x < n) (fun i => (⟨32, [(0, .pv (ints w)), (1, .pv (I n)), (5, .pv (I i))], []⟩ : St)) (fun i => w.length - i) 0
      ⟨Nat.zero_le _, by simp⟩ (by refine ⟨[], rfl, rfl, ?_, ?_⟩ <;> (repeat' (first | exact trivial | exact retP_refl _ | refine And.intro ?_ ?_ | exact rfl))) fun i ⟨hi, hm⟩ => ?_
  repeat' ((try (conv => whnf)); first
      | refine Cal.bool (l1In_call n 1 16) rfl (fun h => ?_) (fun h => ?_)
      | refine Num.len ?_
      | refine Num.i64 (by omega) ?_
      | refine Tst.dec (fun h => ?_) (fun h => ?_)
      | refine Tst.ndec (fun h => ?_) (fun h => ?_)
      | refine Elt.cast (by first | exact True.intro | exact Int.natCast_nonneg _ | omega) (by omega) ?_
      | refine Drw.mk (by kernel_rfl) ?_
      | refine Tst.any (fun h => ?_) (fun h => ?_)
      | refine Ret.bool ?_
      | refine Ret.int ?_
      | refine Row.is True.intro ?_
      | refine Ret.str ?_)
  · exact (decide_eq_false fun h => not_all (i := i) (by omega) (by omega) h.2).symm
  · exact (decide_eq_false fun h => not_all (i := i) (by omega) (by omega) h.2).symm
  · exact Bck.at (i + 1) (by refine ⟨[], rfl, rfl, ?_, ?_⟩ <;> (repeat' (first | exact trivial | exact retP_refl _ | refine And.intro ?_ ?_ | exact rfl))) ⟨by omega, take_all (by omega) hm (by omega)⟩ (by omega)
  · have hm := take_end (by omega) hm
    exact (decide_eq_true ⟨by omega, hm⟩).symm
  · exact (decide_eq_false fun h => by have := h.1; omega).symm
  · exact (decide_eq_false fun h => by have := h.1; omega).symm
theorem areLetters_call (w : List Int) (n : Int) (hl : w.length ≤ 1048576) : CallV Tryd.prog 128 [ints w, I n] [B (decide (∀ x ∈ w, 0 ≤ x ∧ x < n))] := by
  refine callV_of pk Tryd.func128 rfl rfl ?_
  repeat' ((try (conv => whnf)); first
      | refine Num.len ?_
      | refine Num.i64 (by omega) ?_
      | refine Tst.dec (fun h => ?_) (fun h => ?_)
      | refine Tst.ndec (fun h => ?_) (fun h => ?_)
      | refine Elt.cast (by first | exact True.intro | exact Int.natCast_nonneg _ | omega) (by omega) ?_
      | refine Drw.mk (by kernel_rfl) ?_
      | refine Tst.any (fun h => ?_) (fun h => ?_)
      | refine Ret.bool ?_
      | refine Ret.int ?_
      | refine Row.is True.intro ?_
      | refine Ret.str ?_)
  refine Lop.of (ι := Nat) (fun i => i ≤ w.length ∧ ∀ x ∈ w.take i, 0 ≤ x ∧ x < n) (fun i => (⟨21, [(1, .pv (I n)), (7, .pv (ints w)), (8, .pv (I w.length)), (9, .pv (I i))], []⟩ : St)) (fun i => w.length - i) 0
      ⟨Nat.zero_le _, by simp⟩ (by refine ⟨[], rfl, rfl, ?_, ?_⟩ <;> (repeat' (first | exact trivial | exact retP_refl _ | refine And.intro ?_ ?_ | exact rfl))) fun i ⟨hi, hm⟩ => ?_
  repeat' ((try (conv => whnf)); first
      | refine Num.len ?_
      | refine Num.i64 (by omega) ?_
      | refine Tst.dec (fun h => ?_) (fun h => ?_)
      | refine Tst.ndec (fun h => ?_) (fun h => ?_)
      | refine Elt.cast (by first | exact True.intro | exact Int.natCast_nonneg _ | omega) (by omega) ?_
      | refine Drw.mk (by kernel_rfl) ?_
      | refine Tst.any (fun h => ?_) (fun h => ?_)
      | refine Ret.bool ?_
      | refine Ret.int ?_
      | refine Row.is True.intro ?_
      | refine Ret.str ?_)
  · exact (decide_eq_false fun h => not_all (i := i) (by omega) (by omega) h).symm
  · exact (decide_eq_false fun h => not_all (i := i) (by omega) (by omega) h).symm
  · exact Bck.at (i + 1) (by refine ⟨[], rfl, rfl, ?_, ?_⟩ <;> (repeat' (first | exact trivial | exact retP_refl _ | refine And.intro ?_ ?_ | exact rfl))) ⟨by omega, take_all (by omega) hm (by omega)⟩ (by omega)
  · exact (decide_eq_true (take_end (by omega) hm)).symm
theorem iIsWord_call (w : List Int) (n : Int) (hl : w.length ≤ 1048576) : CallV Tryd.prog 88 [ints w, I n] [B (decide (isW w n))] := by
  refine callV_of pk Tryd.func88 rfl rfl ?_
  repeat' ((try (conv => whnf)); first
      | refine Cal.bool (areLetters_call w n hl) rfl (fun h => ?_) (fun h => ?_)
      | refine Num.len ?_
      | refine Num.i64 (by omega) ?_
      | refine Tst.dec (fun h => ?_) (fun h => ?_)
      | refine Tst.ndec (fun h => ?_) (fun h => ?_)
      | refine Elt.cast (by first | exact True.intro | exact Int.natCast_nonneg _ | omega) (by omega) ?_
      | refine Drw.mk (by kernel_rfl) ?_
      | refine Tst.any (fun h => ?_) (fun h => ?_)
      | refine Ret.bool ?_
      | refine Ret.int ?_
      | refine Row.is True.intro ?_
      | refine Ret.str ?_)
  · exact (decide_eq_true ⟨by omega, by assumption⟩).symm
  · rename_i h; exact (decide_eq_false fun h2 => h h2.2).symm
  all_goals exact (decide_eq_false fun h => by have := h.1; omega).symm
def hex : ByteArray := ⟨#[48, 49, 50, 51, 52, 53, 54, 55, 56, 57, 97, 98, 99, 100, 101, 102]⟩
/-- A digit. -/
def dig (x : Int) : UInt8 := hex.data.getD x.toNat 0
def digs (w : List Int) : ByteArray := ⟨(w.map dig).toArray⟩
theorem digs_app {a b : List Int} : digs a ++ digs b = digs (a ++ b) := ByteArray.ext (by simp [digs, ByteArray.data_append])
theorem digs_size {a : List Int} : (digs a).size = a.length := by simp [digs, ByteArray.size]
theorem hex_at {x : Int} (h : 0 ≤ x ∧ x < 16) : hex.extract x.toNat (x + 1).toNat = digs [x] := by
  have k : ∀ n, n < 16 → hex.extract n (n + 1) = digs [(n : Int)] := by decide
  have := k x.toNat (by omega)
  rw [show ((x.toNat : Nat) : Int) = x by omega] at this
  rw [← this, show (x + 1).toNat = x.toNat + 1 by omega]
theorem l3Digits_call (w : List Int) (hw : isW w 16) : CallV Tryd.prog 83 [ints w] [S (digs w)] := by
  refine callV_of pk Tryd.func83 rfl rfl ?_
  have hn := hw.1
  repeat' ((try (conv => whnf)); first
      | refine Num.len ?_
      | refine Num.i64 (by omega) ?_
      | refine Tst.dec (fun h => ?_) (fun h => ?_)
      | refine Tst.ndec (fun h => ?_) (fun h => ?_)
      | refine Elt.cast (by first | exact True.intro | exact Int.natCast_nonneg _ | omega) (by omega) ?_
      | refine Drw.mk (by kernel_rfl) ?_
      | refine Tst.any (fun h => ?_) (fun h => ?_)
      | refine Ret.bool ?_
      | refine Ret.int ?_
      | refine Row.is True.intro ?_
      | refine Ret.str ?_)
  refine Lop.of2 (fun (i : Nat) (s : ByteArray) => i ≤ w.length ∧ s = digs (w.take i)) (fun i s => (⟨26, [(0, .pv (ints w)), (3, .pv (S s)), (4, .pv (S hex)), (5, .pv (I i))], []⟩ : St)) (fun i _ => w.length - i) 0 (digs (w.take 0))
      ⟨Nat.zero_le _, rfl⟩ (by refine ⟨[], rfl, rfl, ?_, ?_⟩ <;> (repeat' (first | exact trivial | exact retP_refl _ | refine And.intro ?_ ?_ | exact rfl))) fun i s ⟨hi, hs⟩ => ?_
  repeat' ((try (conv => whnf)); first
      | refine Num.len ?_
      | refine Num.i64 (by omega) ?_
      | refine Tst.dec (fun h => ?_) (fun h => ?_)
      | refine Tst.ndec (fun h => ?_) (fun h => ?_)
      | refine Elt.cast (by first | exact True.intro | exact Int.natCast_nonneg _ | omega) (by omega) ?_
      | refine Drw.mk (by kernel_rfl) ?_
      | refine Tst.any (fun h => ?_) (fun h => ?_)
      | refine Ret.bool ?_
      | refine Ret.int ?_
      | refine Row.is True.intro ?_
      | refine Ret.str ?_)
  · have hx := hw.2 _ (at_mem (l := w) (i := i) (by omega))
    repeat' ((try (conv => whnf)); first
        | refine Owe.by (by have hz : (hex.size : Int) = 16 := rfl; omega) ?_
        | refine Num.len ?_
        | refine Num.i64 (by omega) ?_
        | refine Tst.dec (fun h => ?_) (fun h => ?_)
        | refine Tst.ndec (fun h => ?_) (fun h => ?_)
        | refine Elt.cast (by first | exact True.intro | exact Int.natCast_nonneg _ | omega) (by omega) ?_
        | refine Drw.mk (by kernel_rfl) ?_
        | refine Tst.any (fun h => ?_) (fun h => ?_)
        | refine Ret.bool ?_
        | refine Ret.int ?_
        | refine Row.is True.intro ?_
        | refine Ret.str ?_)
    have hd := hex_at hx
    have hsz : s.size ≤ 400 := by rw [hs, digs_size]; simp; omega
    have hsz2 : (digs [at' w i]).size = 1 := digs_size
    rw [hd]
    refine Owe.by (by omega) ?_
    repeat' ((try (conv => whnf)); first
        | refine Num.len ?_
        | refine Num.i64 (by omega) ?_
        | refine Tst.dec (fun h => ?_) (fun h => ?_)
        | refine Tst.ndec (fun h => ?_) (fun h => ?_)
        | refine Elt.cast (by first | exact True.intro | exact Int.natCast_nonneg _ | omega) (by omega) ?_
        | refine Drw.mk (by kernel_rfl) ?_
        | refine Tst.any (fun h => ?_) (fun h => ?_)
        | refine Ret.bool ?_
        | refine Ret.int ?_
        | refine Row.is True.intro ?_
        | refine Ret.str ?_)
    refine Bck.at2 (i + 1) _ (by refine ⟨[], rfl, rfl, ?_, ?_⟩ <;> (repeat' (first | exact trivial | exact retP_refl _ | refine And.intro ?_ ?_ | exact rfl))) ⟨by omega, ?_⟩ (by omega)
    rw [hs, digs_app, take_next (by omega)]
  · rw [hs, List.take_of_length_le (by omega)]
theorem spelled_call (w : List Int) (hw : isW w 16) : CallV Tryd.prog 89 [ints w] [S (digs w)] := by
  refine callV_of pk Tryd.func89 rfl rfl ?_
  have hn := hw.1
  repeat' ((try (conv => whnf)); first
      | refine Num.len ?_
      | refine Num.i64 (by omega) ?_
      | refine Tst.dec (fun h => ?_) (fun h => ?_)
      | refine Tst.ndec (fun h => ?_) (fun h => ?_)
      | refine Elt.cast (by first | exact True.intro | exact Int.natCast_nonneg _ | omega) (by omega) ?_
      | refine Drw.mk (by kernel_rfl) ?_
      | refine Tst.any (fun h => ?_) (fun h => ?_)
      | refine Ret.bool ?_
      | refine Ret.int ?_
      | refine Row.is True.intro ?_
      | refine Ret.str ?_)
  refine Lop.of (ι := Nat) (fun i => i ≤ w.length) (fun i => (⟨21, [(3, .row 7), (7, .pv (ints w)), (8, .pv (I w.length)), (9, .pv (I i))], [(7, some (1, 5, .sl 1 ((w.take i).map fun x => Yb (dig x))))]⟩ : St)) (fun i => w.length - i) 0
      (Nat.zero_le _) (by refine ⟨[(7, some 7)], rfl, rfl, ?_, ?_⟩ <;> (repeat' (first | exact trivial | exact retP_refl _ | refine And.intro ?_ ?_ | exact rfl))) fun i hi => ?_
  repeat' ((try (conv => whnf)); first
      | refine Num.len ?_
      | refine Num.i64 (by omega) ?_
      | refine Tst.dec (fun h => ?_) (fun h => ?_)
      | refine Tst.ndec (fun h => ?_) (fun h => ?_)
      | refine Elt.cast (by first | exact True.intro | exact Int.natCast_nonneg _ | omega) (by omega) ?_
      | refine Drw.mk (by kernel_rfl) ?_
      | refine Tst.any (fun h => ?_) (fun h => ?_)
      | refine Ret.bool ?_
      | refine Ret.int ?_
      | refine Row.is True.intro ?_
      | refine Ret.str ?_)
  · have hx := hw.2 _ (at_mem (l := w) (i := i) (by omega))
    repeat' ((try (conv => whnf)); first
        | refine Owe.by (by show _ ∧ _ < ((16 : Nat) : Int); omega) ?_
        | refine Num.len ?_
        | refine Num.i64 (by omega) ?_
        | refine Tst.dec (fun h => ?_) (fun h => ?_)
        | refine Tst.ndec (fun h => ?_) (fun h => ?_)
        | refine Elt.cast (by first | exact True.intro | exact Int.natCast_nonneg _ | omega) (by omega) ?_
        | refine Drw.mk (by kernel_rfl) ?_
        | refine Tst.any (fun h => ?_) (fun h => ?_)
        | refine Ret.bool ?_
        | refine Ret.int ?_
        | refine Row.is True.intro ?_
        | refine Ret.str ?_)
    refine Row.push (f := fun x => Yb (dig x)) (x := at' w i) (take_next (by omega)).symm (by simp; omega) (by decide) ?_
    repeat' ((try (conv => whnf)); first
        | refine Num.len ?_
        | refine Num.i64 (by omega) ?_
        | refine Tst.dec (fun h => ?_) (fun h => ?_)
        | refine Tst.ndec (fun h => ?_) (fun h => ?_)
        | refine Elt.cast (by first | exact True.intro | exact Int.natCast_nonneg _ | omega) (by omega) ?_
        | refine Drw.mk (by kernel_rfl) ?_
        | refine Tst.any (fun h => ?_) (fun h => ?_)
        | refine Ret.bool ?_
        | refine Ret.int ?_
        | refine Row.is True.intro ?_
        | refine Ret.str ?_)
    exact Bck.at (i + 1) (by refine ⟨[(7, some 18)], rfl, rfl, ?_, ?_⟩ <;> (repeat' (first | exact trivial | exact retP_refl _ | refine And.intro ?_ ?_ | exact rfl))) (by omega) (by omega)
  · rw [List.take_of_length_le (by omega)]
    refine Byt.of (digs w) (by simp [digs]) ?_
    repeat' ((try (conv => whnf)); first
        | refine Num.len ?_
        | refine Num.i64 (by omega) ?_
        | refine Tst.dec (fun h => ?_) (fun h => ?_)
        | refine Tst.ndec (fun h => ?_) (fun h => ?_)
        | refine Elt.cast (by first | exact True.intro | exact Int.natCast_nonneg _ | omega) (by omega) ?_
        | refine Drw.mk (by kernel_rfl) ?_
        | refine Tst.any (fun h => ?_) (fun h => ?_)
        | refine Ret.bool ?_
        | refine Ret.int ?_
        | refine Row.is True.intro ?_
        | refine Ret.str ?_)
    rfl
end Go.Vm

/- Words: their texts, central words, palindromes. -/
set_option linter.unusedVariables false
set_option linter.unusedSimpArgs false
set_option maxRecDepth 4000
namespace Go.Vm
open Go Go.Proofs Go.RowKit
def fmtW (w : List Int) : ByteArray := if isW w 16 then (if w = [] then ⟨#[101, 109, 112, 116, 121]⟩ else digs w) else ⟨#[]⟩
theorem sFormatWord_call (w : List Int) (hl : w.length ≤ 1048576) : CallV Tryd.prog 32 [ints w] [S (fmtW w)] := by
  refine callV_of pk Tryd.func32 rfl rfl ?_
  refine Cal.bool (sIsWord_call w 16 hl) rfl (fun hw => ?_) (fun hw => ?_)
  · repeat' ((try (conv => whnf)); first
        | refine Cal.by (l3Digits_call w hw) rfl ?_
        | refine Num.len ?_
        | refine Num.i64 (by omega) ?_
        | refine Tst.dec (fun h => ?_) (fun h => ?_)
        | refine Tst.ndec (fun h => ?_) (fun h => ?_)
        | refine Elt.cast (by first | exact True.intro | exact Int.natCast_nonneg _ | omega) (by omega) ?_
        | refine Drw.mk (by kernel_rfl) ?_
        | refine Tst.any (fun h => ?_) (fun h => ?_)
        | refine Ret.bool ?_
        | refine Ret.int ?_
        | refine Row.is True.intro ?_
        | refine Ret.str ?_)
    · simp [fmtW, hw]; intro hc; simp_all
    · simp [fmtW, hw]; intro hc; simp_all
  · repeat' ((try (conv => whnf)); first
        | refine Num.len ?_
        | refine Num.i64 (by omega) ?_
        | refine Tst.dec (fun h => ?_) (fun h => ?_)
        | refine Tst.ndec (fun h => ?_) (fun h => ?_)
        | refine Elt.cast (by first | exact True.intro | exact Int.natCast_nonneg _ | omega) (by omega) ?_
        | refine Drw.mk (by kernel_rfl) ?_
        | refine Tst.any (fun h => ?_) (fun h => ?_)
        | refine Ret.bool ?_
        | refine Ret.int ?_
        | refine Row.is True.intro ?_
        | refine Ret.str ?_)
    simp [fmtW, hw]
theorem iFormatWord_call (w : List Int) (hl : w.length ≤ 1048576) : CallV Tryd.prog 39 [ints w] [S (fmtW w)] := by
  refine callV_of pk Tryd.func39 rfl rfl ?_
  refine Cal.bool (iIsWord_call w 16 hl) rfl (fun hw => ?_) (fun hw => ?_)
  · repeat' ((try (conv => whnf)); first
        | refine Cal.by (spelled_call w hw) rfl ?_
        | refine Num.len ?_
        | refine Num.i64 (by omega) ?_
        | refine Tst.dec (fun h => ?_) (fun h => ?_)
        | refine Tst.ndec (fun h => ?_) (fun h => ?_)
        | refine Elt.cast (by first | exact True.intro | exact Int.natCast_nonneg _ | omega) (by omega) ?_
        | refine Drw.mk (by kernel_rfl) ?_
        | refine Tst.any (fun h => ?_) (fun h => ?_)
        | refine Ret.bool ?_
        | refine Ret.int ?_
        | refine Row.is True.intro ?_
        | refine Ret.str ?_)
    · simp [fmtW, hw]; intro hc; simp_all
    · simp [fmtW, hw]; intro hc; simp_all
  · repeat' ((try (conv => whnf)); first
        | refine Num.len ?_
        | refine Num.i64 (by omega) ?_
        | refine Tst.dec (fun h => ?_) (fun h => ?_)
        | refine Tst.ndec (fun h => ?_) (fun h => ?_)
        | refine Elt.cast (by first | exact True.intro | exact Int.natCast_nonneg _ | omega) (by omega) ?_
        | refine Drw.mk (by kernel_rfl) ?_
        | refine Tst.any (fun h => ?_) (fun h => ?_)
        | refine Ret.bool ?_
        | refine Ret.int ?_
        | refine Row.is True.intro ?_
        | refine Ret.str ?_)
    simp [fmtW, hw]
theorem l3Same_call (a b : List Int) (hx : a.length ≤ 1048576) (hy : b.length ≤ 1048576) : CallV Tryd.prog 84 [ints a, ints b] [B (decide (a = b))] := by
  refine callV_of pk Tryd.func84 rfl rfl ?_
  repeat' ((try (conv => whnf)); first
      | refine Num.len ?_
      | refine Num.i64 (by omega) ?_
      | refine Tst.dec (fun h => ?_) (fun h => ?_)
      | refine Tst.ndec (fun h => ?_) (fun h => ?_)
      | refine Elt.cast (by first | exact True.intro | exact Int.natCast_nonneg _ | omega) (by omega) ?_
      | refine Drw.mk (by kernel_rfl) ?_
      | refine Tst.any (fun h => ?_) (fun h => ?_)
      | refine Ret.bool ?_
      | refine Ret.int ?_
      | refine Row.is True.intro ?_
      | refine Ret.str ?_)
  · simp; rintro rfl; omega
  refine Lop.of (ι := Nat) (fun i => i ≤ a.length ∧ a.take i = b.take i) (fun i => (⟨26, [(0, .pv (ints a)), (1, .pv (ints b)), (5, .pv (I i))], []⟩ : St)) (fun i => a.length - i) 0
      ⟨Nat.zero_le _, rfl⟩ (by refine ⟨[], rfl, rfl, ?_, ?_⟩ <;> (repeat' (first | exact trivial | exact retP_refl _ | refine And.intro ?_ ?_ | exact rfl))) fun i hi => ?_
  repeat' ((try (conv => whnf)); first
      | refine Num.len ?_
      | refine Num.i64 (by omega) ?_
      | refine Tst.dec (fun h => ?_) (fun h => ?_)
      | refine Tst.ndec (fun h => ?_) (fun h => ?_)
      | refine Elt.cast (by first | exact True.intro | exact Int.natCast_nonneg _ | omega) (by omega) ?_
      | refine Drw.mk (by kernel_rfl) ?_
      | refine Tst.any (fun h => ?_) (fun h => ?_)
      | refine Ret.bool ?_
      | refine Ret.int ?_
      | refine Row.is True.intro ?_
      | refine Ret.str ?_)
  · simp; rintro rfl; omega
  · refine Bck.at (i + 1) (by refine ⟨[], rfl, rfl, ?_, ?_⟩ <;> (repeat' (first | exact trivial | exact retP_refl _ | refine And.intro ?_ ?_ | exact rfl))) ⟨by omega, ?_⟩ (by omega)
    rw [take_next (by omega), take_next (by omega)]; simp [*]
  · simp; have := hi.2; rw [List.take_of_length_le (by omega), List.take_of_length_le (by omega)] at this; exact this
theorem ReverseDigits_call (a : List Int) (hl : a.length ≤ 1048576) : CallV Tryd.prog 85 [ints a] [ints a.reverse] := by
  refine callV_of pk Tryd.func85 rfl rfl ?_
  repeat' ((try (conv => whnf)); first
      | refine Num.len ?_
      | refine Num.i64 (by omega) ?_
      | refine Tst.dec (fun h => ?_) (fun h => ?_)
      | refine Tst.ndec (fun h => ?_) (fun h => ?_)
      | refine Elt.cast (by first | exact True.intro | exact Int.natCast_nonneg _ | omega) (by omega) ?_
      | refine Drw.mk (by kernel_rfl) ?_
      | refine Tst.any (fun h => ?_) (fun h => ?_)
      | refine Ret.bool ?_
      | refine Ret.int ?_
      | refine Row.is True.intro ?_
      | refine Ret.str ?_)
  refine Lop.of (ι := Int) (fun i => -1 ≤ i ∧ i < a.length) (fun i => (⟨21, [(0, .pv (ints a)), (3, .row 6), (4, .pv (I i))], [(6, some (1, 3, .sl 1 ((a.drop (i + 1).toNat).reverse.map I)))]⟩ : St)) (fun i => (i + 1).toNat) (a.length - 1)
      ⟨by omega, by omega⟩ (by rw [List.drop_eq_nil_of_le (by omega)]; exact (by refine ⟨[(6, some 6)], rfl, rfl, ?_, ?_⟩ <;> (repeat' (first | exact trivial | exact retP_refl _ | refine And.intro ?_ ?_ | exact rfl)))) fun i hi => ?_
  repeat' ((try (conv => whnf)); first
      | refine Num.len ?_
      | refine Num.i64 (by omega) ?_
      | refine Tst.dec (fun h => ?_) (fun h => ?_)
      | refine Tst.ndec (fun h => ?_) (fun h => ?_)
      | refine Elt.cast (by first | exact True.intro | exact Int.natCast_nonneg _ | omega) (by omega) ?_
      | refine Drw.mk (by kernel_rfl) ?_
      | refine Tst.any (fun h => ?_) (fun h => ?_)
      | refine Ret.bool ?_
      | refine Ret.int ?_
      | refine Row.is True.intro ?_
      | refine Ret.str ?_)
  · repeat' ((try (conv => whnf)); first
        | refine Elt.int (by omega) (by omega) ?_
        | refine Num.len ?_
        | refine Num.i64 (by omega) ?_
        | refine Tst.dec (fun h => ?_) (fun h => ?_)
        | refine Tst.ndec (fun h => ?_) (fun h => ?_)
        | refine Elt.cast (by first | exact True.intro | exact Int.natCast_nonneg _ | omega) (by omega) ?_
        | refine Drw.mk (by kernel_rfl) ?_
        | refine Tst.any (fun h => ?_) (fun h => ?_)
        | refine Ret.bool ?_
        | refine Ret.int ?_
        | refine Row.is True.intro ?_
        | refine Ret.str ?_)
    refine Row.push (zs := (a.drop (i - 1 + 1).toNat).reverse) ?_ (by simp; omega) (by decide) ?_
    · rw [show (i - 1 + 1).toNat = i.toNat by omega, show (i + 1).toNat = i.toNat + 1 by omega, drop_at (i := i.toNat) (by omega)]; simp
    repeat' ((try (conv => whnf)); first
        | refine Num.len ?_
        | refine Num.i64 (by omega) ?_
        | refine Tst.dec (fun h => ?_) (fun h => ?_)
        | refine Tst.ndec (fun h => ?_) (fun h => ?_)
        | refine Elt.cast (by first | exact True.intro | exact Int.natCast_nonneg _ | omega) (by omega) ?_
        | refine Drw.mk (by kernel_rfl) ?_
        | refine Tst.any (fun h => ?_) (fun h => ?_)
        | refine Ret.bool ?_
        | refine Ret.int ?_
        | refine Row.is True.intro ?_
        | refine Ret.str ?_)
    exact Bck.at (i - 1) (by refine ⟨[(6, some 20)], rfl, rfl, ?_, ?_⟩ <;> (repeat' (first | exact trivial | exact retP_refl _ | refine And.intro ?_ ?_ | exact rfl))) (by omega) (by omega)
  · rw [show (i + 1).toNat = 0 by omega]
    exact Ret.of rfl
def isPal (a : List Int) : Prop := a = a.reverse
instance (a : List Int) : Decidable (isPal a) := by unfold isPal; infer_instance
theorem sIsPalindrome_call (a : List Int) (hl : a.length ≤ 1048576) : CallV Tryd.prog 35 [ints a] [B (decide (isPal a))] := by
  refine callV_of pk Tryd.func35 rfl rfl ?_
  repeat' ((try (conv => whnf)); first
      | refine Cal.by (ReverseDigits_call a hl) rfl ?_
      | refine Cal.by (l3Same_call a a.reverse hl (by simpa using hl)) rfl ?_
      | refine Num.len ?_
      | refine Num.i64 (by omega) ?_
      | refine Tst.dec (fun h => ?_) (fun h => ?_)
      | refine Tst.ndec (fun h => ?_) (fun h => ?_)
      | refine Elt.cast (by first | exact True.intro | exact Int.natCast_nonneg _ | omega) (by omega) ?_
      | refine Drw.mk (by kernel_rfl) ?_
      | refine Tst.any (fun h => ?_) (fun h => ?_)
      | refine Ret.bool ?_
      | refine Ret.int ?_
      | refine Row.is True.intro ?_
      | refine Ret.str ?_)
  rfl
theorem pal_of {a : List Int} (h : ∀ j, j < a.length / 2 → at' a j = at' a (a.length - 1 - j)) : isPal a := by
  refine List.ext_getElem (by simp) fun j h1 h2 => ?_
  rw [List.getElem_reverse]
  rw [← at_eq h1, ← at_eq (l := a) (i := a.length - 1 - j) (by omega)]
  rcases Nat.lt_trichotomy j (a.length - 1 - j) with h3 | h3 | h3
  · exact h j (by omega)
  · rw [← h3]
  · have := h (a.length - 1 - j) (by omega)
    rw [show a.length - 1 - (a.length - 1 - j) = j by omega] at this
    exact this.symm
theorem pal_to {a : List Int} (h : isPal a) {j : Nat} (hj : j < a.length) : at' a j = at' a (a.length - 1 - j) := by
  have e : at' a j = at' a.reverse j := congrArg (fun l => at' l j) h
  rw [e, at_eq (l := a.reverse) (i := j) (by simpa using hj), at_eq (l := a) (i := a.length - 1 - j) (by omega), List.getElem_reverse]
theorem iIsPalindrome_call (a : List Int) (hl : a.length ≤ 1048576) : CallV Tryd.prog 42 [ints a] [B (decide (isPal a))] := by
  refine callV_of pk Tryd.func42 rfl rfl ?_
  have e2 : IntKind.i64.wrap ((a.length : Int).tdiv 2) = ((a.length / 2 : Nat) : Int) := by
    rw [show (a.length : Int).tdiv 2 = ((a.length / 2 : Nat) : Int) from rfl, Vm.i64 (by omega)]
  repeat' ((try (conv => whnf)); first
      | refine Num.eq (by decide) e2 ?_
      | refine Num.len ?_
      | refine Num.i64 (by omega) ?_
      | refine Tst.dec (fun h => ?_) (fun h => ?_)
      | refine Tst.ndec (fun h => ?_) (fun h => ?_)
      | refine Elt.cast (by first | exact True.intro | exact Int.natCast_nonneg _ | omega) (by omega) ?_
      | refine Drw.mk (by kernel_rfl) ?_
      | refine Tst.any (fun h => ?_) (fun h => ?_)
      | refine Ret.bool ?_
      | refine Ret.int ?_
      | refine Row.is True.intro ?_
      | refine Ret.str ?_)
  refine Lop.of (ι := Nat) (fun i => i ≤ a.length / 2 ∧ ∀ j, j < i → at' a j = at' a (a.length - 1 - j)) (fun i => (⟨24, [(0, .pv (ints a)), (6, .pv (I (a.length / 2 : Nat))), (7, .pv (I i))], []⟩ : St)) (fun i => a.length / 2 - i) 0
      ⟨Nat.zero_le _, fun _ h => absurd h (Nat.not_lt_zero _)⟩ (by refine ⟨[], rfl, rfl, ?_, ?_⟩ <;> (repeat' (first | exact trivial | exact retP_refl _ | refine And.intro ?_ ?_ | exact rfl))) fun i ⟨hi, hm⟩ => ?_
  repeat' ((try (conv => whnf)); first
      | refine Elt.int (by omega) (by omega) ?_
      | refine Num.len ?_
      | refine Num.i64 (by omega) ?_
      | refine Tst.dec (fun h => ?_) (fun h => ?_)
      | refine Tst.ndec (fun h => ?_) (fun h => ?_)
      | refine Elt.cast (by first | exact True.intro | exact Int.natCast_nonneg _ | omega) (by omega) ?_
      | refine Drw.mk (by kernel_rfl) ?_
      | refine Tst.any (fun h => ?_) (fun h => ?_)
      | refine Ret.bool ?_
      | refine Ret.int ?_
      | refine Row.is True.intro ?_
      | refine Ret.str ?_)
  all_goals (try rw [show ((a.length : Int) - 1 - i).toNat = a.length - 1 - i by omega] at *)
  · rename_i h
    exact (decide_eq_false fun hp => h (pal_to hp (by omega))).symm
  · rename_i h
    refine Bck.at (i + 1) (by refine ⟨[], rfl, rfl, ?_, ?_⟩ <;> (repeat' (first | exact trivial | exact retP_refl _ | refine And.intro ?_ ?_ | exact rfl))) ⟨by omega, fun j hj => ?_⟩ (by omega)
    by_cases e : j = i
    · subst e; exact h
    · exact hm j (by omega)
  · exact (decide_eq_true (pal_of fun j hj => hm j (by omega))).symm
theorem callV_nilslice {P : Program} {f : FuncId} {k : Nat} {ps res : List PV} (h : ∀ A cap, CallV P f (.w (.slice A 0 cap) :: ps) res) : CallV P f (.sl k [] :: ps) res := by
  refine ⟨(h none 0).1, fun xs w col0 ho hb gl ha => ?_⟩
  obtain ⟨y, zs, rfl, ⟨cs, hr, rfl⟩, hz⟩ := ha
  simp only [Rep] at hr
  obtain ⟨v, d, rfl, _, hd, hs⟩ := hr
  obtain ⟨A, cap, rfl, _, _⟩ := hs
  exact (h A cap).2 _ w col0 ho hb gl ⟨_, _, rfl, ⟨_, ⟨rfl, rfl⟩, rfl⟩, hz⟩
theorem Clone_call (a : List Int) (hl : a.length ≤ 1048576) : CallV Tryd.prog 90 [ints a] [ints a] := by
  rcases a with _ | ⟨x, l⟩
  · refine callV_nilslice fun A cap => ?_
    rcases A with _ | A
    · refine callV_of pk Tryd.func90 rfl rfl ?_
      repeat' ((try (conv => whnf)); first
          | refine Num.len ?_
          | refine Num.i64 (by omega) ?_
          | refine Tst.dec (fun h => ?_) (fun h => ?_)
          | refine Tst.ndec (fun h => ?_) (fun h => ?_)
          | refine Elt.cast (by first | exact True.intro | exact Int.natCast_nonneg _ | omega) (by omega) ?_
          | refine Drw.mk (by kernel_rfl) ?_
          | refine Tst.any (fun h => ?_) (fun h => ?_)
          | refine Ret.bool ?_
          | refine Ret.int ?_
          | refine Row.is True.intro ?_
          | refine Ret.str ?_)
      exact ⟨by simp [retPs, retP, ints]⟩
    · refine callV_of pk Tryd.func90 rfl rfl ?_
      repeat' ((try (conv => whnf)); first
          | refine Num.len ?_
          | refine Num.i64 (by omega) ?_
          | refine Tst.dec (fun h => ?_) (fun h => ?_)
          | refine Tst.ndec (fun h => ?_) (fun h => ?_)
          | refine Elt.cast (by first | exact True.intro | exact Int.natCast_nonneg _ | omega) (by omega) ?_
          | refine Drw.mk (by kernel_rfl) ?_
          | refine Tst.any (fun h => ?_) (fun h => ?_)
          | refine Ret.bool ?_
          | refine Ret.int ?_
          | refine Row.is True.intro ?_
          | refine Ret.str ?_)
      refine Row.mk (room (n := 0) (m := 0) (by decide) (by decide)) [] rfl ?_
      repeat' ((try (conv => whnf)); first
          | refine Num.len ?_
          | refine Num.i64 (by omega) ?_
          | refine Tst.dec (fun h => ?_) (fun h => ?_)
          | refine Tst.ndec (fun h => ?_) (fun h => ?_)
          | refine Elt.cast (by first | exact True.intro | exact Int.natCast_nonneg _ | omega) (by omega) ?_
          | refine Drw.mk (by kernel_rfl) ?_
          | refine Tst.any (fun h => ?_) (fun h => ?_)
          | refine Ret.bool ?_
          | refine Ret.int ?_
          | refine Row.is True.intro ?_
          | refine Ret.str ?_)
      exact Ret.of rfl
  · refine callV_of pk Tryd.func90 rfl rfl ?_
    repeat' ((try (conv => whnf)); first
        | refine Row.new hl (by decide) ?_
        | refine Num.len ?_
        | refine Num.i64 (by omega) ?_
        | refine Tst.dec (fun h => ?_) (fun h => ?_)
        | refine Tst.ndec (fun h => ?_) (fun h => ?_)
        | refine Elt.cast (by first | exact True.intro | exact Int.natCast_nonneg _ | omega) (by omega) ?_
        | refine Drw.mk (by kernel_rfl) ?_
        | refine Tst.any (fun h => ?_) (fun h => ?_)
        | refine Ret.bool ?_
        | refine Ret.int ?_
        | refine Row.is True.intro ?_
        | refine Ret.str ?_)
    exact Ret.of rfl
def strs (l : List ByteArray) : PV := .sl 1 (l.map S)
def idxFrom : List ByteArray → ByteArray → Nat → Int
  | [], _, _ => -1
  | x :: l, v, i => if v = x then i else idxFrom l v (i + 1)
theorem idxFrom_mem : ∀ (l : List ByteArray) (v : ByteArray) (i : Nat), 0 ≤ idxFrom l v i ↔ ∃ x ∈ l, v = x
  | [], v, i => by simp [idxFrom]
  | x :: l, v, i => by
    simp only [idxFrom]
    split
    · rename_i h; simp [h]
    · rename_i h; rw [idxFrom_mem l v (i + 1)]; simp [h]
theorem toList_beq {a b : ByteArray} : (a.toList == b.toList) = decide (a = b) := by
  rw [ByteArray.toList_eq, ByteArray.toList_eq]
  by_cases h : a = b
  · subst h; simp
  · have : a.data.toList ≠ b.data.toList := fun e => h (ByteArray.ext (Array.toList_inj.1 e))
    rw [decide_eq_false h]; exact beq_eq_false_iff_ne.2 this
theorem Tst.str {a b : ByteArray} {A C : Prop} (h1 : a = b → A) (h2 : ¬ a = b → C) : Tst (a.toList == b.toList) A C := by
  rw [toList_beq]; exact Tst.dec h1 h2
theorem Index_call (l : List ByteArray) (v : ByteArray) (hl : l.length ≤ 1048576) : CallV Tryd.prog 129 [strs l, S v] [I (idxFrom l v 0)] := by
  refine callV_of pk Tryd.func129 rfl rfl ?_
  repeat' ((try (conv => whnf)); first
      | refine Num.len ?_
      | refine Num.i64 (by omega) ?_
      | refine Tst.dec (fun h => ?_) (fun h => ?_)
      | refine Tst.ndec (fun h => ?_) (fun h => ?_)
      | refine Elt.cast (by first | exact True.intro | exact Int.natCast_nonneg _ | omega) (by omega) ?_
      | refine Drw.mk (by kernel_rfl) ?_
      | refine Tst.any (fun h => ?_) (fun h => ?_)
      | refine Ret.bool ?_
      | refine Ret.int ?_
      | refine Row.is True.intro ?_
      | refine Ret.str ?_)
  refine Lop.of (ι := Nat) (fun i => i ≤ l.length ∧ idxFrom (l.drop i) v i = idxFrom l v 0) (fun i => (⟨19, [(0, .pv (strs l)), (1, .pv (S v)), (7, .pv (I l.length)), (8, .pv (I i))], []⟩ : St)) (fun i => l.length - i) 0
      ⟨Nat.zero_le _, rfl⟩ (by refine ⟨[], rfl, rfl, ?_, ?_⟩ <;> (repeat' (first | exact trivial | exact retP_refl _ | refine And.intro ?_ ?_ | exact rfl))) fun i ⟨hi, hm⟩ => ?_
  repeat' ((try (conv => whnf)); first
      | refine Tst.str (fun h => ?_) (fun h => ?_)
      | refine Num.len ?_
      | refine Num.i64 (by omega) ?_
      | refine Tst.dec (fun h => ?_) (fun h => ?_)
      | refine Tst.ndec (fun h => ?_) (fun h => ?_)
      | refine Elt.cast (by first | exact True.intro | exact Int.natCast_nonneg _ | omega) (by omega) ?_
      | refine Drw.mk (by kernel_rfl) ?_
      | refine Tst.any (fun h => ?_) (fun h => ?_)
      | refine Ret.bool ?_
      | refine Ret.int ?_
      | refine Row.is True.intro ?_
      | refine Ret.str ?_)
  · rw [← hm, drop_at (l := l) (i := i) (by omega), idxFrom, if_pos h]
  · rw [drop_at (l := l) (i := i) (by omega), idxFrom, if_neg h] at hm
    exact Bck.at (i + 1) (by refine ⟨[], rfl, rfl, ?_, ?_⟩ <;> (repeat' (first | exact trivial | exact retP_refl _ | refine And.intro ?_ ?_ | exact rfl))) ⟨by omega, hm⟩ (by omega)
  · rw [List.drop_eq_nil_of_le (by omega)] at hm; exact hm
theorem Contains_call (l : List ByteArray) (v : ByteArray) (hl : l.length ≤ 1048576) : CallV Tryd.prog 91 [strs l, S v] [B (decide (∃ x ∈ l, v = x))] := by
  refine callV_of pk Tryd.func91 rfl rfl ?_
  repeat' ((try (conv => whnf)); first
      | refine Cal.by (Index_call l v hl) rfl ?_
      | refine Num.len ?_
      | refine Num.i64 (by omega) ?_
      | refine Tst.dec (fun h => ?_) (fun h => ?_)
      | refine Tst.ndec (fun h => ?_) (fun h => ?_)
      | refine Elt.cast (by first | exact True.intro | exact Int.natCast_nonneg _ | omega) (by omega) ?_
      | refine Drw.mk (by kernel_rfl) ?_
      | refine Tst.any (fun h => ?_) (fun h => ?_)
      | refine Ret.bool ?_
      | refine Ret.int ?_
      | refine Row.is True.intro ?_
      | refine Ret.str ?_)
  · exact (decide_eq_true ((idxFrom_mem l v 0).1 h)).symm
  · exact (decide_eq_false fun h2 => h ((idxFrom_mem l v 0).2 h2)).symm
def yes (b : Bool) (s : ByteArray) : ByteArray := match b with | true => s | false => ⟨#[]⟩
theorem l34Yes_call (b : Bool) (s : ByteArray) : CallV Tryd.prog 34 [B b, S s] [S (yes b s)] := by
  refine callV_of pk Tryd.func34 rfl rfl ?_
  cases b <;> repeat' ((try (conv => whnf)); first
      | refine Num.len ?_
      | refine Num.i64 (by omega) ?_
      | refine Tst.dec (fun h => ?_) (fun h => ?_)
      | refine Tst.ndec (fun h => ?_) (fun h => ?_)
      | refine Elt.cast (by first | exact True.intro | exact Int.natCast_nonneg _ | omega) (by omega) ?_
      | refine Drw.mk (by kernel_rfl) ?_
      | refine Tst.any (fun h => ?_) (fun h => ?_)
      | refine Ret.bool ?_
      | refine Ret.int ?_
      | refine Row.is True.intro ?_
      | refine Ret.str ?_)
  all_goals rfl
/-- A field that is there only if so. -/
def pick (b : Bool) (l : List ByteArray) (s : ByteArray) : List ByteArray := match b with | true => l ++ [s] | false => l
theorem chosen_call (b : Bool) (l : List ByteArray) (s : ByteArray) (hl : l.length ≤ 1048575) :
    CallG Tryd.prog 41 [.row 1, .pv (S s), .pv (B b)] [(1, some (1, 9, strs l))] [.row 1] [(1, some (1, 9, strs (pick b l s)))] := by
  refine callG_of pk Tryd.func41 rfl rfl ?_
  cases b
  · repeat' ((try (conv => whnf)); first
        | refine Num.len ?_
        | refine Num.i64 (by omega) ?_
        | refine Tst.dec (fun h => ?_) (fun h => ?_)
        | refine Tst.ndec (fun h => ?_) (fun h => ?_)
        | refine Elt.cast (by first | exact True.intro | exact Int.natCast_nonneg _ | omega) (by omega) ?_
        | refine Drw.mk (by kernel_rfl) ?_
        | refine Tst.any (fun h => ?_) (fun h => ?_)
        | refine Ret.bool ?_
        | refine Ret.int ?_
        | refine Row.is True.intro ?_
        | refine Ret.str ?_)
    exact RetG.mk [(1, some 1)] rfl ⟨rfl, ⟨rfl, rfl, rfl⟩, trivial⟩ ⟨rfl, trivial⟩
  · repeat' ((try (conv => whnf)); first
        | refine Row.push (f := S) rfl (by simp; omega) (by decide) ?_
        | refine Num.len ?_
        | refine Num.i64 (by omega) ?_
        | refine Tst.dec (fun h => ?_) (fun h => ?_)
        | refine Tst.ndec (fun h => ?_) (fun h => ?_)
        | refine Elt.cast (by first | exact True.intro | exact Int.natCast_nonneg _ | omega) (by omega) ?_
        | refine Drw.mk (by kernel_rfl) ?_
        | refine Tst.any (fun h => ?_) (fun h => ?_)
        | refine Ret.bool ?_
        | refine Ret.int ?_
        | refine Row.is True.intro ?_
        | refine Ret.str ?_)
    exact RetG.mk [(1, some 12)] rfl ⟨rfl, ⟨rfl, rfl, rfl⟩, trivial⟩ ⟨rfl, trivial⟩
end Go.Vm

/- Numbers' texts; fields joined. -/
set_option linter.unusedVariables false
set_option linter.unusedSimpArgs false
set_option maxRecDepth 4000
namespace Go.Vm
open Go Go.Proofs Go.RowKit
def fmtI (n : Int) : ByteArray := ⟨(Lib.itoa n).toArray⟩
theorem Itoa_call (n : Int) (h : -9223372036854775808 ≤ n ∧ n ≤ 9223372036854775807) : CallV Tryd.prog 87 [I n] [S (fmtI n)] := by
  refine callV_of_below pk Tryd.func87 rfl fun xs w col0 gl ha => ?_
  obtain ⟨y, zs, rfl, ⟨cs, ⟨rfl, _⟩, rfl⟩, rfl⟩ := ha
  refine (Tryd.strconv_Itoa n h.1 h.2 w (tabIs_of gl (by kernel_rfl))).mono ?_
  rintro e w' ⟨rfl, k, os, rfl⟩
  exact ⟨_, rfl, resRep_str, Lib.below_grow _ _ (Nat.le_refl _) k os⟩
theorem iFormatInt_call (n : Int) (h : -9223372036854775808 ≤ n ∧ n ≤ 9223372036854775807) : CallV Tryd.prog 38 [I n] [S (fmtI n)] := by
  refine callV_of pk Tryd.func38 rfl rfl ?_
  repeat' ((try (conv => whnf)); first
      | refine Cal.by (Itoa_call n h) rfl ?_
      | refine Num.len ?_
      | refine Num.i64 (by omega) ?_
      | refine Tst.dec (fun h => ?_) (fun h => ?_)
      | refine Tst.ndec (fun h => ?_) (fun h => ?_)
      | refine Elt.cast (by first | exact True.intro | exact Int.natCast_nonneg _ | omega) (by omega) ?_
      | refine Drw.mk (by kernel_rfl) ?_
      | refine Tst.any (fun h => ?_) (fun h => ?_)
      | refine Ret.bool ?_
      | refine Ret.int ?_
      | refine Row.is True.intro ?_
      | refine Ret.str ?_)
  rfl
def joinS (l : List ByteArray) (sep : ByteArray) : ByteArray := ⟨(Lib.join (l.map (·.data.toList)) sep.data.toList).toArray⟩
theorem Join_call (l : List ByteArray) (sep : ByteArray) (hl : l.length ≤ 1048576) (hj : (joinS l sep).size ≤ 140737488355328) : CallV Tryd.prog 92 [strs l, S sep] [S (joinS l sep)] := by
  refine callV_of_below pk Tryd.func92 rfl fun xs w col0 gl ha => ?_
  obtain ⟨A, cap, zs, rfl, ⟨y, zs, rfl, ⟨cs, ⟨rfl, _⟩, rfl⟩, rfl⟩, hc, hA⟩ := argsRep_strs ha
  by_cases h0 : l = []
  · subst h0
    refine (Tryd.strings_Join_none A cap sep w).mono ?_
    rintro e w' ⟨rfl, rfl⟩
    exact ⟨_, rfl, resRep_str, Below.refl _ _⟩
  · obtain ⟨b, o, rfl, hb, hcell⟩ := hA h0
    refine (Tryd.strings_Join b o cap l sep w hcell hb (by omega) hc (by simpa [joinS, ByteArray.size] using hj)).mono ?_
    rintro e w' ⟨rfl, hB⟩
    exact ⟨_, rfl, resRep_str, hB⟩
def dd (m : Nat) : List UInt8 := if m = 0 then [] else Lib.decDigits m
theorem dd_next {m : Nat} (h : m ≠ 0) : dd m = dd (m / 10) ++ [UInt8.ofNat (48 + m % 10)] := by
  rw [dd, if_neg h, Lib.decDigits]
  by_cases h9 : m < 10
  · rw [dif_pos h9, dd, if_pos (by omega), Nat.mod_eq_of_lt h9]; rfl
  · rw [dif_neg h9, dd, if_neg (by omega)]
def numD (m : Nat) : ByteArray := ⟨(dd m).toArray⟩
theorem numD_next {m : Int} {s t : ByteArray} (h : m ≠ 0) (hs : numD m.natAbs ++ s = t) : numD (m.tdiv 10).natAbs ++ (⟨#[UInt8.ofNat (48 + m.natAbs % 10)]⟩ ++ s) = t := by
  rw [← hs]
  refine ByteArray.ext ?_
  have e : (m.tdiv 10).natAbs = m.natAbs / 10 := by rw [Int.natAbs_tdiv]; rfl
  simp [numD, dd_next (m := m.natAbs) (by omega), e, ByteArray.data_append]
theorem fmtI_pos {n : Int} {s : ByteArray} (h0 : n ≠ 0) (hn : ¬ n < 0) (hs : numD (0 : Int).natAbs ++ s = numD n.natAbs) : s = fmtI n := by
  have : numD (0 : Int).natAbs ++ s = s := ByteArray.ext (by simp [numD, dd, ByteArray.data_append])
  rw [← this, hs]
  rw [numD, fmtI, dd, if_neg (by omega), Lib.itoa, if_neg hn, show n.natAbs = n.toNat by omega]
theorem fmtI_neg {n : Int} {s : ByteArray} (h0 : n ≠ 0) (hn : n < 0) (hs : numD (0 : Int).natAbs ++ s = numD n.natAbs) : ⟨#[45]⟩ ++ s = fmtI n := by
  have : numD (0 : Int).natAbs ++ s = s := ByteArray.ext (by simp [numD, dd, ByteArray.data_append])
  rw [← this, hs]
  rw [numD, fmtI, dd, if_neg (by omega), Lib.itoa, if_pos hn]
  exact ByteArray.ext (by simp [ByteArray.data_append])
theorem numD_size {n : Int} (h : -9223372036854775808 ≤ n ∧ n ≤ 9223372036854775807) (h0 : n ≠ 0) : (numD n.natAbs).size ≤ 21 := by
  have h1 := Lib.itoa_length_le n h.1 h.2
  rw [numD, dd, if_neg (by omega)]
  simp only [ByteArray.size, List.size_toArray]
  rw [Lib.itoa] at h1
  split at h1
  · simp at h1; omega
  · rwa [show n.natAbs = n.toNat by omega]
theorem digU8 {k : Nat} (h : k < 10) : IntKind.u8.wrap (48 + (k : Int)) = (((UInt8.ofNat (48 + k)).toNat : Nat) : Int) := by
  have : ∀ k : Nat, k < 10 → IntKind.u8.wrap (48 + (k : Int)) = (((UInt8.ofNat (48 + k)).toNat : Nat) : Int) := by decide
  exact this k h
theorem byt_dig {m d : Int} {K : ByteArray → Prop} (hr : d.natAbs = m.natAbs % 10) (hd : ¬ d < 0) (hk : K ⟨#[UInt8.ofNat (48 + m.natAbs % 10)]⟩) : Byt [.w (.int .u8 (IntKind.u8.wrap (IntKind.i64.wrap (48 + d))))] K := by
  refine Byt.of _ ?_ hk
  rw [Vm.i64 (by omega), show d = ((m.natAbs % 10 : Nat) : Int) by omega, digU8 (by omega)]
  rfl
theorem byt_neg {m d : Int} {K : ByteArray → Prop} (hr : d.natAbs = m.natAbs % 10) (hd : d < 0) (hk : K ⟨#[UInt8.ofNat (48 + m.natAbs % 10)]⟩) : Byt [.w (.int .u8 (IntKind.u8.wrap (IntKind.i64.wrap (48 + IntKind.i64.wrap (0 - d)))))] K := by
  rw [Vm.i64 (z := 0 - d) (by omega)]
  exact byt_dig (by omega) (by omega) hk
theorem sFormatInt_call (n : Int) (h : -9223372036854775808 ≤ n ∧ n ≤ 9223372036854775807) : CallV Tryd.prog 31 [I n] [S (fmtI n)] := by
  refine callV_of pk Tryd.func31 rfl rfl ?_
  have hb := h
  clear h
  repeat' ((try (conv => whnf)); first
      | refine Num.len ?_
      | refine Num.i64 (by omega) ?_
      | refine Tst.dec (fun h => ?_) (fun h => ?_)
      | refine Tst.ndec (fun h => ?_) (fun h => ?_)
      | refine Elt.cast (by first | exact True.intro | exact Int.natCast_nonneg _ | omega) (by omega) ?_
      | refine Drw.mk (by kernel_rfl) ?_
      | refine Tst.any (fun h => ?_) (fun h => ?_)
      | refine Ret.bool ?_
      | refine Ret.int ?_
      | refine Row.is True.intro ?_
      | refine Ret.str ?_)
  case refine_1 => subst n; exact ByteArray.ext (by simp [fmtI, Lib.itoa, Lib.decDigits])
  case refine_2.refine_1 =>

    have hsz := numD_size hb (by assumption)
    refine Lop.of2 (fun (m : Int) (s : ByteArray) => (-9223372036854775808 ≤ m ∧ m ≤ 9223372036854775807) ∧ numD m.natAbs ++ s = numD n.natAbs) (fun m s => (⟨31, [(0, .pv (I m)), (3, .pv (S s)), (4, .pv (B true))], []⟩ : St)) (fun m _ => m.natAbs) n ⟨#[]⟩
      ⟨hb, ByteArray.ext (by simp [ByteArray.data_append])⟩ (by refine ⟨[], rfl, rfl, ?_, ?_⟩ <;> (repeat' (first | exact trivial | exact retP_refl _ | refine And.intro ?_ ?_ | exact rfl))) fun m s ⟨hm, hs⟩ => ?_
    have hr : (m.tmod 10).natAbs = m.natAbs % 10 := by rw [Int.natAbs_tmod]; rfl
    have hq : (m.tdiv 10).natAbs = m.natAbs / 10 := by rw [Int.natAbs_tdiv]; rfl
    have hsl : s.size ≤ 21 := by have := congrArg ByteArray.size hs; simp [ByteArray.size_append] at this; omega
    repeat' ((try (conv => whnf)); first
        | refine Num.eq (by decide) rfl ?_
        | refine Owe.by (by show 1 + s.size ≤ _; omega) ?_
        | refine Num.len ?_
        | refine Num.i64 (by omega) ?_
        | refine Tst.dec (fun h => ?_) (fun h => ?_)
        | refine Tst.ndec (fun h => ?_) (fun h => ?_)
        | refine Elt.cast (by first | exact True.intro | exact Int.natCast_nonneg _ | omega) (by omega) ?_
        | refine Drw.mk (by kernel_rfl) ?_
        | refine Tst.any (fun h => ?_) (fun h => ?_)
        | refine Ret.bool ?_
        | refine Ret.int ?_
        | refine Row.is True.intro ?_
        | refine Ret.str ?_)
    · refine byt_neg hr (by assumption) ?_
      repeat' ((try (conv => whnf)); first
          | refine Owe.by (by show 1 + s.size ≤ _; omega) ?_
          | refine Num.eq (by decide) (Vm.i64 (by omega)) ?_
          | refine Num.len ?_
          | refine Num.i64 (by omega) ?_
          | refine Tst.dec (fun h => ?_) (fun h => ?_)
          | refine Tst.ndec (fun h => ?_) (fun h => ?_)
          | refine Elt.cast (by first | exact True.intro | exact Int.natCast_nonneg _ | omega) (by omega) ?_
          | refine Drw.mk (by kernel_rfl) ?_
          | refine Tst.any (fun h => ?_) (fun h => ?_)
          | refine Ret.bool ?_
          | refine Ret.int ?_
          | refine Row.is True.intro ?_
          | refine Ret.str ?_)
      exact Bck.at2 _ _ (by refine ⟨[], rfl, rfl, ?_, ?_⟩ <;> (repeat' (first | exact trivial | exact retP_refl _ | refine And.intro ?_ ?_ | exact rfl))) ⟨by omega, (numD_next (by assumption) hs)⟩ (by omega)
    · refine byt_dig hr (by assumption) ?_
      repeat' ((try (conv => whnf)); first
          | refine Owe.by (by show 1 + s.size ≤ _; omega) ?_
          | refine Num.eq (by decide) (Vm.i64 (by omega)) ?_
          | refine Num.len ?_
          | refine Num.i64 (by omega) ?_
          | refine Tst.dec (fun h => ?_) (fun h => ?_)
          | refine Tst.ndec (fun h => ?_) (fun h => ?_)
          | refine Elt.cast (by first | exact True.intro | exact Int.natCast_nonneg _ | omega) (by omega) ?_
          | refine Drw.mk (by kernel_rfl) ?_
          | refine Tst.any (fun h => ?_) (fun h => ?_)
          | refine Ret.bool ?_
          | refine Ret.int ?_
          | refine Row.is True.intro ?_
          | refine Ret.str ?_)
      exact Bck.at2 _ _ (by refine ⟨[], rfl, rfl, ?_, ?_⟩ <;> (repeat' (first | exact trivial | exact retP_refl _ | refine And.intro ?_ ?_ | exact rfl))) ⟨by omega, (numD_next (by assumption) hs)⟩ (by omega)
    · rename_i h; subst h
      exact fmtI_neg (by assumption) (by assumption) hs
  case refine_2.refine_2 =>

    have hsz := numD_size hb (by assumption)
    refine Lop.of2 (fun (m : Int) (s : ByteArray) => (-9223372036854775808 ≤ m ∧ m ≤ 9223372036854775807) ∧ numD m.natAbs ++ s = numD n.natAbs) (fun m s => (⟨31, [(0, .pv (I m)), (3, .pv (S s)), (4, .pv (B false))], []⟩ : St)) (fun m _ => m.natAbs) n ⟨#[]⟩
      ⟨hb, ByteArray.ext (by simp [ByteArray.data_append])⟩ (by refine ⟨[], rfl, rfl, ?_, ?_⟩ <;> (repeat' (first | exact trivial | exact retP_refl _ | refine And.intro ?_ ?_ | exact rfl))) fun m s ⟨hm, hs⟩ => ?_
    have hr : (m.tmod 10).natAbs = m.natAbs % 10 := by rw [Int.natAbs_tmod]; rfl
    have hq : (m.tdiv 10).natAbs = m.natAbs / 10 := by rw [Int.natAbs_tdiv]; rfl
    have hsl : s.size ≤ 21 := by have := congrArg ByteArray.size hs; simp [ByteArray.size_append] at this; omega
    repeat' ((try (conv => whnf)); first
        | refine Num.eq (by decide) rfl ?_
        | refine Owe.by (by show 1 + s.size ≤ _; omega) ?_
        | refine Num.len ?_
        | refine Num.i64 (by omega) ?_
        | refine Tst.dec (fun h => ?_) (fun h => ?_)
        | refine Tst.ndec (fun h => ?_) (fun h => ?_)
        | refine Elt.cast (by first | exact True.intro | exact Int.natCast_nonneg _ | omega) (by omega) ?_
        | refine Drw.mk (by kernel_rfl) ?_
        | refine Tst.any (fun h => ?_) (fun h => ?_)
        | refine Ret.bool ?_
        | refine Ret.int ?_
        | refine Row.is True.intro ?_
        | refine Ret.str ?_)
    · refine byt_neg hr (by assumption) ?_
      repeat' ((try (conv => whnf)); first
          | refine Owe.by (by show 1 + s.size ≤ _; omega) ?_
          | refine Num.eq (by decide) (Vm.i64 (by omega)) ?_
          | refine Num.len ?_
          | refine Num.i64 (by omega) ?_
          | refine Tst.dec (fun h => ?_) (fun h => ?_)
          | refine Tst.ndec (fun h => ?_) (fun h => ?_)
          | refine Elt.cast (by first | exact True.intro | exact Int.natCast_nonneg _ | omega) (by omega) ?_
          | refine Drw.mk (by kernel_rfl) ?_
          | refine Tst.any (fun h => ?_) (fun h => ?_)
          | refine Ret.bool ?_
          | refine Ret.int ?_
          | refine Row.is True.intro ?_
          | refine Ret.str ?_)
      exact Bck.at2 _ _ (by refine ⟨[], rfl, rfl, ?_, ?_⟩ <;> (repeat' (first | exact trivial | exact retP_refl _ | refine And.intro ?_ ?_ | exact rfl))) ⟨by omega, (numD_next (by assumption) hs)⟩ (by omega)
    · refine byt_dig hr (by assumption) ?_
      repeat' ((try (conv => whnf)); first
          | refine Owe.by (by show 1 + s.size ≤ _; omega) ?_
          | refine Num.eq (by decide) (Vm.i64 (by omega)) ?_
          | refine Num.len ?_
          | refine Num.i64 (by omega) ?_
          | refine Tst.dec (fun h => ?_) (fun h => ?_)
          | refine Tst.ndec (fun h => ?_) (fun h => ?_)
          | refine Elt.cast (by first | exact True.intro | exact Int.natCast_nonneg _ | omega) (by omega) ?_
          | refine Drw.mk (by kernel_rfl) ?_
          | refine Tst.any (fun h => ?_) (fun h => ?_)
          | refine Ret.bool ?_
          | refine Ret.int ?_
          | refine Row.is True.intro ?_
          | refine Ret.str ?_)
      exact Bck.at2 _ _ (by refine ⟨[], rfl, rfl, ?_, ?_⟩ <;> (repeat' (first | exact trivial | exact retP_refl _ | refine And.intro ?_ ?_ | exact rfl))) ⟨by omega, (numD_next (by assumption) hs)⟩ (by omega)
    · rename_i h; subst h
      exact fmtI_pos (by assumption) (by assumption) hs
end Go.Vm

/- The slope's line. -/
set_option linter.unusedVariables false
set_option linter.unusedSimpArgs false
set_option maxRecDepth 4000
namespace Go.Vm
open Go Go.Proofs Go.RowKit
def bits (w : List Int) : Prop := ∀ x ∈ w, 0 ≤ x ∧ x < 2
theorem bits_app {a b : List Int} (ha : bits a) (hb : bits b) : bits (a ++ b) := fun x hx => (List.mem_append.1 hx).elim (ha x) (hb x)
theorem bits_reps {t : Int} {l : List Int} (h : bits l) : bits (reps t l) := fun x hx => by
  obtain ⟨m, hm, hx⟩ := List.mem_flatten.1 hx
  rw [(List.mem_replicate.1 hm).2] at hx
  exact h x hx
theorem swGo_ok : ∀ {ts b l w : List Int}, swGo ts b l = some w → bits b → bits l → l.length ≤ 400 → bits w ∧ w.length ≤ 400
  | [], b, l, w, h, hb, hl, h4 => by simp only [swGo, Option.some.injEq] at h; subst h; exact ⟨hl, h4⟩
  | t :: ts, b, l, w, h, hb, hl, h4 => by
    simp only [swGo] at h
    split at h
    · cases h
    · exact swGo_ok h hl (bits_app (bits_reps hl) hb) (by omega)
theorem stdw_ok {a w : List Int} (h : stdw a = some w) : bits w ∧ w.length ≤ 400 := by
  unfold stdw at h
  split at h
  · exact swGo_ok h (by simp [bits]) (by simp [bits]) (by simp)
  · cases h
def central (a : List Int) : Option (List Int) := match stdw a with | some w => if w.length < 2 then none else some (w.take (w.length - 2)) | none => none
theorem sCentralWord_call (a : List Int) (hl : a.length ≤ 1048576) : CallV Tryd.prog 33 [ints a] [ints ((central a).getD []), B (central a).isSome] := by
  have hs := sStandardWord_call a hl
  have hc : central a = match stdw a with | some w => if w.length < 2 then none else some (w.take (w.length - 2)) | none => none := rfl
  rcases e : stdw a with _ | w <;> rw [e] at hs hc <;> simp only [Option.getD_some, Option.getD_none, Option.isSome_some, Option.isSome_none] at hs hc <;> rw [hc]
  · refine callV_of pk Tryd.func33 rfl rfl ?_
    repeat' ((try (conv => whnf)); first
        | refine Cal.by (hs) rfl ?_
        | refine Num.len ?_
        | refine Num.i64 (by omega) ?_
        | refine Tst.dec (fun h => ?_) (fun h => ?_)
        | refine Tst.ndec (fun h => ?_) (fun h => ?_)
        | refine Elt.cast (by first | exact True.intro | exact Int.natCast_nonneg _ | omega) (by omega) ?_
        | refine Drw.mk (by kernel_rfl) ?_
        | refine Tst.any (fun h => ?_) (fun h => ?_)
        | refine Ret.bool ?_
        | refine Ret.int ?_
        | refine Row.is True.intro ?_
        | refine Ret.str ?_)
    exact Ret.of rfl
  · have hw := stdw_ok e
    refine callV_of pk Tryd.func33 rfl rfl ?_
    repeat' ((try (conv => whnf)); first
        | refine Cal.by (hs) rfl ?_
        | refine Row.cut (zs := w.take (w.length - 2)) (congrArg (fun n => w.take n) (by omega)) (by omega) ?_
        | refine Row.new (by simp; omega) (by decide) ?_
        | refine Num.len ?_
        | refine Num.i64 (by omega) ?_
        | refine Tst.dec (fun h => ?_) (fun h => ?_)
        | refine Tst.ndec (fun h => ?_) (fun h => ?_)
        | refine Elt.cast (by first | exact True.intro | exact Int.natCast_nonneg _ | omega) (by omega) ?_
        | refine Drw.mk (by kernel_rfl) ?_
        | refine Tst.any (fun h => ?_) (fun h => ?_)
        | refine Ret.bool ?_
        | refine Ret.int ?_
        | refine Row.is True.intro ?_
        | refine Ret.str ?_)
    · rw [if_pos (by omega)]; exact Ret.of rfl
    · rw [if_neg (by omega)]; exact Ret.of rfl
theorem iCentralWord_call (a : List Int) (hl : a.length ≤ 1048576) : CallV Tryd.prog 40 [ints a] [ints ((central a).getD []), B (central a).isSome] := by
  have hs := iStandardWord_call a hl
  have hc : central a = match stdw a with | some w => if w.length < 2 then none else some (w.take (w.length - 2)) | none => none := rfl
  rcases e : stdw a with _ | w <;> rw [e] at hs hc <;> simp only [Option.getD_some, Option.getD_none, Option.isSome_some, Option.isSome_none] at hs hc <;> rw [hc]
  · refine callV_of pk Tryd.func40 rfl rfl ?_
    repeat' ((try (conv => whnf)); first
        | refine Cal.by (hs) rfl ?_
        | refine Num.len ?_
        | refine Num.i64 (by omega) ?_
        | refine Tst.dec (fun h => ?_) (fun h => ?_)
        | refine Tst.ndec (fun h => ?_) (fun h => ?_)
        | refine Elt.cast (by first | exact True.intro | exact Int.natCast_nonneg _ | omega) (by omega) ?_
        | refine Drw.mk (by kernel_rfl) ?_
        | refine Tst.any (fun h => ?_) (fun h => ?_)
        | refine Ret.bool ?_
        | refine Ret.int ?_
        | refine Row.is True.intro ?_
        | refine Ret.str ?_)
    exact Ret.of rfl
  · have hw := stdw_ok e
    refine callV_of pk Tryd.func40 rfl rfl ?_
    repeat' ((try (conv => whnf)); first
        | refine Cal.by (hs) rfl ?_
        | refine Row.cut (zs := w.take (w.length - 2)) (congrArg (fun n => w.take n) (by omega)) (by omega) ?_
        | refine Cal.by (Clone_call (w.take (w.length - 2)) (by simp; omega)) rfl ?_
        | refine Num.len ?_
        | refine Num.i64 (by omega) ?_
        | refine Tst.dec (fun h => ?_) (fun h => ?_)
        | refine Tst.ndec (fun h => ?_) (fun h => ?_)
        | refine Elt.cast (by first | exact True.intro | exact Int.natCast_nonneg _ | omega) (by omega) ?_
        | refine Drw.mk (by kernel_rfl) ?_
        | refine Tst.any (fun h => ?_) (fun h => ?_)
        | refine Ret.bool ?_
        | refine Ret.int ?_
        | refine Row.is True.intro ?_
        | refine Ret.str ?_)
    · rw [if_pos (by omega)]; exact Ret.of rfl
    · rw [if_neg (by omega)]; exact Ret.of rfl
def noBlank (l : List ByteArray) : Prop := ¬ ∃ x ∈ l, (⟨#[]⟩ : ByteArray) = x
theorem line_call (l : List ByteArray) (hl : l.length ≤ 1048576) (hn : noBlank l) (hj : (joinS l ⟨#[32]⟩).size ≤ 140737488355328) : CallV Tryd.prog 43 [strs l] [S (joinS l ⟨#[32]⟩)] := by
  refine callV_of pk Tryd.func43 rfl rfl ?_
  refine Cal.bool (Contains_call l ⟨#[]⟩ hl) rfl (fun h => absurd h hn) (fun h => ?_)
  repeat' ((try (conv => whnf)); first
      | refine Cal.by (Join_call l ⟨#[32]⟩ hl hj) rfl ?_
      | refine Num.len ?_
      | refine Num.i64 (by omega) ?_
      | refine Tst.dec (fun h => ?_) (fun h => ?_)
      | refine Tst.ndec (fun h => ?_) (fun h => ?_)
      | refine Elt.cast (by first | exact True.intro | exact Int.natCast_nonneg _ | omega) (by omega) ?_
      | refine Drw.mk (by kernel_rfl) ?_
      | refine Tst.any (fun h => ?_) (fun h => ?_)
      | refine Ret.bool ?_
      | refine Ret.int ?_
      | refine Row.is True.intro ?_
      | refine Ret.str ?_)
  rfl
theorem lineNot_call (l : List ByteArray) (hl : l.length ≤ 1048576) (hn : ¬ noBlank l) : CallV Tryd.prog 43 [strs l] [S ⟨#[]⟩] := by
  refine callV_of pk Tryd.func43 rfl rfl ?_
  refine Cal.bool (Contains_call l ⟨#[]⟩ hl) rfl (fun h => ?_) (fun h => absurd h hn)
  repeat' ((try (conv => whnf)); first
      | refine Num.len ?_
      | refine Num.i64 (by omega) ?_
      | refine Tst.dec (fun h => ?_) (fun h => ?_)
      | refine Tst.ndec (fun h => ?_) (fun h => ?_)
      | refine Elt.cast (by first | exact True.intro | exact Int.natCast_nonneg _ | omega) (by omega) ?_
      | refine Drw.mk (by kernel_rfl) ?_
      | refine Tst.any (fun h => ?_) (fun h => ?_)
      | refine Ret.bool ?_
      | refine Ret.int ?_
      | refine Row.is True.intro ?_
      | refine Ret.str ?_)
  rfl
end Go.Vm

/- The slope's line, told by both. -/
set_option linter.unusedVariables false
set_option linter.unusedSimpArgs false
set_option maxRecDepth 4000
namespace Go.Vm
open Go Go.Proofs Go.RowKit
def slopeB (a w : List Int) : ByteArray := (((((⟨#[115, 108, 111, 112, 101, 32]⟩ : ByteArray) ++ fmtI (convOf a).1) ++ (⟨#[47]⟩ : ByteArray)) ++ fmtI (convOf a).2) ++ (⟨#[32, 115, 116, 97, 110, 100, 97, 114, 100, 32]⟩ : ByteArray)) ++ fmtW (w.take 40)
def slopeC (s : ByteArray) (c : List Int) : ByteArray := ((s ++ (⟨#[32, 99, 101, 110, 116, 114, 97, 108, 32]⟩ : ByteArray)) ++ fmtI c.length) ++ yes (decide (isPal c)) (⟨#[32, 112, 97, 108, 105, 110, 100, 114, 111, 109, 101]⟩ : ByteArray)
def slope (a : List Int) : ByteArray := match stdw a with
  | none => (⟨#[]⟩ : ByteArray)
  | some w => match central a with
    | none => slopeB a w
    | some c => slopeC (slopeB a w) c
theorem fmtI_size {n : Int} (h : -9223372036854775808 ≤ n ∧ n ≤ 9223372036854775807) : (fmtI n).size ≤ 21 := by
  simpa [fmtI, ByteArray.size] using Lib.itoa_length_le n h.1 h.2
theorem fmtW_size (w : List Int) : (fmtW w).size ≤ 400 := by
  unfold fmtW
  split
  · rename_i h
    split
    · decide
    · rw [digs_size]; exact h.1.2.2
  · decide
theorem convOf_le (a : List Int) : (0 ≤ (convOf a).1 ∧ (convOf a).1 ≤ 100000000) ∧ 0 ≤ (convOf a).2 ∧ (convOf a).2 ≤ 100000000 := by
  unfold convOf
  split
  · rename_i h; exact conv_at h 0
  · simp
theorem stdw_areQ {a w : List Int} (h : stdw a = some w) : areQ a := by
  unfold stdw at h; split at h
  · assumption
  · cases h
theorem central_some {a w c : List Int} (h : stdw a = some w) (hc : central a = some c) : c.length ≤ 400 := by
  have := stdw_ok h
  unfold central at hc
  rw [h] at hc
  simp only at hc
  split at hc
  · cases hc
  · cases hc; simp; omega
theorem sSlopeLine_call (a : List Int) (hl : a.length ≤ 1048576) : CallV Tryd.prog 8 [ints a] [S (slope a)] := by
  have hs := sStandardWord_call a hl
  have hc := sConvergentOf_call a hl
  have hz := sCentralWord_call a hl
  have hb := convOf_le a
  rcases e : stdw a with _ | w <;> rw [e] at hs <;> simp only [Option.getD_some, Option.getD_none, Option.isSome_some, Option.isSome_none] at hs
  · by_cases ha : areQ a
    · rw [decide_eq_true ha] at hc
      refine callV_of pk Tryd.func8 rfl rfl ?_
      repeat' ((try (conv => whnf)); first
          | refine Cal.by (hs) rfl ?_
          | refine Cal.by (hc) rfl ?_
          | refine Num.len ?_
          | refine Num.i64 (by omega) ?_
          | refine Tst.dec (fun h => ?_) (fun h => ?_)
          | refine Tst.ndec (fun h => ?_) (fun h => ?_)
          | refine Elt.cast (by first | exact True.intro | exact Int.natCast_nonneg _ | omega) (by omega) ?_
          | refine Drw.mk (by kernel_rfl) ?_
          | refine Tst.any (fun h => ?_) (fun h => ?_)
          | refine Ret.bool ?_
          | refine Ret.int ?_
          | refine Row.is True.intro ?_
          | refine Ret.str ?_)
      simp [slope, e]
    · rw [decide_eq_false ha] at hc
      refine callV_of pk Tryd.func8 rfl rfl ?_
      repeat' ((try (conv => whnf)); first
          | refine Cal.by (hs) rfl ?_
          | refine Cal.by (hc) rfl ?_
          | refine Num.len ?_
          | refine Num.i64 (by omega) ?_
          | refine Tst.dec (fun h => ?_) (fun h => ?_)
          | refine Tst.ndec (fun h => ?_) (fun h => ?_)
          | refine Elt.cast (by first | exact True.intro | exact Int.natCast_nonneg _ | omega) (by omega) ?_
          | refine Drw.mk (by kernel_rfl) ?_
          | refine Tst.any (fun h => ?_) (fun h => ?_)
          | refine Ret.bool ?_
          | refine Ret.int ?_
          | refine Row.is True.intro ?_
          | refine Ret.str ?_)
      simp [slope, e]
  · have hw := stdw_ok e
    rw [decide_eq_true (stdw_areQ e)] at hc
    refine callV_of pk Tryd.func8 rfl rfl ?_
    have hz1 := fmtI_size (n := (convOf a).1) (by omega)
    have hz2 := fmtI_size (n := (convOf a).2) (by omega)
    have hz3 := fmtW_size (w.take 40)
    have e1 : ((⟨#[115, 108, 111, 112, 101, 32]⟩ : ByteArray) : ByteArray).size = 6 := rfl
    have e2 : ((⟨#[47]⟩ : ByteArray) : ByteArray).size = 1 := rfl
    have e3 : ((⟨#[32, 115, 116, 97, 110, 100, 97, 114, 100, 32]⟩ : ByteArray) : ByteArray).size = 10 := rfl
    have e4 : ((⟨#[32, 99, 101, 110, 116, 114, 97, 108, 32]⟩ : ByteArray) : ByteArray).size = 9 := rfl
    have ht : w.take (((min 40 w.length : Nat) : Int)).toNat = w.take 40 := by
      rw [Int.toNat_natCast]
      rcases Nat.le_total 40 w.length with h | h
      · rw [Nat.min_eq_left h]
      · rw [Nat.min_eq_right h, List.take_of_length_le (Nat.le_refl _), List.take_of_length_le h]
    repeat' ((try (conv => whnf)); first
        | refine Cal.by (hs) rfl ?_
        | refine Cal.by (hc) rfl ?_
        | refine Num.eq (z := ((min 40 w.length : Nat) : Int)) True.intro (by split <;> omega) ?_
        | refine Cal.by (sFormatInt_call (convOf a).1 (by omega)) rfl ?_
        | refine Cal.by (sFormatInt_call (convOf a).2 (by omega)) rfl ?_
        | refine Cal.by (sFormatWord_call (w.take 40) (by simp; omega)) rfl ?_
        | refine Owe.by (by simp only [ByteArray.size_append, e1, e2, e3, e4]; omega) ?_
        | refine Row.cut ht (by omega) ?_
        | refine Num.len ?_
        | refine Num.i64 (by omega) ?_
        | refine Tst.dec (fun h => ?_) (fun h => ?_)
        | refine Tst.ndec (fun h => ?_) (fun h => ?_)
        | refine Elt.cast (by first | exact True.intro | exact Int.natCast_nonneg _ | omega) (by omega) ?_
        | refine Drw.mk (by kernel_rfl) ?_
        | refine Tst.any (fun h => ?_) (fun h => ?_)
        | refine Ret.bool ?_
        | refine Ret.int ?_
        | refine Row.is True.intro ?_
        | refine Ret.str ?_)
    rcases ec : central a with _ | c <;> rw [ec] at hz <;> simp only [Option.getD_some, Option.getD_none, Option.isSome_some, Option.isSome_none] at hz
    · repeat' ((try (conv => whnf)); first
          | refine Cal.by (hz) rfl ?_
          | refine Num.len ?_
          | refine Num.i64 (by omega) ?_
          | refine Tst.dec (fun h => ?_) (fun h => ?_)
          | refine Tst.ndec (fun h => ?_) (fun h => ?_)
          | refine Elt.cast (by first | exact True.intro | exact Int.natCast_nonneg _ | omega) (by omega) ?_
          | refine Drw.mk (by kernel_rfl) ?_
          | refine Tst.any (fun h => ?_) (fun h => ?_)
          | refine Ret.bool ?_
          | refine Ret.int ?_
          | refine Row.is True.intro ?_
          | refine Ret.str ?_)
      simp [slope, e, ec, slopeB]
    · have hcl := central_some e ec
      have hz4 := fmtI_size (n := c.length) (by omega)
      have hz5 : (yes (decide (isPal c)) (⟨#[32, 112, 97, 108, 105, 110, 100, 114, 111, 109, 101]⟩ : ByteArray)).size ≤ 11 := by cases decide (isPal c) <;> decide
      repeat' ((try (conv => whnf)); first
          | refine Cal.by (hz) rfl ?_
          | refine Cal.by (sFormatInt_call c.length (by omega)) rfl ?_
          | refine Cal.by (sIsPalindrome_call c (by omega)) rfl ?_
          | refine Cal.by (l34Yes_call (decide (isPal c)) (⟨#[32, 112, 97, 108, 105, 110, 100, 114, 111, 109, 101]⟩ : ByteArray)) rfl ?_
          | refine Owe.by (by simp only [ByteArray.size_append, e1, e2, e3, e4]; omega) ?_
          | refine Num.len ?_
          | refine Num.i64 (by omega) ?_
          | refine Tst.dec (fun h => ?_) (fun h => ?_)
          | refine Tst.ndec (fun h => ?_) (fun h => ?_)
          | refine Elt.cast (by first | exact True.intro | exact Int.natCast_nonneg _ | omega) (by omega) ?_
          | refine Drw.mk (by kernel_rfl) ?_
          | refine Tst.any (fun h => ?_) (fun h => ?_)
          | refine Ret.bool ?_
          | refine Ret.int ?_
          | refine Row.is True.intro ?_
          | refine Ret.str ?_)
      simp [slope, e, ec, slopeB, slopeC]
theorem joinS_two (a b : ByteArray) (l : List ByteArray) (s : ByteArray) : joinS (a :: b :: l) s = a ++ (s ++ joinS (b :: l) s) :=
  ByteArray.ext (by simp [joinS, Lib.join, List.intercalate, ByteArray.data_append])
theorem joinS_one (a s : ByteArray) : joinS [a] s = a := ByteArray.ext (by simp [joinS, Lib.join, List.intercalate])
theorem noBlank_of {l : List ByteArray} (h : ∀ x ∈ l, 0 < x.size) : noBlank l := by
  rintro ⟨x, hx, rfl⟩
  exact absurd (h _ hx) (by decide)
theorem fmtI_some (n : Int) : 0 < (fmtI n).size := by
  have : 0 < (Lib.itoa n).length := by
    unfold Lib.itoa
    split
    · simp
    · rw [Lib.decDigits_length]; exact Lib.nDigits_pos _
  simpa [fmtI, ByteArray.size] using this
theorem fmtW_some {w : List Int} (h : bits w) (hl : w.length ≤ 400) : 0 < (fmtW w).size := by
  unfold fmtW
  rw [if_pos ⟨⟨by decide, by decide, hl⟩, fun x hx => by have := h x hx; omega⟩]
  split
  · decide
  · rename_i h0; rw [digs_size]; exact List.length_pos_iff.2 h0
def slopeF (a w : List Int) : List ByteArray := [(⟨#[115, 108, 111, 112, 101]⟩ : ByteArray), (fmtI (convOf a).1 ++ (⟨#[47]⟩ : ByteArray)) ++ fmtI (convOf a).2, (⟨#[115, 116, 97, 110, 100, 97, 114, 100]⟩ : ByteArray), fmtW (w.take 40)]
theorem slopeF_join (a w : List Int) : joinS (slopeF a w) (⟨#[32]⟩ : ByteArray) = slopeB a w := by
  simp only [slopeF, slopeB, joinS_two, joinS_one]
  exact ByteArray.ext (Array.toList_inj.1 (by simp [ByteArray.data_append]))
theorem slopeF_central (a w c : List Int) : joinS (pick (decide (isPal c)) (slopeF a w ++ [(⟨#[99, 101, 110, 116, 114, 97, 108]⟩ : ByteArray), fmtI c.length]) (⟨#[112, 97, 108, 105, 110, 100, 114, 111, 109, 101]⟩ : ByteArray)) (⟨#[32]⟩ : ByteArray) = slopeC (slopeB a w) c := by
  rw [slopeC]
  generalize decide (isPal c) = b
  cases b <;> simp only [slopeF, slopeB, slopeC, pick, yes, List.cons_append, List.nil_append, joinS_two, joinS_one]
  all_goals exact ByteArray.ext (Array.toList_inj.1 (by simp [ByteArray.data_append]))
theorem slopeB_size {a w : List Int} : (slopeB a w).size ≤ 1000 := by
  have hb := convOf_le a
  have hz1 := fmtI_size (n := (convOf a).1) (by omega)
  have hz2 := fmtI_size (n := (convOf a).2) (by omega)
  have hz3 := fmtW_size (w.take 40)
  have e1 : ((⟨#[115, 108, 111, 112, 101, 32]⟩ : ByteArray) : ByteArray).size = 6 := rfl
  have e2 : ((⟨#[47]⟩ : ByteArray) : ByteArray).size = 1 := rfl
  have e3 : ((⟨#[32, 115, 116, 97, 110, 100, 97, 114, 100, 32]⟩ : ByteArray) : ByteArray).size = 10 := rfl
  simp only [slopeB, ByteArray.size_append, e1, e2, e3]; omega
theorem slopeF_some {a w : List Int} (h : bits w) : ∀ x ∈ slopeF a w, 0 < x.size := by
  have h1 := fmtI_some (convOf a).1
  have h2 := fmtW_some (w := w.take 40) (fun x hx => h x (List.mem_of_mem_take hx)) (by simp; omega)
  simp only [slopeF, List.mem_cons, List.not_mem_nil, or_false]
  rintro x (rfl | rfl | rfl | rfl)
  · decide
  · simp only [ByteArray.size_append]; omega
  · decide
  · exact h2
theorem iSlopeLine_call (a : List Int) (hl : a.length ≤ 1048576) : CallV Tryd.prog 10 [ints a] [S (slope a)] := by
  have hs := iStandardWord_call a hl
  have hc := iConvergentOf_call a hl
  have hz := iCentralWord_call a hl
  have hb := convOf_le a
  rcases e : stdw a with _ | w <;> rw [e] at hs <;> simp only [Option.getD_some, Option.getD_none, Option.isSome_some, Option.isSome_none] at hs
  · by_cases ha : areQ a
    · rw [decide_eq_true ha] at hc
      refine callV_of pk Tryd.func10 rfl rfl ?_
      repeat' ((try (conv => whnf)); first
          | refine Cal.by (hs) rfl ?_
          | refine Cal.by (hc) rfl ?_
          | refine Num.len ?_
          | refine Num.i64 (by omega) ?_
          | refine Tst.dec (fun h => ?_) (fun h => ?_)
          | refine Tst.ndec (fun h => ?_) (fun h => ?_)
          | refine Elt.cast (by first | exact True.intro | exact Int.natCast_nonneg _ | omega) (by omega) ?_
          | refine Drw.mk (by kernel_rfl) ?_
          | refine Tst.any (fun h => ?_) (fun h => ?_)
          | refine Ret.bool ?_
          | refine Ret.int ?_
          | refine Row.is True.intro ?_
          | refine Ret.str ?_)
      simp [slope, e]
    · rw [decide_eq_false ha] at hc
      refine callV_of pk Tryd.func10 rfl rfl ?_
      repeat' ((try (conv => whnf)); first
          | refine Cal.by (hs) rfl ?_
          | refine Cal.by (hc) rfl ?_
          | refine Num.len ?_
          | refine Num.i64 (by omega) ?_
          | refine Tst.dec (fun h => ?_) (fun h => ?_)
          | refine Tst.ndec (fun h => ?_) (fun h => ?_)
          | refine Elt.cast (by first | exact True.intro | exact Int.natCast_nonneg _ | omega) (by omega) ?_
          | refine Drw.mk (by kernel_rfl) ?_
          | refine Tst.any (fun h => ?_) (fun h => ?_)
          | refine Ret.bool ?_
          | refine Ret.int ?_
          | refine Row.is True.intro ?_
          | refine Ret.str ?_)
      simp [slope, e]
  · have hw := stdw_ok e
    rw [decide_eq_true (stdw_areQ e)] at hc
    refine callV_of pk Tryd.func10 rfl rfl ?_
    have hz1 := fmtI_size (n := (convOf a).1) (by omega)
    have hz2 := fmtI_size (n := (convOf a).2) (by omega)
    have hz3 := fmtW_size (w.take 40)
    have e2 : ((⟨#[47]⟩ : ByteArray) : ByteArray).size = 1 := rfl
    have ht : w.take (((min 40 w.length : Nat) : Int)).toNat = w.take 40 := by
      rw [Int.toNat_natCast]
      rcases Nat.le_total 40 w.length with h | h
      · rw [Nat.min_eq_left h]
      · rw [Nat.min_eq_right h, List.take_of_length_le (Nat.le_refl _), List.take_of_length_le h]
    repeat' ((try (conv => whnf)); first
        | refine Cal.by (hs) rfl ?_
        | refine Cal.by (hc) rfl ?_
        | refine Num.eq (z := ((min 40 w.length : Nat) : Int)) True.intro (by split <;> omega) ?_
        | refine Cal.by (iFormatInt_call (convOf a).1 (by omega)) rfl ?_
        | refine Cal.by (iFormatInt_call (convOf a).2 (by omega)) rfl ?_
        | refine Cal.by (iFormatWord_call (w.take 40) (by simp; omega)) rfl ?_
        | refine Owe.by (by simp only [ByteArray.size_append, e2]; omega) ?_
        | refine Row.cut ht (by omega) ?_
        | refine Num.len ?_
        | refine Num.i64 (by omega) ?_
        | refine Tst.dec (fun h => ?_) (fun h => ?_)
        | refine Tst.ndec (fun h => ?_) (fun h => ?_)
        | refine Elt.cast (by first | exact True.intro | exact Int.natCast_nonneg _ | omega) (by omega) ?_
        | refine Drw.mk (by kernel_rfl) ?_
        | refine Tst.any (fun h => ?_) (fun h => ?_)
        | refine Ret.bool ?_
        | refine Ret.int ?_
        | refine Row.is True.intro ?_
        | refine Ret.str ?_)
    rcases ec : central a with _ | c <;> rw [ec] at hz <;> simp only [Option.getD_some, Option.getD_none, Option.isSome_some, Option.isSome_none] at hz
    · repeat' ((try (conv => whnf)); first
          | refine Cal.by (hz) rfl ?_
          | refine Cal.by (line_call (slopeF a w) (by simp [slopeF]) (noBlank_of (slopeF_some hw.1)) (by rw [slopeF_join]; exact Nat.le_trans slopeB_size (by decide))) rfl ?_
          | refine Num.len ?_
          | refine Num.i64 (by omega) ?_
          | refine Tst.dec (fun h => ?_) (fun h => ?_)
          | refine Tst.ndec (fun h => ?_) (fun h => ?_)
          | refine Elt.cast (by first | exact True.intro | exact Int.natCast_nonneg _ | omega) (by omega) ?_
          | refine Drw.mk (by kernel_rfl) ?_
          | refine Tst.any (fun h => ?_) (fun h => ?_)
          | refine Ret.bool ?_
          | refine Ret.int ?_
          | refine Row.is True.intro ?_
          | refine Ret.str ?_)
      rw [slopeF_join]; simp [slope, e, ec]
    · have hcl := central_some e ec
      have hz4 := fmtI_size (n := c.length) (by omega)
      repeat' ((try (conv => whnf)); first
          | refine Cal.by (hz) rfl ?_
          | refine Cal.by (iFormatInt_call c.length (by omega)) rfl ?_
          | refine Cal.by (iIsPalindrome_call c (by omega)) rfl ?_
          | refine Row.app (f := S) (xs := slopeF a w) (ys := [(⟨#[99, 101, 110, 116, 114, 97, 108]⟩ : ByteArray), fmtI c.length]) rfl (by simp [slopeF]) (by decide) ?_
          | refine Num.len ?_
          | refine Num.i64 (by omega) ?_
          | refine Tst.dec (fun h => ?_) (fun h => ?_)
          | refine Tst.ndec (fun h => ?_) (fun h => ?_)
          | refine Elt.cast (by first | exact True.intro | exact Int.natCast_nonneg _ | omega) (by omega) ?_
          | refine Drw.mk (by kernel_rfl) ?_
          | refine Tst.any (fun h => ?_) (fun h => ?_)
          | refine Ret.bool ?_
          | refine Ret.int ?_
          | refine Row.is True.intro ?_
          | refine Ret.str ?_)
      conv => whnf
      refine Cal.own [(1, some 53)] [] (chosen_call (decide (isPal c)) (slopeF a w ++ [(⟨#[99, 101, 110, 116, 114, 97, 108]⟩ : ByteArray), fmtI c.length]) (⟨#[112, 97, 108, 105, 110, 100, 114, 111, 109, 101]⟩ : ByteArray) (by simp [slopeF])) ⟨rfl, ⟨rfl, ⟨rfl, rfl, rfl⟩, trivial⟩, ⟨rfl, retP_refl _, retP_refl _, trivial⟩⟩ rfl ?_
      have hjl := slopeF_central a w c
      have hsz : (slopeC (slopeB a w) c).size ≤ 2000 := by
        have h1 := slopeB_size (a := a) (w := w)
        have h2 : (yes (decide (isPal c)) (⟨#[32, 112, 97, 108, 105, 110, 100, 114, 111, 109, 101]⟩ : ByteArray)).size ≤ 11 := by cases decide (isPal c) <;> decide
        have e4 : ((⟨#[32, 99, 101, 110, 116, 114, 97, 108, 32]⟩ : ByteArray) : ByteArray).size = 9 := rfl
        simp only [slopeC, ByteArray.size_append, e4]; omega
      have hnb : noBlank (pick (decide (isPal c)) (slopeF a w ++ [(⟨#[99, 101, 110, 116, 114, 97, 108]⟩ : ByteArray), fmtI c.length]) (⟨#[112, 97, 108, 105, 110, 100, 114, 111, 109, 101]⟩ : ByteArray)) := by
        refine noBlank_of ?_
        have h1 : ∀ x ∈ slopeF a w ++ [(⟨#[99, 101, 110, 116, 114, 97, 108]⟩ : ByteArray), fmtI c.length], 0 < x.size := by
          intro x hx
          rcases List.mem_append.1 hx with hx | hx
          · exact slopeF_some hw.1 x hx
          · simp only [List.mem_cons, List.not_mem_nil, or_false] at hx
            rcases hx with rfl | rfl
            · decide
            · exact fmtI_some _
        cases decide (isPal c)
        · exact h1
        · intro x hx
          rcases List.mem_append.1 hx with hx | hx
          · exact h1 x hx
          · rw [List.mem_singleton.1 hx]; decide
      repeat' ((try (conv => whnf)); first
          | refine Cal.by (line_call (pick (decide (isPal c)) (slopeF a w ++ [(⟨#[99, 101, 110, 116, 114, 97, 108]⟩ : ByteArray), fmtI c.length]) (⟨#[112, 97, 108, 105, 110, 100, 114, 111, 109, 101]⟩ : ByteArray)) (by cases decide (isPal c) <;> simp [pick, slopeF]) hnb (by rw [hjl]; exact Nat.le_trans hsz (by decide))) rfl ?_
          | refine Num.len ?_
          | refine Num.i64 (by omega) ?_
          | refine Tst.dec (fun h => ?_) (fun h => ?_)
          | refine Tst.ndec (fun h => ?_) (fun h => ?_)
          | refine Elt.cast (by first | exact True.intro | exact Int.natCast_nonneg _ | omega) (by omega) ?_
          | refine Drw.mk (by kernel_rfl) ?_
          | refine Tst.any (fun h => ?_) (fun h => ?_)
          | refine Ret.bool ?_
          | refine Ret.int ?_
          | refine Row.is True.intro ?_
          | refine Ret.str ?_)
      rw [hjl]; simp [slope, e, ec]
end Go.Vm

/- The law of the slope's line. -/
set_option linter.unusedVariables false
set_option linter.unusedSimpArgs false
set_option maxRecDepth 4000
namespace Go.Vm
open Go Go.Proofs Go.RowKit
theorem law_SlopeLine (l : List Int) (hl : l.length ≤ 9223372036854775807) : CallV Tryd.prog 3 [ints l] [B true] := by
  refine callV_of pk Tryd.func3 rfl rfl ?_
  repeat' ((try (conv => whnf)); first
      | refine Num.len ?_
      | refine Num.i64 (by omega) ?_
      | refine Tst.dec (fun h => ?_) (fun h => ?_)
      | refine Tst.ndec (fun h => ?_) (fun h => ?_)
      | refine Elt.cast (by first | exact True.intro | exact Int.natCast_nonneg _ | omega) (by omega) ?_
      | refine Drw.mk (by kernel_rfl) ?_
      | refine Tst.any (fun h => ?_) (fun h => ?_)
      | refine Ret.bool ?_
      | refine Ret.int ?_
      | refine Row.is True.intro ?_
      | refine Ret.str ?_)
  · rfl
  have hl2 : l.length ≤ 1048576 := by omega
  repeat' ((try (conv => whnf)); first
      | refine Cal.by (toIntS_call l hl2) rfl ?_
      | refine Cal.by (sSlopeLine_call l hl2) rfl ?_
      | refine Cal.by (iSlopeLine_call l hl2) rfl ?_
      | refine Cal.bool (eqIntS_call l l hl2 hl2) rfl (fun h => ?_) (fun h => ?_)
      | refine Num.len ?_
      | refine Num.i64 (by omega) ?_
      | refine Tst.dec (fun h => ?_) (fun h => ?_)
      | refine Tst.ndec (fun h => ?_) (fun h => ?_)
      | refine Elt.cast (by first | exact True.intro | exact Int.natCast_nonneg _ | omega) (by omega) ?_
      | refine Drw.mk (by kernel_rfl) ?_
      | refine Tst.any (fun h => ?_) (fun h => ?_)
      | refine Ret.bool ?_
      | refine Ret.int ?_
      | refine Row.is True.intro ?_
      | refine Ret.str ?_)
  · simp at h
  · rfl
  · exact absurd rfl h
end Go.Vm
