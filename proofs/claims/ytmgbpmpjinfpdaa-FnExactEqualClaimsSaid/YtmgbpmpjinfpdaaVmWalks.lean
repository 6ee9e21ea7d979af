import Derived.Test.YtmgbpmpjinfpdaaProg
import Derived.Test.YtmgbpmpjinfpdaaVmLogicB
namespace Go.Vm
open Go Go.Proofs
def tyL : List TI :=
[⟨.one, 1, 0⟩, ⟨.one, 1, 8⟩, ⟨.int .i64, 1, 8⟩, ⟨.int .i64, 1, 8⟩, ⟨.bool, 1, 1⟩, ⟨.int .u8, 1, 1⟩, ⟨.int .u8, 1, 1⟩, ⟨.struct [2, 3, 4, 6], 4, 24⟩,
  ⟨.struct [2, 3, 4, 6], 4, 24⟩, ⟨.str, 1, 16⟩, ⟨.str, 1, 16⟩, ⟨.str, 1, 16⟩, ⟨.int .u64, 1, 8⟩, ⟨.struct [9, 12], 2, 24⟩, ⟨.struct [9, 12], 2, 24⟩, ⟨.ptr 193, 1, 8⟩,
  ⟨.ptr 196, 1, 8⟩, ⟨.ptr 204, 1, 8⟩, ⟨.struct [17], 1, 8⟩, ⟨.struct [17], 1, 8⟩, ⟨.one, 1, 16⟩, ⟨.int .i32, 1, 4⟩, ⟨.slice 23, 1, 24⟩, ⟨.slice 3, 1, 24⟩,
  ⟨.struct [3, 22, 23], 3, 56⟩, ⟨.struct [3, 22, 23], 3, 56⟩, ⟨.slice 126, 1, 24⟩, ⟨.struct [3, 25, 25, 26, 23, 3, 23], 11, 200⟩,
  ⟨.struct [3, 25, 25, 26, 23, 3, 23], 11, 200⟩, ⟨.one, 1, 8⟩, ⟨.one, 1, 8⟩, ⟨.struct [3, 22, 23], 3, 56⟩, ⟨.slice 89, 1, 24⟩,
  ⟨.struct [3, 31, 31, 32, 23, 3, 23], 11, 200⟩, ⟨.struct [3, 31, 31, 32, 23, 3, 23], 11, 200⟩, ⟨.one, 1, 8⟩, ⟨.one, 1, 8⟩, ⟨.slice 5, 1, 24⟩, ⟨.one, 1, 8⟩,
  ⟨.struct [22], 1, 24⟩, ⟨.struct [22], 1, 24⟩, ⟨.one, 1, 0⟩, ⟨.one, 1, 8⟩, ⟨.one, 1, 0⟩, ⟨.one, 1, 8⟩, ⟨.one, 1, 0⟩, ⟨.one, 1, 8⟩, ⟨.one, 1, 8⟩, ⟨.one, 1, 8⟩,
  ⟨.one, 1, 8⟩, ⟨.one, 1, 8⟩, ⟨.one, 1, 0⟩, ⟨.one, 1, 8⟩, ⟨.one, 1, 8⟩, ⟨.one, 1, 8⟩, ⟨.one, 1, 8⟩, ⟨.one, 1, 0⟩, ⟨.one, 1, 8⟩, ⟨.one, 1, 8⟩, ⟨.one, 1, 0⟩, ⟨.one, 1, 8⟩,
  ⟨.one, 1, 8⟩, ⟨.one, 1, 0⟩, ⟨.one, 1, 8⟩, ⟨.one, 1, 8⟩, ⟨.one, 1, 8⟩, ⟨.one, 1, 8⟩, ⟨.one, 1, 8⟩, ⟨.one, 1, 8⟩, ⟨.one, 1, 0⟩, ⟨.one, 1, 8⟩, ⟨.one, 1, 8⟩, ⟨.one, 1, 0⟩,
  ⟨.one, 1, 8⟩, ⟨.one, 1, 8⟩, ⟨.one, 1, 8⟩, ⟨.one, 1, 8⟩, ⟨.struct [22], 1, 24⟩, ⟨.one, 1, 8⟩, ⟨.one, 1, 8⟩, ⟨.one, 1, 8⟩, ⟨.one, 1, 8⟩, ⟨.one, 1, 8⟩, ⟨.one, 1, 8⟩,
  ⟨.one, 1, 8⟩, ⟨.one, 1, 8⟩, ⟨.one, 1, 8⟩, ⟨.one, 1, 8⟩, ⟨.struct [3, 3, 3, 3], 4, 32⟩, ⟨.struct [3, 3, 3, 3], 4, 32⟩, ⟨.ptr 130, 1, 8⟩, ⟨.one, 1, 8⟩, ⟨.one, 1, 8⟩,
  ⟨.one, 1, 8⟩, ⟨.one, 1, 8⟩, ⟨.one, 1, 8⟩, ⟨.one, 1, 8⟩, ⟨.one, 1, 8⟩, ⟨.one, 1, 8⟩, ⟨.one, 1, 8⟩, ⟨.one, 1, 8⟩, ⟨.one, 1, 8⟩, ⟨.one, 1, 8⟩, ⟨.one, 1, 8⟩, ⟨.one, 1, 8⟩,
  ⟨.one, 1, 8⟩, ⟨.one, 1, 8⟩, ⟨.one, 1, 8⟩, ⟨.one, 1, 8⟩, ⟨.slice 4, 1, 24⟩, ⟨.one, 1, 8⟩, ⟨.one, 1, 8⟩, ⟨.one, 1, 8⟩, ⟨.one, 1, 8⟩, ⟨.one, 1, 8⟩, ⟨.one, 1, 8⟩,
  ⟨.one, 1, 8⟩, ⟨.one, 1, 8⟩, ⟨.one, 1, 8⟩, ⟨.one, 1, 8⟩, ⟨.slice 9, 1, 24⟩, ⟨.one, 1, 8⟩, ⟨.one, 1, 8⟩, ⟨.one, 1, 8⟩, ⟨.one, 1, 8⟩, ⟨.one, 1, 8⟩,
  ⟨.struct [3, 3, 3, 3], 4, 32⟩, ⟨.one, 1, 8⟩, ⟨.one, 1, 8⟩, ⟨.struct [37, 3, 3], 3, 40⟩, ⟨.struct [37, 3, 3], 3, 40⟩, ⟨.one, 1, 8⟩, ⟨.one, 1, 8⟩, ⟨.one, 1, 8⟩,
  ⟨.one, 1, 0⟩, ⟨.one, 1, 8⟩, ⟨.one, 1, 8⟩, ⟨.one, 1, 8⟩, ⟨.one, 1, 8⟩, ⟨.one, 1, 8⟩, ⟨.int .u64, 1, 8⟩, ⟨.one, 1, 8⟩, ⟨.one, 1, 8⟩, ⟨.one, 1, 8⟩, ⟨.one, 1, 8⟩,
  ⟨.one, 1, 8⟩, ⟨.one, 1, 8⟩, ⟨.one, 1, 8⟩, ⟨.ptr 150, 1, 8⟩, ⟨.struct [148, 37], 2, 32⟩, ⟨.struct [148, 37], 2, 32⟩, ⟨.one, 1, 8⟩, ⟨.one, 1, 16⟩, ⟨.one, 1, 16⟩,
  ⟨.one, 1, 0⟩, ⟨.one, 1, 8⟩, ⟨.one, 1, 8⟩, ⟨.one, 1, 8⟩, ⟨.one, 1, 0⟩, ⟨.one, 1, 8⟩, ⟨.one, 1, 8⟩, ⟨.ptr 5, 1, 8⟩, ⟨.one, 1, 8⟩, ⟨.one, 1, 8⟩, ⟨.one, 1, 8⟩, ⟨.one, 1, 8⟩,
  ⟨.one, 1, 8⟩, ⟨.one, 1, 0⟩, ⟨.one, 1, 8⟩, ⟨.one, 1, 8⟩, ⟨.one, 1, 8⟩, ⟨.one, 1, 8⟩, ⟨.one, 1, 8⟩, ⟨.one, 1, 8⟩, ⟨.int .i64, 1, 8⟩, ⟨.one, 1, 0⟩, ⟨.one, 1, 8⟩,
  ⟨.one, 1, 8⟩, ⟨.one, 1, 8⟩, ⟨.one, 1, 8⟩, ⟨.one, 1, 8⟩, ⟨.int .u32, 1, 4⟩, ⟨.one, 1, 8⟩, ⟨.int .u64, 1, 8⟩, ⟨.int .u64, 1, 8⟩, ⟨.one, 1, 8⟩, ⟨.one, 1, 8⟩, ⟨.one, 1, 8⟩,
  ⟨.ptr 3, 1, 8⟩, ⟨.one, 1, 8⟩, ⟨.ptr 184, 1, 8⟩, ⟨.one, 1, 8⟩, ⟨.struct [17, 17, 17, 9], 4, 40⟩, ⟨.struct [17, 17, 17, 9], 4, 40⟩, ⟨.arr 0 16, 0, 0⟩,
  ⟨.struct [194], 0, 0⟩, ⟨.struct [194], 0, 0⟩, ⟨.one, 1, 8⟩, ⟨.int .u8, 1, 1⟩, ⟨.int .u8, 1, 1⟩, ⟨.one, 1, 8⟩, ⟨.int .i32, 1, 4⟩, ⟨.int .i32, 1, 4⟩,
  ⟨.struct [12, 12, 181, 198, 5, 5, 199, 200, 161, 201, 202], 11, 48⟩, ⟨.struct [12, 12, 181, 198, 5, 5, 199, 200, 161, 201, 202], 11, 48⟩, ⟨.one, 1, 8⟩]
def T : Tab := tabT tyL
theorem ptab : (List.range tyL.length).map (tabOf Try.prog) = tyL := by kernel_rfl
theorem pnames : namesB Try.prog = true := by kernel_rfl
theorem pk : POk Try.prog T := pok_of ptab (by kernel_rfl) (by kernel_rfl) (by kernel_rfl) (by kernel_rfl) pnames
end Go.Vm

/- The claims' arguments: their sizes, their copies, their comparison. -/
set_option linter.unusedVariables false
set_option linter.unusedSimpArgs false
set_option maxRecDepth 4000
namespace Go.Vm
open Go Go.Proofs Go.RowKit
def szL (n : Nat) (left : Int) : Int := if left - n < 0 then -1 else left - n
theorem szL_le {n : Nat} {left : Int} (h : -1 ≤ left ∧ left ≤ 1048576) : -1 ≤ szL n left ∧ szL n left ≤ 1048576 := by
  unfold szL; split <;> omega
theorem szIntS_call (l : List Int) (left : Int) (hl : l.length ≤ 9223372036854775807) (h : -1 ≤ left ∧ left ≤ 1048576) : CallV Try.prog 79 [ints l, I left] [I (szL l.length left)] := by
  refine callV_of pk Try.func79 rfl rfl ?_
  repeat' ((try (conv => whnf)); first
      | refine Num.len ?_
      | refine Num.i64 (by omega) ?_
      | refine Tst.dec (fun h => ?_) (fun h => ?_)
      | refine Tst.ndec (fun h => ?_) (fun h => ?_)
      | refine Elt.cast (by first | exact True.intro | exact Int.natCast_nonneg _ | omega) (by omega) ?_
      | refine Drw.mk (by kernel_rfl) ?_
      | refine Tst.any (fun h => ?_) (fun h => ?_)
      | refine Ret.bool ?_
      | refine Ret.int ?_
      | refine Ret.str ?_)
  · simp [szL, *]
  · simp [szL, *]
theorem toIntS_call (l : List Int) (hl : l.length ≤ 1048576) : CallV Try.prog 74 [ints l] [ints l] := by
  refine callV_of pk Try.func74 rfl rfl ?_
  repeat' ((try (conv => whnf)); first
      | refine Num.len ?_
      | refine Num.i64 (by omega) ?_
      | refine Tst.dec (fun h => ?_) (fun h => ?_)
      | refine Tst.ndec (fun h => ?_) (fun h => ?_)
      | refine Elt.cast (by first | exact True.intro | exact Int.natCast_nonneg _ | omega) (by omega) ?_
      | refine Drw.mk (by kernel_rfl) ?_
      | refine Tst.any (fun h => ?_) (fun h => ?_)
      | refine Ret.bool ?_
      | refine Ret.int ?_
      | refine Ret.str ?_)
  refine Row.eq (ys := fillP I (I 0) l 0) rfl ⟨by omega, by omega, (by show (8 : Int) * _ ≤ _; omega), by omega⟩ ?_
  refine Lop.of (ι := Nat) (fun i => i ≤ l.length) (fun i => (⟨22, [(0, .pv (ints l)), (3, .row 8), (4, .pv (I i))], [(8, some (1, 3, .sl 1 (fillP I (I 0) l i)))]⟩ : St)) (fun i => l.length - i) 0
    (Nat.zero_le _) (by refine ⟨[(8, some 8)], rfl, rfl, ?_, ?_⟩ <;> (repeat' (first | exact trivial | exact .inl rfl | refine And.intro ?_ ?_ | exact rfl | exact .inr ⟨rfl, _, rfl⟩))) fun i hi => ?_
  repeat' ((try (conv => whnf)); first
      | refine Owe.by (by rw [fillP_len hi]; omega) ?_
      | refine Row.eq (fillP_step (by omega)) (by rw [fillP_len hi]; omega) ?_
      | refine Num.len ?_
      | refine Num.i64 (by omega) ?_
      | refine Tst.dec (fun h => ?_) (fun h => ?_)
      | refine Tst.ndec (fun h => ?_) (fun h => ?_)
      | refine Elt.cast (by first | exact True.intro | exact Int.natCast_nonneg _ | omega) (by omega) ?_
      | refine Drw.mk (by kernel_rfl) ?_
      | refine Tst.any (fun h => ?_) (fun h => ?_)
      | refine Ret.bool ?_
      | refine Ret.int ?_
      | refine Ret.str ?_)
  · exact Bck.at (i + 1) (by refine ⟨[(8, some 8)], rfl, rfl, ?_, ?_⟩ <;> (repeat' (first | exact trivial | exact .inl rfl | refine And.intro ?_ ?_ | exact rfl | exact .inr ⟨rfl, _, rfl⟩))) (by omega) (by omega)
  · exact Ret.sl (fillP_all (by omega))
theorem eqIntS_call (xs ys : List Int) (hx : xs.length ≤ 1048576) (hy : ys.length ≤ 1048576) : CallV Try.prog 76 [ints xs, ints ys] [B (decide (xs = ys))] := by
  refine callV_of pk Try.func76 rfl rfl ?_
  repeat' ((try (conv => whnf)); first
      | refine Num.len ?_
      | refine Num.i64 (by omega) ?_
      | refine Tst.dec (fun h => ?_) (fun h => ?_)
      | refine Tst.ndec (fun h => ?_) (fun h => ?_)
      | refine Elt.cast (by first | exact True.intro | exact Int.natCast_nonneg _ | omega) (by omega) ?_
      | refine Drw.mk (by kernel_rfl) ?_
      | refine Tst.any (fun h => ?_) (fun h => ?_)
      | refine Ret.bool ?_
      | refine Ret.int ?_
      | refine Ret.str ?_)
  · simp; rintro rfl; omega
  refine Lop.of (ι := Nat) (fun i => i ≤ xs.length ∧ xs.take i = ys.take i) (fun i => (⟨26, [(0, .pv (ints xs)), (1, .pv (ints ys)), (5, .pv (I i))], []⟩ : St)) (fun i => xs.length - i) 0
      ⟨Nat.zero_le _, rfl⟩ (by refine ⟨[], rfl, rfl, ?_, ?_⟩ <;> (repeat' (first | exact trivial | exact .inl rfl | refine And.intro ?_ ?_ | exact rfl | exact .inr ⟨rfl, _, rfl⟩))) fun i hi => ?_
  repeat' ((try (conv => whnf)); first
      | refine Num.len ?_
      | refine Num.i64 (by omega) ?_
      | refine Tst.dec (fun h => ?_) (fun h => ?_)
      | refine Tst.ndec (fun h => ?_) (fun h => ?_)
      | refine Elt.cast (by first | exact True.intro | exact Int.natCast_nonneg _ | omega) (by omega) ?_
      | refine Drw.mk (by kernel_rfl) ?_
      | refine Tst.any (fun h => ?_) (fun h => ?_)
      | refine Ret.bool ?_
      | refine Ret.int ?_
      | refine Ret.str ?_)
  · simp; rintro rfl; omega
  · refine Bck.at (i + 1) (by refine ⟨[], rfl, rfl, ?_, ?_⟩ <;> (repeat' (first | exact trivial | exact .inl rfl | refine And.intro ?_ ?_ | exact rfl | exact .inr ⟨rfl, _, rfl⟩))) ⟨by omega, ?_⟩ (by omega)
    rw [take_next (by omega), take_next (by omega)]; simp [*]
  · simp; have := hi.2; rw [List.take_of_length_le (by omega), List.take_of_length_le (by omega)] at this; exact this
def intss (ls : List (List Int)) : PV := .sl 1 (ls.map ints)
def small (ls : List (List Int)) (n : Nat) : Prop := ls.length ≤ n ∧ ∀ l ∈ ls, l.length ≤ n
def szLs : List (List Int) → Int → Int
  | [], left => left
  | l :: ls, left => if szL l.length left < 0 then -1 else szLs ls (szL l.length left)
def szSS (ls : List (List Int)) (left : Int) : Int := if left - ls.length < 0 then -1 else szLs ls (left - ls.length)
theorem szIntSS_call (ls : List (List Int)) (left : Int) (hl : small ls 9223372036854775807) (h : -1 ≤ left ∧ left ≤ 1048576) : CallV Try.prog 118 [intss ls, I left] [I (szSS ls left)] := by
  refine callV_of pk Try.func118 rfl rfl ?_
  have hn := hl.1
  repeat' ((try (conv => whnf)); first
      | refine Num.len ?_
      | refine Num.i64 (by omega) ?_
      | refine Tst.dec (fun h => ?_) (fun h => ?_)
      | refine Tst.ndec (fun h => ?_) (fun h => ?_)
      | refine Elt.cast (by first | exact True.intro | exact Int.natCast_nonneg _ | omega) (by omega) ?_
      | refine Drw.mk (by kernel_rfl) ?_
      | refine Tst.any (fun h => ?_) (fun h => ?_)
      | refine Ret.bool ?_
      | refine Ret.int ?_
      | refine Ret.str ?_)
  · simp [szSS, *]
  refine Lop.of2 (fun (i : Nat) r => i ≤ ls.length ∧ 0 ≤ r ∧ r ≤ 1048576 ∧ szLs (ls.drop i) r = szSS ls left) (fun i r => (⟨27, [(0, .pv (intss ls)), (1, .pv (I r)), (5, .pv (I i))], []⟩ : St)) (fun i _ => ls.length - i) 0 (left - ls.length)
    ⟨Nat.zero_le _, by omega, by omega, by simp [szSS, *]⟩ (by refine ⟨[], rfl, rfl, ?_, ?_⟩ <;> (repeat' (first | exact trivial | exact .inl rfl | refine And.intro ?_ ?_ | exact rfl | exact .inr ⟨rfl, _, rfl⟩))) fun i r ⟨hi1, hi2, hi3, hi4⟩ => ?_
  repeat' ((try (conv => whnf)); first
      | refine Cal.by (szIntS_call (at' ls i) r (hl.2 _ (at_mem (by omega))) ⟨by omega, by omega⟩) ?_
      | refine Num.len ?_
      | refine Num.i64 (by omega) ?_
      | refine Tst.dec (fun h => ?_) (fun h => ?_)
      | refine Tst.ndec (fun h => ?_) (fun h => ?_)
      | refine Elt.cast (by first | exact True.intro | exact Int.natCast_nonneg _ | omega) (by omega) ?_
      | refine Drw.mk (by kernel_rfl) ?_
      | refine Tst.any (fun h => ?_) (fun h => ?_)
      | refine Ret.bool ?_
      | refine Ret.int ?_
      | refine Ret.str ?_)
  · rw [← hi4, drop_at (i := i) (by omega), szLs, if_pos (by omega)]
  · have hb := szL_le (n := (at' ls i).length) (left := r) ⟨by omega, hi3⟩
    refine Bck.at2 (i + 1) _ (by refine ⟨[], rfl, rfl, ?_, ?_⟩ <;> (repeat' (first | exact trivial | exact .inl rfl | refine And.intro ?_ ?_ | exact rfl | exact .inr ⟨rfl, _, rfl⟩))) ⟨by omega, by omega, hb.2, ?_⟩ (by omega)
    rw [← hi4, drop_at (i := i) (by omega), szLs, if_neg (by omega)]
  · rw [← hi4, List.drop_eq_nil_of_le (by omega)]; rfl
theorem toIntSS_call (ls : List (List Int)) (hl : small ls 1048576) : CallV Try.prog 122 [intss ls] [intss ls] := by
  refine callV_of pk Try.func122 rfl rfl ?_
  have hn := hl.1
  repeat' ((try (conv => whnf)); first
      | refine Num.len ?_
      | refine Num.i64 (by omega) ?_
      | refine Tst.dec (fun h => ?_) (fun h => ?_)
      | refine Tst.ndec (fun h => ?_) (fun h => ?_)
      | refine Elt.cast (by first | exact True.intro | exact Int.natCast_nonneg _ | omega) (by omega) ?_
      | refine Drw.mk (by kernel_rfl) ?_
      | refine Tst.any (fun h => ?_) (fun h => ?_)
      | refine Ret.bool ?_
      | refine Ret.int ?_
      | refine Ret.str ?_)
  refine Row.eq (ys := fillP ints .nil ls 0) rfl ⟨by omega, by omega, (by show (24 : Int) * _ ≤ _; omega), by omega⟩ ?_
  refine Lop.of (ι := Nat) (fun i => i ≤ ls.length) (fun i => (⟨23, [(0, .pv (intss ls)), (3, .row 8), (4, .pv (I i))], [(8, some (1, 23, .sl 1 (fillP ints .nil ls i)))]⟩ : St)) (fun i => ls.length - i) 0
    (Nat.zero_le _) (by refine ⟨[(8, some 8)], rfl, rfl, ?_, ?_⟩ <;> (repeat' (first | exact trivial | exact .inl rfl | refine And.intro ?_ ?_ | exact rfl | exact .inr ⟨rfl, _, rfl⟩))) fun i hi => ?_
  repeat' ((try (conv => whnf)); first
      | refine Cal.by (toIntS_call (at' ls i) (hl.2 _ (at_mem (by omega)))) ?_
      | refine Owe.by (by rw [fillP_len hi]; omega) ?_
      | refine Row.eq (fillP_step (by omega)) (by rw [fillP_len hi]; omega) ?_
      | refine Num.len ?_
      | refine Num.i64 (by omega) ?_
      | refine Tst.dec (fun h => ?_) (fun h => ?_)
      | refine Tst.ndec (fun h => ?_) (fun h => ?_)
      | refine Elt.cast (by first | exact True.intro | exact Int.natCast_nonneg _ | omega) (by omega) ?_
      | refine Drw.mk (by kernel_rfl) ?_
      | refine Tst.any (fun h => ?_) (fun h => ?_)
      | refine Ret.bool ?_
      | refine Ret.int ?_
      | refine Ret.str ?_)
  · exact Bck.at (i + 1) (by refine ⟨[(8, some 8)], rfl, rfl, ?_, ?_⟩ <;> (repeat' (first | exact trivial | exact .inl rfl | refine And.intro ?_ ?_ | exact rfl | exact .inr ⟨rfl, _, rfl⟩))) (by omega) (by omega)
  · exact Ret.sl (fillP_all (by omega))
theorem eqIntSS_call (xs ys : List (List Int)) (hx : xs.length ≤ 1048576) (hy : ys.length ≤ 1048576) (hx' : small xs 1048576) (hy' : small ys 1048576) : CallV Try.prog 125 [intss xs, intss ys] [B (decide (xs = ys))] := by
  refine callV_of pk Try.func125 rfl rfl ?_
  repeat' ((try (conv => whnf)); first
      | refine Num.len ?_
      | refine Num.i64 (by omega) ?_
      | refine Tst.dec (fun h => ?_) (fun h => ?_)
      | refine Tst.ndec (fun h => ?_) (fun h => ?_)
      | refine Elt.cast (by first | exact True.intro | exact Int.natCast_nonneg _ | omega) (by omega) ?_
      | refine Drw.mk (by kernel_rfl) ?_
      | refine Tst.any (fun h => ?_) (fun h => ?_)
      | refine Ret.bool ?_
      | refine Ret.int ?_
      | refine Ret.str ?_)
  · simp; rintro rfl; omega
  refine Lop.of (ι := Nat) (fun i => i ≤ xs.length ∧ xs.take i = ys.take i) (fun i => (⟨27, [(0, .pv (intss xs)), (1, .pv (intss ys)), (5, .pv (I i))], []⟩ : St)) (fun i => xs.length - i) 0
      ⟨Nat.zero_le _, rfl⟩ (by refine ⟨[], rfl, rfl, ?_, ?_⟩ <;> (repeat' (first | exact trivial | exact .inl rfl | refine And.intro ?_ ?_ | exact rfl | exact .inr ⟨rfl, _, rfl⟩))) fun i hi => ?_
  repeat' ((try (conv => whnf)); first
      | refine Cal.bool (eqIntS_call (at' xs i) (at' ys i) (hx'.2 _ (at_mem (by omega))) (hy'.2 _ (at_mem (by omega)))) (fun h => ?_) (fun h => ?_)
      | refine Num.len ?_
      | refine Num.i64 (by omega) ?_
      | refine Tst.dec (fun h => ?_) (fun h => ?_)
      | refine Tst.ndec (fun h => ?_) (fun h => ?_)
      | refine Elt.cast (by first | exact True.intro | exact Int.natCast_nonneg _ | omega) (by omega) ?_
      | refine Drw.mk (by kernel_rfl) ?_
      | refine Tst.any (fun h => ?_) (fun h => ?_)
      | refine Ret.bool ?_
      | refine Ret.int ?_
      | refine Ret.str ?_)
  · refine Bck.at (i + 1) (by refine ⟨[], rfl, rfl, ?_, ?_⟩ <;> (repeat' (first | exact trivial | exact .inl rfl | refine And.intro ?_ ?_ | exact rfl | exact .inr ⟨rfl, _, rfl⟩))) ⟨by omega, ?_⟩ (by omega)
    rw [take_next (by omega), take_next (by omega)]; simp [*]
  · simp; rintro rfl; simp at *
  · simp; have := hi.2; rw [List.take_of_length_le (by omega), List.take_of_length_le (by omega)] at this; exact this
end Go.Vm

/- Claims: their sizes, their copies, their comparison. -/
set_option linter.unusedVariables false
set_option linter.unusedSimpArgs false
set_option maxRecDepth 4000
namespace Go.Vm
open Go Go.Proofs Go.RowKit
structure Nd where
  a : Int
  b : Int
  c : Int
  d : Int
  deriving DecidableEq, Inhabited
def ndP (n : Nd) : PV := .agg [I n.a, I n.b, I n.c, I n.d]
def ndsP (l : List Nd) : PV := .sl 4 (l.map ndP)
theorem toNode_call (n : Nd) : CallV Try.prog 143 [ndP n] [ndP n] := by
  refine callV_of pk Try.func143 rfl rfl ?_
  exact Ret.of rfl
theorem eqNode_call (x y : Nd) : CallV Try.prog 145 [ndP x, ndP y] [B (decide (x = y))] := by
  refine callV_of pk Try.func145 rfl rfl ?_
  repeat' ((try (conv => whnf)); first
      | refine Num.len ?_
      | refine Num.i64 (by omega) ?_
      | refine Tst.dec (fun h => ?_) (fun h => ?_)
      | refine Tst.ndec (fun h => ?_) (fun h => ?_)
      | refine Elt.cast (by first | exact True.intro | exact Int.natCast_nonneg _ | omega) (by omega) ?_
      | refine Drw.mk (by kernel_rfl) ?_
      | refine Tst.any (fun h => ?_) (fun h => ?_)
      | refine Ret.bool ?_
      | refine Ret.int ?_
      | refine Ret.str ?_)
  all_goals (cases x; cases y; simp_all)
theorem szNodeS_call (l : List Nd) (left : Int) (hl : l.length ≤ 9223372036854775807) (h : -1 ≤ left ∧ left ≤ 1048576) : CallV Try.prog 78 [ndsP l, I left] [I (szL l.length left)] := by
  refine callV_of pk Try.func78 rfl rfl ?_
  repeat' ((try (conv => whnf)); first
      | refine Num.len ?_
      | refine Num.i64 (by omega) ?_
      | refine Tst.dec (fun h => ?_) (fun h => ?_)
      | refine Tst.ndec (fun h => ?_) (fun h => ?_)
      | refine Elt.cast (by first | exact True.intro | exact Int.natCast_nonneg _ | omega) (by omega) ?_
      | refine Drw.mk (by kernel_rfl) ?_
      | refine Tst.any (fun h => ?_) (fun h => ?_)
      | refine Ret.bool ?_
      | refine Ret.int ?_
      | refine Ret.str ?_)
  · simp [szL, *]
  · simp [szL, *]
def nd0 : PV := ndP ⟨0, 0, 0, 0⟩
theorem toNodeS_call (ls : List Nd) (hl : ls.length ≤ 1048576) : CallV Try.prog 82 [ndsP ls] [ndsP ls] := by
  refine callV_of pk Try.func82 rfl rfl ?_
  repeat' ((try (conv => whnf)); first
      | refine Num.len ?_
      | refine Num.i64 (by omega) ?_
      | refine Tst.dec (fun h => ?_) (fun h => ?_)
      | refine Tst.ndec (fun h => ?_) (fun h => ?_)
      | refine Elt.cast (by first | exact True.intro | exact Int.natCast_nonneg _ | omega) (by omega) ?_
      | refine Drw.mk (by kernel_rfl) ?_
      | refine Tst.any (fun h => ?_) (fun h => ?_)
      | refine Ret.bool ?_
      | refine Ret.int ?_
      | refine Ret.str ?_)
  refine Row.eq (ys := fillP ndP nd0 ls 0) rfl ⟨by omega, by omega, (by show (32 : Int) * _ ≤ _; omega), by omega⟩ ?_
  refine Lop.of (ι := Nat) (fun i => i ≤ ls.length) (fun i => (⟨23, [(0, .pv (ndsP ls)), (3, .row 8), (4, .pv (I i))], [(8, some (1, 89, .sl 4 (fillP ndP nd0 ls i)))]⟩ : St)) (fun i => ls.length - i) 0
    (Nat.zero_le _) (by refine ⟨[(8, some 8)], rfl, rfl, ?_, ?_⟩ <;> (repeat' (first | exact trivial | exact .inl rfl | refine And.intro ?_ ?_ | exact rfl | exact .inr ⟨rfl, _, rfl⟩))) fun i hi => ?_
  repeat' ((try (conv => whnf)); first
      | refine Cal.by (toNode_call (at' ls i)) ?_
      | refine Owe.by (by rw [fillP_len hi]; omega) ?_
      | refine Row.eq (fillP_step (by omega)) (by rw [fillP_len hi]; omega) ?_
      | refine Num.len ?_
      | refine Num.i64 (by omega) ?_
      | refine Tst.dec (fun h => ?_) (fun h => ?_)
      | refine Tst.ndec (fun h => ?_) (fun h => ?_)
      | refine Elt.cast (by first | exact True.intro | exact Int.natCast_nonneg _ | omega) (by omega) ?_
      | refine Drw.mk (by kernel_rfl) ?_
      | refine Tst.any (fun h => ?_) (fun h => ?_)
      | refine Ret.bool ?_
      | refine Ret.int ?_
      | refine Ret.str ?_)
  · exact Bck.at (i + 1) (by refine ⟨[(8, some 8)], rfl, rfl, ?_, ?_⟩ <;> (repeat' (first | exact trivial | exact .inl rfl | refine And.intro ?_ ?_ | exact rfl | exact .inr ⟨rfl, _, rfl⟩))) (by omega) (by omega)
  · exact Ret.sl (fillP_all (by omega))
theorem eqNodeS_call (xs ys : List Nd) (hx : xs.length ≤ 1048576) (hy : ys.length ≤ 1048576) : CallV Try.prog 86 [ndsP xs, ndsP ys] [B (decide (xs = ys))] := by
  refine callV_of pk Try.func86 rfl rfl ?_
  repeat' ((try (conv => whnf)); first
      | refine Num.len ?_
      | refine Num.i64 (by omega) ?_
      | refine Tst.dec (fun h => ?_) (fun h => ?_)
      | refine Tst.ndec (fun h => ?_) (fun h => ?_)
      | refine Elt.cast (by first | exact True.intro | exact Int.natCast_nonneg _ | omega) (by omega) ?_
      | refine Drw.mk (by kernel_rfl) ?_
      | refine Tst.any (fun h => ?_) (fun h => ?_)
      | refine Ret.bool ?_
      | refine Ret.int ?_
      | refine Ret.str ?_)
  · simp; rintro rfl; omega
  refine Lop.of (ι := Nat) (fun i => i ≤ xs.length ∧ xs.take i = ys.take i) (fun i => (⟨27, [(0, .pv (ndsP xs)), (1, .pv (ndsP ys)), (5, .pv (I i))], []⟩ : St)) (fun i => xs.length - i) 0
      ⟨Nat.zero_le _, rfl⟩ (by refine ⟨[], rfl, rfl, ?_, ?_⟩ <;> (repeat' (first | exact trivial | exact .inl rfl | refine And.intro ?_ ?_ | exact rfl | exact .inr ⟨rfl, _, rfl⟩))) fun i hi => ?_
  repeat' ((try (conv => whnf)); first
      | refine Cal.bool (eqNode_call (at' xs i) (at' ys i)) (fun h => ?_) (fun h => ?_)
      | refine Num.len ?_
      | refine Num.i64 (by omega) ?_
      | refine Tst.dec (fun h => ?_) (fun h => ?_)
      | refine Tst.ndec (fun h => ?_) (fun h => ?_)
      | refine Elt.cast (by first | exact True.intro | exact Int.natCast_nonneg _ | omega) (by omega) ?_
      | refine Drw.mk (by kernel_rfl) ?_
      | refine Tst.any (fun h => ?_) (fun h => ?_)
      | refine Ret.bool ?_
      | refine Ret.int ?_
      | refine Ret.str ?_)
  · refine Bck.at (i + 1) (by refine ⟨[], rfl, rfl, ?_, ?_⟩ <;> (repeat' (first | exact trivial | exact .inl rfl | refine And.intro ?_ ?_ | exact rfl | exact .inr ⟨rfl, _, rfl⟩))) ⟨by omega, ?_⟩ (by omega)
    rw [take_next (by omega), take_next (by omega)]; simp [*]
  · simp; rintro rfl; simp at *
  · simp; have := hi.2; rw [List.take_of_length_le (by omega), List.take_of_length_le (by omega)] at this; exact this
structure Sq where
  base : Int
  next : List (List Int)
  out : List Int
  deriving DecidableEq
def sqP (s : Sq) : PV := .agg [I s.base, intss s.next, ints s.out]
structure SqOk (s : Sq) (n : Nat) : Prop where
  next : small s.next n
  out : s.out.length ≤ n
theorem toSequence_call (s : Sq) (h : SqOk s 1048576) : CallV Try.prog 62 [sqP s] [sqP s] := by
  refine callV_of pk Try.func62 rfl rfl ?_
  repeat' ((try (conv => whnf)); first
      | refine Cal.by (toIntSS_call s.next h.next) ?_
      | refine Cal.by (toIntS_call s.out h.out) ?_
      | refine Num.len ?_
      | refine Num.i64 (by omega) ?_
      | refine Tst.dec (fun h => ?_) (fun h => ?_)
      | refine Tst.ndec (fun h => ?_) (fun h => ?_)
      | refine Elt.cast (by first | exact True.intro | exact Int.natCast_nonneg _ | omega) (by omega) ?_
      | refine Drw.mk (by kernel_rfl) ?_
      | refine Tst.any (fun h => ?_) (fun h => ?_)
      | refine Ret.bool ?_
      | refine Ret.int ?_
      | refine Ret.str ?_)
  exact Ret.of rfl
theorem szLs_le : ∀ (ls : List (List Int)) {left : Int}, -1 ≤ left ∧ left ≤ 1048576 → -1 ≤ szLs ls left ∧ szLs ls left ≤ 1048576
  | [], _, h => h
  | l :: ls, left, h => by
    simp only [szLs]
    split
    · omega
    · exact szLs_le ls (szL_le h)
theorem szSS_le {ls : List (List Int)} {left : Int} (h : -1 ≤ left ∧ left ≤ 1048576) : -1 ≤ szSS ls left ∧ szSS ls left ≤ 1048576 := by
  unfold szSS
  split
  · omega
  · exact szLs_le ls (by omega)
/-- One step of the count, and what comes behind it. -/
def thenZ (z : Int) (k : Int → Int) : Int := if z < 0 then -1 else k z
theorem thenZ_le {z : Int} {k : Int → Int} (hz : z ≤ 1048576) (h : ∀ z, -1 ≤ z ∧ z ≤ 1048576 → -1 ≤ k z ∧ k z ≤ 1048576) : -1 ≤ thenZ z k ∧ thenZ z k ≤ 1048576 := by
  unfold thenZ; split
  · omega
  · exact h z (by omega)
def szSq (s : Sq) (left : Int) : Int := thenZ (szSS s.next left) fun z => thenZ (szL s.out.length z) id
theorem szSq_le {s : Sq} {left : Int} (h : -1 ≤ left ∧ left ≤ 1048576) : -1 ≤ szSq s left ∧ szSq s left ≤ 1048576 :=
  thenZ_le (szSS_le h).2 fun _ h => thenZ_le (szL_le h).2 fun _ h => h
theorem szSequence_call (s : Sq) (left : Int) (hs : SqOk s 9223372036854775807) (hb : -1 ≤ left ∧ left ≤ 1048576) : CallV Try.prog 60 [sqP s, I left] [I (szSq s left)] := by
  refine callV_of pk Try.func60 rfl rfl ?_
  repeat' ((try (conv => whnf)); first
      | refine Cal.by (szIntSS_call s.next left hs.next hb) ?_
      | refine Cal.by (szIntS_call s.out _ hs.out (szSS_le hb)) ?_
      | refine Num.len ?_
      | refine Num.i64 (by omega) ?_
      | refine Tst.dec (fun h => ?_) (fun h => ?_)
      | refine Tst.ndec (fun h => ?_) (fun h => ?_)
      | refine Elt.cast (by first | exact True.intro | exact Int.natCast_nonneg _ | omega) (by omega) ?_
      | refine Drw.mk (by kernel_rfl) ?_
      | refine Tst.any (fun h => ?_) (fun h => ?_)
      | refine Ret.bool ?_
      | refine Ret.int ?_
      | refine Ret.str ?_)
  all_goals simp [szSq, thenZ, *]
theorem eqSequence_call (x y : Sq) (hx : SqOk x 1048576) (hy : SqOk y 1048576) : CallV Try.prog 64 [sqP x, sqP y] [B (decide (x = y))] := by
  refine callV_of pk Try.func64 rfl rfl ?_
  repeat' ((try (conv => whnf)); first
      | refine Cal.bool (eqIntSS_call x.next y.next hx.next.1 hy.next.1 hx.next hy.next) (fun h => ?_) (fun h => ?_)
      | refine Cal.bool (eqIntS_call x.out y.out hx.out hy.out) (fun h => ?_) (fun h => ?_)
      | refine Num.len ?_
      | refine Num.i64 (by omega) ?_
      | refine Tst.dec (fun h => ?_) (fun h => ?_)
      | refine Tst.ndec (fun h => ?_) (fun h => ?_)
      | refine Elt.cast (by first | exact True.intro | exact Int.natCast_nonneg _ | omega) (by omega) ?_
      | refine Drw.mk (by kernel_rfl) ?_
      | refine Tst.any (fun h => ?_) (fun h => ?_)
      | refine Ret.bool ?_
      | refine Ret.int ?_
      | refine Ret.str ?_)
  all_goals (cases x; cases y; simp_all)
structure Cl where
  kind : Int
  first : Sq
  second : Sq
  formula : List Nd
  word : List Int
  number : Int
  numbers : List Int
  deriving DecidableEq
def clP (c : Cl) : PV := .agg [I c.kind, sqP c.first, sqP c.second, ndsP c.formula, ints c.word, I c.number, ints c.numbers]
structure ClOk (c : Cl) (n : Nat) : Prop where
  first : SqOk c.first n
  second : SqOk c.second n
  formula : c.formula.length ≤ n
  word : c.word.length ≤ n
  numbers : c.numbers.length ≤ n
theorem toClaim_call (c : Cl) (h : ClOk c 1048576) : CallV Try.prog 11 [clP c] [clP c] := by
  refine callV_of pk Try.func11 rfl rfl ?_
  repeat' ((try (conv => whnf)); first
      | refine Cal.by (toSequence_call c.first h.first) ?_
      | refine Cal.by (toSequence_call c.second h.second) ?_
      | refine Cal.by (toNodeS_call c.formula h.formula) ?_
      | refine Cal.by (toIntS_call c.word h.word) ?_
      | refine Cal.by (toIntS_call c.numbers h.numbers) ?_
      | refine Num.len ?_
      | refine Num.i64 (by omega) ?_
      | refine Tst.dec (fun h => ?_) (fun h => ?_)
      | refine Tst.ndec (fun h => ?_) (fun h => ?_)
      | refine Elt.cast (by first | exact True.intro | exact Int.natCast_nonneg _ | omega) (by omega) ?_
      | refine Drw.mk (by kernel_rfl) ?_
      | refine Tst.any (fun h => ?_) (fun h => ?_)
      | refine Ret.bool ?_
      | refine Ret.int ?_
      | refine Ret.str ?_)
  exact Ret.of rfl
def szCl (c : Cl) (left : Int) : Int :=
  thenZ (szSq c.first left) fun l => thenZ (szSq c.second l) fun l => thenZ (szL c.formula.length l) fun l => thenZ (szL c.word.length l) fun l => thenZ (szL c.numbers.length l) id
theorem szCl_le {c : Cl} {left : Int} (h : -1 ≤ left ∧ left ≤ 1048576) : -1 ≤ szCl c left ∧ szCl c left ≤ 1048576 :=
  thenZ_le (szSq_le h).2 fun _ h => thenZ_le (szSq_le h).2 fun _ h => thenZ_le (szL_le h).2 fun _ h => thenZ_le (szL_le h).2 fun _ h => thenZ_le (szL_le h).2 fun _ h => h
theorem szClaim_call (c : Cl) (left : Int) (hc : ClOk c 9223372036854775807) (hb : -1 ≤ left ∧ left ≤ 1048576) : CallV Try.prog 9 [clP c, I left] [I (szCl c left)] := by
  refine callV_of pk Try.func9 rfl rfl ?_
  repeat' ((try (conv => whnf)); first
      | refine Cal.by (szSequence_call c.first left hc.first hb) ?_
      | refine Cal.by (szSequence_call c.second _ hc.second (szSq_le hb)) ?_
      | refine Cal.by (szNodeS_call c.formula _ hc.formula (szSq_le (szSq_le hb))) ?_
      | refine Cal.by (szIntS_call c.word _ hc.word (szL_le (szSq_le (szSq_le hb)))) ?_
      | refine Cal.by (szIntS_call c.numbers _ hc.numbers (szL_le (szL_le (szSq_le (szSq_le hb))))) ?_
      | refine Num.len ?_
      | refine Num.i64 (by omega) ?_
      | refine Tst.dec (fun h => ?_) (fun h => ?_)
      | refine Tst.ndec (fun h => ?_) (fun h => ?_)
      | refine Elt.cast (by first | exact True.intro | exact Int.natCast_nonneg _ | omega) (by omega) ?_
      | refine Drw.mk (by kernel_rfl) ?_
      | refine Tst.any (fun h => ?_) (fun h => ?_)
      | refine Ret.bool ?_
      | refine Ret.int ?_
      | refine Ret.str ?_)
  all_goals simp [szCl, thenZ, *]
theorem eqClaim_call (x y : Cl) (hx : ClOk x 1048576) (hy : ClOk y 1048576) : CallV Try.prog 13 [clP x, clP y] [B (decide (x = y))] := by
  refine callV_of pk Try.func13 rfl rfl ?_
  repeat' ((try (conv => whnf)); first
      | refine Cal.bool (eqSequence_call x.first y.first hx.first hy.first) (fun h => ?_) (fun h => ?_)
      | refine Cal.bool (eqSequence_call x.second y.second hx.second hy.second) (fun h => ?_) (fun h => ?_)
      | refine Cal.bool (eqNodeS_call x.formula y.formula hx.formula hy.formula) (fun h => ?_) (fun h => ?_)
      | refine Cal.bool (eqIntS_call x.word y.word hx.word hy.word) (fun h => ?_) (fun h => ?_)
      | refine Cal.bool (eqIntS_call x.numbers y.numbers hx.numbers hy.numbers) (fun h => ?_) (fun h => ?_)
      | refine Num.len ?_
      | refine Num.i64 (by omega) ?_
      | refine Tst.dec (fun h => ?_) (fun h => ?_)
      | refine Tst.ndec (fun h => ?_) (fun h => ?_)
      | refine Elt.cast (by first | exact True.intro | exact Int.natCast_nonneg _ | omega) (by omega) ?_
      | refine Drw.mk (by kernel_rfl) ?_
      | refine Tst.any (fun h => ?_) (fun h => ?_)
      | refine Ret.bool ?_
      | refine Ret.int ?_
      | refine Ret.str ?_)
  all_goals (cases x; cases y; simp_all)
end Go.Vm

/- Equality of claims: the program's, the reference's, the law. -/
set_option linter.unusedVariables false
set_option linter.unusedSimpArgs false
set_option maxRecDepth 4000
namespace Go.Vm
open Go Go.Proofs Go.RowKit
theorem l3Same_call (xs ys : List Int) (hx : xs.length ≤ 1048576) (hy : ys.length ≤ 1048576) : CallV Try.prog 81 [ints xs, ints ys] [B (decide (xs = ys))] := by
  refine callV_of pk Try.func81 rfl rfl ?_
  repeat' ((try (conv => whnf)); first
      | refine Num.len ?_
      | refine Num.i64 (by omega) ?_
      | refine Tst.dec (fun h => ?_) (fun h => ?_)
      | refine Tst.ndec (fun h => ?_) (fun h => ?_)
      | refine Elt.cast (by first | exact True.intro | exact Int.natCast_nonneg _ | omega) (by omega) ?_
      | refine Drw.mk (by kernel_rfl) ?_
      | refine Tst.any (fun h => ?_) (fun h => ?_)
      | refine Ret.bool ?_
      | refine Ret.int ?_
      | refine Ret.str ?_)
  · simp; rintro rfl; omega
  refine Lop.of (ι := Nat) (fun i => i ≤ xs.length ∧ xs.take i = ys.take i) (fun i => (⟨26, [(0, .pv (ints xs)), (1, .pv (ints ys)), (5, .pv (I i))], []⟩ : St)) (fun i => xs.length - i) 0
      ⟨Nat.zero_le _, rfl⟩ (by refine ⟨[], rfl, rfl, ?_, ?_⟩ <;> (repeat' (first | exact trivial | exact .inl rfl | refine And.intro ?_ ?_ | exact rfl | exact .inr ⟨rfl, _, rfl⟩))) fun i hi => ?_
  repeat' ((try (conv => whnf)); first
      | refine Num.len ?_
      | refine Num.i64 (by omega) ?_
      | refine Tst.dec (fun h => ?_) (fun h => ?_)
      | refine Tst.ndec (fun h => ?_) (fun h => ?_)
      | refine Elt.cast (by first | exact True.intro | exact Int.natCast_nonneg _ | omega) (by omega) ?_
      | refine Drw.mk (by kernel_rfl) ?_
      | refine Tst.any (fun h => ?_) (fun h => ?_)
      | refine Ret.bool ?_
      | refine Ret.int ?_
      | refine Ret.str ?_)
  · simp; rintro rfl; omega
  · refine Bck.at (i + 1) (by refine ⟨[], rfl, rfl, ?_, ?_⟩ <;> (repeat' (first | exact trivial | exact .inl rfl | refine And.intro ?_ ?_ | exact rfl | exact .inr ⟨rfl, _, rfl⟩))) ⟨by omega, ?_⟩ (by omega)
    rw [take_next (by omega), take_next (by omega)]; simp_all
  · simp; have := hi.2; rw [List.take_of_length_le (by omega), List.take_of_length_le (by omega)] at this; exact this
theorem equal_call (xs ys : List Int) (hx : xs.length ≤ 1048576) (hy : ys.length ≤ 1048576) : CallV Try.prog 85 [ints xs, ints ys] [B (decide (xs = ys))] := by
  refine callV_of pk Try.func85 rfl rfl ?_
  repeat' ((try (conv => whnf)); first
      | refine Num.len ?_
      | refine Num.i64 (by omega) ?_
      | refine Tst.dec (fun h => ?_) (fun h => ?_)
      | refine Tst.ndec (fun h => ?_) (fun h => ?_)
      | refine Elt.cast (by first | exact True.intro | exact Int.natCast_nonneg _ | omega) (by omega) ?_
      | refine Drw.mk (by kernel_rfl) ?_
      | refine Tst.any (fun h => ?_) (fun h => ?_)
      | refine Ret.bool ?_
      | refine Ret.int ?_
      | refine Ret.str ?_)
  · simp; rintro rfl; omega
  refine Lop.of (ι := Nat) (fun i => i ≤ xs.length ∧ xs.take i = ys.take i) (fun i => (⟨26, [(0, .pv (ints xs)), (1, .pv (ints ys)), (12, .pv (I xs.length)), (13, .pv (I i))], []⟩ : St)) (fun i => xs.length - i) 0
      ⟨Nat.zero_le _, rfl⟩ (by refine ⟨[], rfl, rfl, ?_, ?_⟩ <;> (repeat' (first | exact trivial | exact .inl rfl | refine And.intro ?_ ?_ | exact rfl | exact .inr ⟨rfl, _, rfl⟩))) fun i hi => ?_
  repeat' ((try (conv => whnf)); first
      | refine Num.len ?_
      | refine Num.i64 (by omega) ?_
      | refine Tst.dec (fun h => ?_) (fun h => ?_)
      | refine Tst.ndec (fun h => ?_) (fun h => ?_)
      | refine Elt.cast (by first | exact True.intro | exact Int.natCast_nonneg _ | omega) (by omega) ?_
      | refine Drw.mk (by kernel_rfl) ?_
      | refine Tst.any (fun h => ?_) (fun h => ?_)
      | refine Ret.bool ?_
      | refine Ret.int ?_
      | refine Ret.str ?_)
  · simp; rintro rfl; omega
  · refine Bck.at (i + 1) (by refine ⟨[], rfl, rfl, ?_, ?_⟩ <;> (repeat' (first | exact trivial | exact .inl rfl | refine And.intro ?_ ?_ | exact rfl | exact .inr ⟨rfl, _, rfl⟩))) ⟨by omega, ?_⟩ (by omega)
    rw [take_next (by omega), take_next (by omega)]; simp_all
  · simp; have := hi.2; rw [List.take_of_length_le (by omega), List.take_of_length_le (by omega)] at this; exact this
theorem nd_ext {x y : Nd} : x = y ↔ x.a = y.a ∧ x.b = y.b ∧ x.c = y.c ∧ x.d = y.d := by cases x; cases y; simp
theorem l33Same_call (xs ys : List Nd) (hx : xs.length ≤ 1048576) (hy : ys.length ≤ 1048576) : CallV Try.prog 80 [ndsP xs, ndsP ys] [B (decide (xs = ys))] := by
  refine callV_of pk Try.func80 rfl rfl ?_
  repeat' ((try (conv => whnf)); first
      | refine Num.len ?_
      | refine Num.i64 (by omega) ?_
      | refine Tst.dec (fun h => ?_) (fun h => ?_)
      | refine Tst.ndec (fun h => ?_) (fun h => ?_)
      | refine Elt.cast (by first | exact True.intro | exact Int.natCast_nonneg _ | omega) (by omega) ?_
      | refine Drw.mk (by kernel_rfl) ?_
      | refine Tst.any (fun h => ?_) (fun h => ?_)
      | refine Ret.bool ?_
      | refine Ret.int ?_
      | refine Ret.str ?_)
  · simp; rintro rfl; omega
  refine Lop.of (ι := Nat) (fun i => i ≤ xs.length ∧ xs.take i = ys.take i) (fun i => (⟨26, [(0, .pv (ndsP xs)), (1, .pv (ndsP ys)), (5, .pv (I i))], []⟩ : St)) (fun i => xs.length - i) 0
      ⟨Nat.zero_le _, rfl⟩ (by refine ⟨[], rfl, rfl, ?_, ?_⟩ <;> (repeat' (first | exact trivial | exact .inl rfl | refine And.intro ?_ ?_ | exact rfl | exact .inr ⟨rfl, _, rfl⟩))) fun i hi => ?_
  repeat' ((try (conv => whnf)); first
      | refine Num.len ?_
      | refine Num.i64 (by omega) ?_
      | refine Tst.dec (fun h => ?_) (fun h => ?_)
      | refine Tst.ndec (fun h => ?_) (fun h => ?_)
      | refine Elt.cast (by first | exact True.intro | exact Int.natCast_nonneg _ | omega) (by omega) ?_
      | refine Drw.mk (by kernel_rfl) ?_
      | refine Tst.any (fun h => ?_) (fun h => ?_)
      | refine Ret.bool ?_
      | refine Ret.int ?_
      | refine Ret.str ?_)
  · simp; rintro rfl; simp_all
  · refine Bck.at (i + 1) (by refine ⟨[], rfl, rfl, ?_, ?_⟩ <;> (repeat' (first | exact trivial | exact .inl rfl | refine And.intro ?_ ?_ | exact rfl | exact .inr ⟨rfl, _, rfl⟩))) ⟨by omega, ?_⟩ (by omega)
    rw [take_next (by omega), take_next (by omega)]; simp_all [nd_ext]
  · simp; have := hi.2; rw [List.take_of_length_le (by omega), List.take_of_length_le (by omega)] at this; exact this
theorem equalNd_call (xs ys : List Nd) (hx : xs.length ≤ 1048576) (hy : ys.length ≤ 1048576) : CallV Try.prog 84 [ndsP xs, ndsP ys] [B (decide (xs = ys))] := by
  refine callV_of pk Try.func84 rfl rfl ?_
  repeat' ((try (conv => whnf)); first
      | refine Num.len ?_
      | refine Num.i64 (by omega) ?_
      | refine Tst.dec (fun h => ?_) (fun h => ?_)
      | refine Tst.ndec (fun h => ?_) (fun h => ?_)
      | refine Elt.cast (by first | exact True.intro | exact Int.natCast_nonneg _ | omega) (by omega) ?_
      | refine Drw.mk (by kernel_rfl) ?_
      | refine Tst.any (fun h => ?_) (fun h => ?_)
      | refine Ret.bool ?_
      | refine Ret.int ?_
      | refine Ret.str ?_)
  · simp; rintro rfl; omega
  refine Lop.of (ι := Nat) (fun i => i ≤ xs.length ∧ xs.take i = ys.take i) (fun i => (⟨26, [(0, .pv (ndsP xs)), (1, .pv (ndsP ys)), (12, .pv (I xs.length)), (13, .pv (I i))], []⟩ : St)) (fun i => xs.length - i) 0
      ⟨Nat.zero_le _, rfl⟩ (by refine ⟨[], rfl, rfl, ?_, ?_⟩ <;> (repeat' (first | exact trivial | exact .inl rfl | refine And.intro ?_ ?_ | exact rfl | exact .inr ⟨rfl, _, rfl⟩))) fun i hi => ?_
  repeat' ((try (conv => whnf)); first
      | refine Num.len ?_
      | refine Num.i64 (by omega) ?_
      | refine Tst.dec (fun h => ?_) (fun h => ?_)
      | refine Tst.ndec (fun h => ?_) (fun h => ?_)
      | refine Elt.cast (by first | exact True.intro | exact Int.natCast_nonneg _ | omega) (by omega) ?_
      | refine Drw.mk (by kernel_rfl) ?_
      | refine Tst.any (fun h => ?_) (fun h => ?_)
      | refine Ret.bool ?_
      | refine Ret.int ?_
      | refine Ret.str ?_)
  · simp; rintro rfl; simp_all
  · refine Bck.at (i + 1) (by refine ⟨[], rfl, rfl, ?_, ?_⟩ <;> (repeat' (first | exact trivial | exact .inl rfl | refine And.intro ?_ ?_ | exact rfl | exact .inr ⟨rfl, _, rfl⟩))) ⟨by omega, ?_⟩ (by omega)
    rw [take_next (by omega), take_next (by omega)]; simp_all [nd_ext]
  · simp; have := hi.2; rw [List.take_of_length_le (by omega), List.take_of_length_le (by omega)] at this; exact this
theorem equalFunc_call (xs ys : List (List Int)) (hx : xs.length ≤ 1048576) (hy : ys.length ≤ 1048576) (hx' : small xs 1048576) (hy' : small ys 1048576) : CallV Try.prog 144 [intss xs, intss ys, .fn 85 []] [B (decide (xs = ys))] := by
  refine callV_of pk Try.func144 rfl rfl ?_
  repeat' ((try (conv => whnf)); first
      | refine Num.len ?_
      | refine Num.i64 (by omega) ?_
      | refine Tst.dec (fun h => ?_) (fun h => ?_)
      | refine Tst.ndec (fun h => ?_) (fun h => ?_)
      | refine Elt.cast (by first | exact True.intro | exact Int.natCast_nonneg _ | omega) (by omega) ?_
      | refine Drw.mk (by kernel_rfl) ?_
      | refine Tst.any (fun h => ?_) (fun h => ?_)
      | refine Ret.bool ?_
      | refine Ret.int ?_
      | refine Ret.str ?_)
  · simp; rintro rfl; omega
  refine Lop.of (ι := Nat) (fun i => i ≤ xs.length ∧ xs.take i = ys.take i) (fun i => (⟨32, [(0, .pv (intss xs)), (1, .pv (intss ys)), (2, .pv (.fn 85 [])), (15, .pv (intss xs)), (16, .pv (I xs.length)), (17, .pv (I i))], []⟩ : St)) (fun i => xs.length - i) 0
      ⟨Nat.zero_le _, rfl⟩ (by refine ⟨[], rfl, rfl, ?_, ?_⟩ <;> (repeat' (first | exact trivial | exact .inl rfl | refine And.intro ?_ ?_ | exact rfl | exact .inr ⟨rfl, _, rfl⟩))) fun i hi => ?_
  repeat' ((try (conv => whnf)); first
      | refine Cal.bool (equal_call (at' xs i) (at' ys i) (hx'.2 _ (at_mem (by omega))) (hy'.2 _ (at_mem (by omega)))) (fun h => ?_) (fun h => ?_)
      | refine Num.len ?_
      | refine Num.i64 (by omega) ?_
      | refine Tst.dec (fun h => ?_) (fun h => ?_)
      | refine Tst.ndec (fun h => ?_) (fun h => ?_)
      | refine Elt.cast (by first | exact True.intro | exact Int.natCast_nonneg _ | omega) (by omega) ?_
      | refine Drw.mk (by kernel_rfl) ?_
      | refine Tst.any (fun h => ?_) (fun h => ?_)
      | refine Ret.bool ?_
      | refine Ret.int ?_
      | refine Ret.str ?_)
  · refine Bck.at (i + 1) (by refine ⟨[], rfl, rfl, ?_, ?_⟩ <;> (repeat' (first | exact trivial | exact .inl rfl | refine And.intro ?_ ?_ | exact rfl | exact .inr ⟨rfl, _, rfl⟩))) ⟨by omega, ?_⟩ (by omega)
    rw [take_next (by omega), take_next (by omega)]; simp_all
  · simp; rintro rfl; simp at *
  · simp; have := hi.2; rw [List.take_of_length_le (by omega), List.take_of_length_le (by omega)] at this; exact this
theorem sq_ext {x y : Sq} : x = y ↔ x.base = y.base ∧ x.next = y.next ∧ x.out = y.out := by cases x; cases y; simp
theorem iEqualSequences_call (x y : Sq) (hx : SqOk x 1048576) (hy : SqOk y 1048576) : CallV Try.prog 83 [sqP x, sqP y] [B (decide (x = y))] := by
  refine callV_of pk Try.func83 rfl rfl ?_
  repeat' ((try (conv => whnf)); first
      | refine Cal.bool (equalFunc_call x.next y.next hx.next.1 hy.next.1 hx.next hy.next) (fun h => ?_) (fun h => ?_)
      | refine Cal.bool (equal_call x.out y.out hx.out hy.out) (fun h => ?_) (fun h => ?_)
      | refine Num.len ?_
      | refine Num.i64 (by omega) ?_
      | refine Tst.dec (fun h => ?_) (fun h => ?_)
      | refine Tst.ndec (fun h => ?_) (fun h => ?_)
      | refine Elt.cast (by first | exact True.intro | exact Int.natCast_nonneg _ | omega) (by omega) ?_
      | refine Drw.mk (by kernel_rfl) ?_
      | refine Tst.any (fun h => ?_) (fun h => ?_)
      | refine Ret.bool ?_
      | refine Ret.int ?_
      | refine Ret.str ?_)
  all_goals simp_all [sq_ext]
theorem sEqualSequences_call (x y : Sq) (hx : SqOk x 1048576) (hy : SqOk y 1048576) : CallV Try.prog 39 [sqP x, sqP y] [B (decide (x = y))] := by
  refine callV_of pk Try.func39 rfl rfl ?_
  repeat' ((try (conv => whnf)); first
      | refine Cal.bool (l3Same_call x.out y.out hx.out hy.out) (fun h => ?_) (fun h => ?_)
      | refine Num.len ?_
      | refine Num.i64 (by omega) ?_
      | refine Tst.dec (fun h => ?_) (fun h => ?_)
      | refine Tst.ndec (fun h => ?_) (fun h => ?_)
      | refine Elt.cast (by first | exact True.intro | exact Int.natCast_nonneg _ | omega) (by omega) ?_
      | refine Drw.mk (by kernel_rfl) ?_
      | refine Tst.any (fun h => ?_) (fun h => ?_)
      | refine Ret.bool ?_
      | refine Ret.int ?_
      | refine Ret.str ?_)
  · simp_all [sq_ext]
  · simp_all [sq_ext]; intro _ e; simp_all
  · refine Lop.of (ι := Nat) (fun i => i ≤ x.next.length ∧ x.next.take i = y.next.take i) (fun i => (⟨47, [(2, .bx 3 0), (3, .bx 4 0), (5, .pv (I i))], [(3, some (1, 0, .ptr (sqP x))), (4, some (1, 0, .ptr (sqP y)))]⟩ : St)) (fun i => x.next.length - i) 0
      ⟨Nat.zero_le _, rfl⟩ (by refine ⟨[(3, some 3), (4, some 4)], rfl, rfl, ?_, ?_⟩ <;> (repeat' (first | exact trivial | exact .inl rfl | refine And.intro ?_ ?_ | exact rfl | exact .inr ⟨rfl, _, rfl⟩))) fun i hi => ?_
    have hn := hx.next.1
    repeat' ((try (conv => whnf)); first
        | refine Cal.bool (l3Same_call (at' x.next i) (at' y.next i) (hx.next.2 _ (at_mem (by omega))) (hy.next.2 _ (at_mem (by omega)))) (fun h => ?_) (fun h => ?_)
        | refine Num.len ?_
        | refine Num.i64 (by omega) ?_
        | refine Tst.dec (fun h => ?_) (fun h => ?_)
        | refine Tst.ndec (fun h => ?_) (fun h => ?_)
        | refine Elt.cast (by first | exact True.intro | exact Int.natCast_nonneg _ | omega) (by omega) ?_
        | refine Drw.mk (by kernel_rfl) ?_
        | refine Tst.any (fun h => ?_) (fun h => ?_)
        | refine Ret.bool ?_
        | refine Ret.int ?_
        | refine Ret.str ?_)
    · refine Bck.at (i + 1) (by refine ⟨[(3, some 3), (4, some 4)], rfl, rfl, ?_, ?_⟩ <;> (repeat' (first | exact trivial | exact .inl rfl | refine And.intro ?_ ?_ | exact rfl | exact .inr ⟨rfl, _, rfl⟩))) ⟨by omega, ?_⟩ (by omega)
      rw [take_next (by omega), take_next (by omega)]; simp_all
    · simp_all [sq_ext]; intro e; simp_all
    · have := hi.2; rw [List.take_of_length_le (by omega), List.take_of_length_le (by omega)] at this; simp_all [sq_ext]
  · simp_all [sq_ext]
theorem cl_ext {x y : Cl} : x = y ↔ x.kind = y.kind ∧ x.first = y.first ∧ x.second = y.second ∧ x.formula = y.formula ∧ x.word = y.word ∧ x.number = y.number ∧ x.numbers = y.numbers := by cases x; cases y; simp
theorem iEqualClaims_call (x y : Cl) (hx : ClOk x 1048576) (hy : ClOk y 1048576) : CallV Try.prog 12 [clP x, clP y] [B (decide (x = y))] := by
  refine callV_of pk Try.func12 rfl rfl ?_
  repeat' ((try (conv => whnf)); first
      | refine Cal.bool (iEqualSequences_call x.first y.first hx.first hy.first) (fun h => ?_) (fun h => ?_)
      | refine Cal.bool (iEqualSequences_call x.second y.second hx.second hy.second) (fun h => ?_) (fun h => ?_)
      | refine Cal.bool (equalNd_call x.formula y.formula hx.formula hy.formula) (fun h => ?_) (fun h => ?_)
      | refine Cal.bool (equal_call x.word y.word hx.word hy.word) (fun h => ?_) (fun h => ?_)
      | refine Cal.bool (equal_call x.numbers y.numbers hx.numbers hy.numbers) (fun h => ?_) (fun h => ?_)
      | refine Num.len ?_
      | refine Num.i64 (by omega) ?_
      | refine Tst.dec (fun h => ?_) (fun h => ?_)
      | refine Tst.ndec (fun h => ?_) (fun h => ?_)
      | refine Elt.cast (by first | exact True.intro | exact Int.natCast_nonneg _ | omega) (by omega) ?_
      | refine Drw.mk (by kernel_rfl) ?_
      | refine Tst.any (fun h => ?_) (fun h => ?_)
      | refine Ret.bool ?_
      | refine Ret.int ?_
      | refine Ret.str ?_)
  all_goals simp_all [cl_ext]
theorem sEqualClaims_call (x y : Cl) (hx : ClOk x 1048576) (hy : ClOk y 1048576) : CallV Try.prog 10 [clP x, clP y] [B (decide (x = y))] := by
  refine callV_of pk Try.func10 rfl rfl ?_
  repeat' ((try (conv => whnf)); first
      | refine Cal.bool (sEqualSequences_call x.first y.first hx.first hy.first) (fun h => ?_) (fun h => ?_)
      | refine Cal.bool (sEqualSequences_call x.second y.second hx.second hy.second) (fun h => ?_) (fun h => ?_)
      | refine Cal.bool (l33Same_call x.formula y.formula hx.formula hy.formula) (fun h => ?_) (fun h => ?_)
      | refine Cal.bool (l3Same_call x.word y.word hx.word hy.word) (fun h => ?_) (fun h => ?_)
      | refine Cal.bool (l3Same_call x.numbers y.numbers hx.numbers hy.numbers) (fun h => ?_) (fun h => ?_)
      | refine Num.len ?_
      | refine Num.i64 (by omega) ?_
      | refine Tst.dec (fun h => ?_) (fun h => ?_)
      | refine Tst.ndec (fun h => ?_) (fun h => ?_)
      | refine Elt.cast (by first | exact True.intro | exact Int.natCast_nonneg _ | omega) (by omega) ?_
      | refine Drw.mk (by kernel_rfl) ?_
      | refine Tst.any (fun h => ?_) (fun h => ?_)
      | refine Ret.bool ?_
      | refine Ret.int ?_
      | refine Ret.str ?_)
  all_goals simp_all [cl_ext]
theorem thenZ_pos {z : Int} {k : Int → Int} (h : ¬ thenZ z k < 0) : ¬ z < 0 ∧ ¬ k z < 0 := by
  unfold thenZ at h; split at h
  · omega
  · exact ⟨by assumption, h⟩
theorem szL_ok {n : Nat} {left : Int} (h : ¬ szL n left < 0) (hb : -1 ≤ left ∧ left ≤ 1048576) : n ≤ 1048576 := by
  unfold szL at h; split at h <;> omega
theorem szLs_ok : ∀ {ls : List (List Int)} {left : Int}, ¬ szLs ls left < 0 → -1 ≤ left ∧ left ≤ 1048576 → ∀ l ∈ ls, l.length ≤ 1048576
  | [], _, _, _, l, hl => by cases hl
  | k :: ls, left, h, hb, l, hl => by
    simp only [szLs] at h
    split at h
    · omega
    · rename_i h1
      rcases List.mem_cons.1 hl with rfl | hl
      · exact szL_ok h1 hb
      · exact szLs_ok h (szL_le hb) l hl
theorem szSS_ok {ls : List (List Int)} {left : Int} (h : ¬ szSS ls left < 0) (hb : -1 ≤ left ∧ left ≤ 1048576) : small ls 1048576 := by
  unfold szSS at h
  split at h
  · omega
  · exact ⟨by omega, szLs_ok h (by omega)⟩
theorem szSq_ok {s : Sq} {left : Int} (h : ¬ szSq s left < 0) (hb : -1 ≤ left ∧ left ≤ 1048576) : SqOk s 1048576 := by
  have h1 := thenZ_pos h
  have h2 := thenZ_pos h1.2
  exact ⟨szSS_ok h1.1 hb, szL_ok h2.1 (szSS_le hb)⟩
theorem szCl_ok {c : Cl} {left : Int} (h : ¬ szCl c left < 0) (hb : -1 ≤ left ∧ left ≤ 1048576) : ClOk c 1048576 := by
  have h1 := thenZ_pos h
  have h2 := thenZ_pos h1.2
  have h3 := thenZ_pos h2.2
  have h4 := thenZ_pos h3.2
  have h5 := thenZ_pos h4.2
  have b1 := szSq_le (s := c.first) hb
  have b2 := szSq_le (s := c.second) b1
  have b3 := szL_le (n := c.formula.length) b2
  have b4 := szL_le (n := c.word.length) b3
  exact ⟨szSq_ok h1.1 hb, szSq_ok h2.1 b1, szL_ok h3.1 b2, szL_ok h4.1 b3, szL_ok h5.1 b4⟩
end Go.Vm

/- Equality of claims: the law. -/
set_option linter.unusedVariables false
set_option linter.unusedSimpArgs false
set_option maxRecDepth 4000
namespace Go.Vm
open Go Go.Proofs Go.RowKit
theorem law_call (x y : Cl) (hx : ClOk x 9223372036854775807) (hy : ClOk y 9223372036854775807) : CallV Try.prog 3 [clP x, clP y] [B true] := by
  refine callV_of pk Try.func3 rfl rfl ?_
  have h0 : (-1 : Int) ≤ 1048576 ∧ (1048576 : Int) ≤ 1048576 := by omega
  repeat' ((try (conv => whnf)); first
      | refine Cal.by (szClaim_call x _ hx h0) ?_
      | refine Num.len ?_
      | refine Num.i64 (by omega) ?_
      | refine Tst.dec (fun h => ?_) (fun h => ?_)
      | refine Tst.ndec (fun h => ?_) (fun h => ?_)
      | refine Elt.cast (by first | exact True.intro | exact Int.natCast_nonneg _ | omega) (by omega) ?_
      | refine Drw.mk (by kernel_rfl) ?_
      | refine Tst.any (fun h => ?_) (fun h => ?_)
      | refine Ret.bool ?_
      | refine Ret.int ?_
      | refine Ret.str ?_)
  · rfl
  have b1 := szCl_le (c := x) h0
  have hx' := szCl_ok h h0
  repeat' ((try (conv => whnf)); first
      | refine Cal.by (szClaim_call y _ hy b1) ?_
      | refine Num.len ?_
      | refine Num.i64 (by omega) ?_
      | refine Tst.dec (fun h => ?_) (fun h => ?_)
      | refine Tst.ndec (fun h => ?_) (fun h => ?_)
      | refine Elt.cast (by first | exact True.intro | exact Int.natCast_nonneg _ | omega) (by omega) ?_
      | refine Drw.mk (by kernel_rfl) ?_
      | refine Tst.any (fun h => ?_) (fun h => ?_)
      | refine Ret.bool ?_
      | refine Ret.int ?_
      | refine Ret.str ?_)
  · rfl
  have hy' := szCl_ok h b1
  have e1 : CallV Try.prog 13 [clP x, clP x] [B true] := by have := eqClaim_call x x hx' hx'; rwa [decide_eq_true rfl] at this
  have e2 : CallV Try.prog 13 [clP y, clP y] [B true] := by have := eqClaim_call y y hy' hy'; rwa [decide_eq_true rfl] at this
  repeat' ((try (conv => whnf)); first
      | refine Cal.by (toClaim_call x hx') ?_
      | refine Cal.by (toClaim_call y hy') ?_
      | refine Cal.by (sEqualClaims_call x y hx' hy') ?_
      | refine Cal.by (iEqualClaims_call x y hx' hy') ?_
      | refine Cal.by (e1) ?_
      | refine Cal.by (e2) ?_
      | refine Num.len ?_
      | refine Num.i64 (by omega) ?_
      | refine Tst.dec (fun h => ?_) (fun h => ?_)
      | refine Tst.ndec (fun h => ?_) (fun h => ?_)
      | refine Elt.cast (by first | exact True.intro | exact Int.natCast_nonneg _ | omega) (by omega) ?_
      | refine Drw.mk (by kernel_rfl) ?_
      | refine Tst.any (fun h => ?_) (fun h => ?_)
      | refine Ret.bool ?_
      | refine Ret.int ?_
      | refine Ret.str ?_)
  · simp at h
  · rfl
end Go.Vm
