/- The operations do what the symbolic step says. -/
import Derived.Test.YtmgbpmpjinfpdaaDoorVmLogicA
import Derived.Laws.StructEq
import Derived.KernelRfl
import Derived.IntWalk
import Derived.Below
import Derived.Laws.Strings
import Derived.Lib.AppendIntMem
import Derived.Lib.Join
import Derived.ChangeArms
import Derived.WalkKit
import Derived.ProofKit
import Derived.OpenShut
import Derived.ShutString
import Derived.ChangeOld
import Derived.SizedLaws
import Derived.HandedShaped
set_option linter.unusedVariables false
set_option linter.unusedSimpArgs false
namespace Go.Vm
open Go Go.RowKit

section
variable {P : Program} {T : Tab} {c : Ctx P} {s : St} {a : Act} {w : World} {col : Col} {lk : Lk}

theorem optV_ok {o : Option V} {out : Out} {e : Eff} (h : optV o = some out) (hv : out.ok e) : ∃ v, o = some v ∧ e = ⟨v, []⟩ := by
  cases o with
  | none => cases h
  | some u => simp only [optV, Option.some.injEq] at h; subst h; obtain ⟨_, rfl⟩ := hv; exact ⟨u, rfl, rfl⟩
theorem valE_ok {v : V} {out : Out} {e : Eff} (h : valE v = some out) (hv : out.ok e) : e = ⟨v, []⟩ := by
  simp only [valE, Option.some.injEq] at h; subst h; exact hv.2
theorem pickS_ok {b : Bool} {x y : Option V} {out : Out} {e : Eff} (h : pickS b x y = some out) (hv : out.ok e) {ux uy : Value} (hx : ∀ v, x = some v → VRep w col lk s.roots v ux) (hy : ∀ v, y = some v → VRep w col lk s.roots v uy) :
    ∃ v, e = ⟨v, []⟩ ∧ VRep w col lk s.roots v (if b = true then ux else uy) := by
  unfold pickS at h
  split at h
  · rename_i p q
    have := valE_ok h hv
    refine ⟨_, this, ?_⟩
    rw [VRep.word (hx _ rfl), VRep.word (hy _ rfl)]
    cases b <;> exact VRep.of_word rfl
  · cases b with
    | true => simp only at h; obtain ⟨v, h1, h2⟩ := optV_ok h hv; exact ⟨v, h2, by simpa using hx v h1⟩
    | false => simp only at h; obtain ⟨v, h1, h2⟩ := optV_ok h hv; exact ⟨v, h2, by simpa using hy v h1⟩
theorem lenS_ok {x : V} {n : Int} {t : Nat} {o : Oper} {X : Operand} (ho : o.op = .call { callee := .builtin .len, args := #[X], argTypes := #[t] }) (hT : TabOk P T) (hr : Rel c s a w col lk) (hx : VRep w col lk s.roots x (a.eval X))
    (h : lenS s (T t).td x = some n) : Gives P a w o fun y => y = .int .i64 n := by
  have htd := (hT t).td
  have k1 : ∀ e A m cp, P.underlying t = some (.slice e) → a.eval X = .slice A m cp → (m : Int) = n → Gives P a w o fun y => y = .int .i64 n := by
    rintro e A m cp he hv rfl
    exact ⟨_, by simp [execOp, ho, resolve, invoke, builtin, Builtin.len_, hv, run_underlying he, goInt], rfl⟩
  unfold lenS at h
  split at h
  · rename_i e k xs ht
    rw [ht] at htd
    simp only [Option.some.injEq] at h
    simp only [VRep, Rep] at hx
    obtain ⟨cs, ⟨v, d, rfl, _, _, hsl⟩, hy⟩ := hx
    obtain ⟨A, cap, rfl, _⟩ := hsl
    exact k1 e A _ cap htd hy h
  · rename_i e ht
    rw [ht] at htd
    simp only [Option.some.injEq] at h
    simp only [VRep, Rep] at hx
    obtain ⟨cs, rfl, hy⟩ := hx
    exact k1 e none 0 0 htd hy (by simpa using h)
  · rename_i e A m cp ht
    rw [ht] at htd
    simp only [Option.some.injEq] at h
    exact k1 e A m cp htd (VRep.word hx) h
  · rename_i b ht
    rw [ht] at htd
    simp only [Option.some.injEq] at h
    have hy := VRep.word hx
    subst h
    exact ⟨_, by simp [execOp, ho, resolve, invoke, builtin, Builtin.len_, hy, run_underlying (show P.underlying t = some .string from htd), goInt], rfl⟩
  · rename_i e c' ht
    rw [ht] at htd
    split at h
    · rename_i n0 e0 k xs hl
      simp only [Option.some.injEq] at h
      obtain ⟨_, h2, _⟩ := hx.row_rt hr hl
      simp only [Rep] at h2
      obtain ⟨u, d, hu, _, _, hsl⟩ := h2
      obtain rfl : a.eval X = u := by simpa using hu
      obtain ⟨A, cp, hv, _⟩ := hsl.bare
      exact k1 e A _ cp htd hv h
    · cases h
  · cases h
theorem idx_ro {t ee k : Nat} {xs : List PV} {n : Int} {kk : IntKind} {o : Oper} {X I : Operand} {p : PV} (ho : o.op = .indexAddr t X I) (hT : TabOk P T) (hr : Rel c s a w col lk) (hx : Rep w col lk0 0 0 [] (.sl k xs) [a.eval X]) (hi' : a.eval I = .int kk n)
    (ht : (T t).td = .slice ee) (hk : (T ee).cells = k) (hk0 : k ≠ 0) (hot : (T ee).td.isOther = false) (h0 : 0 ≤ n) (hp : xs[n.toNat]? = some p) : Does P c s a w o ⟨.pv (.ptr p), []⟩ := by
  have htd := (hT t).td
  rw [ht] at htd
  obtain ⟨ie, hie, hsz, _⟩ := (hT ee).info hot
  simp only [Rep] at hx
  obtain ⟨v, d, hy, hall, hrl, hsl⟩ := hx
  obtain rfl : a.eval X = v := by simpa using hy
  obtain ⟨A, cap, hy, hcap, hd⟩ := hsl
  have hlt : n.toNat < xs.length := (List.getElem?_eq_some_iff.1 hp).1
  obtain ⟨u, cc, z, rfl, hul, hrc⟩ := RepL.get xs n.toNat p hrl hp
  rw [szs_take hall (by omega)] at hul
  have hcl := Rep.len _ hrc
  rw [hall p (List.mem_of_getElem? hp)] at hcl
  have hcne : cc ≠ [] := by rintro rfl; simp at hcl; omega
  obtain ⟨b, f, rfl, hcol, hcells⟩ := hd (by intro e; simp [hcne] at e)
  have hmid := hcells.mid
  rw [hul] at hmid
  have hlt' : n < (xs.length : Int) := by omega
  refine Gives.does hr ⟨.pointer (some ⟨b, f + n.toNat * k, none⟩), ?_, ?_⟩
  · have hadd : (⟨b, f, none⟩ : Addr).add (n.toNat * k) = ⟨b, f + n.toNat * k, none⟩ := Addr.add_mid b f _
    simp [execOp, ho, hy, hi', Instr.indexAt, asIntOf, run_underlying (show P.underlying t = some (.slice ee) from htd), h0, hlt', sizeOf, typeInfo, hie, hsz, hk, hadd]
  · simp only [VRep, Rep]
    exact ⟨_, ⟨b, _, cc, rfl, hcne, Rep.move p hrc, hcol, hmid⟩, rfl⟩
theorem idxP_ok {t : Nat} {o : Oper} {X I : Operand} {x i : V} {ou : Out} {e : Eff} (ho : o.op = .indexAddr t X I) (hT : TabOk P T) (hr : Rel c s a w col lk) (hx : VRep w col lk s.roots x (a.eval X)) (hi : VRep w col lk s.roots i (a.eval I))
    (h : idxP T s t x i = some ou) (hv : ou.ok e) : Does P c s a w o e := by
  unfold idxP at h
  split at h
  · rename_i kk n
    have hi' := VRep.word hi
    split at h
    · rename_i ee ht
      have htd := (hT t).td
      rw [ht] at htd
      split at h
      · rename_i k xs
        split at h
        · rename_i hb
          simp only [Option.some.injEq] at h
          subst h
          obtain ⟨h0, p, hp, he⟩ := hv
          simp only [Option.some.injEq] at he
          subst he
          simp only [Bool.and_eq_true, Bool.not_eq_true', beqT, decide_eq_true_eq, decide_eq_false_iff_not] at hb
          simp only [VRep] at hx
          obtain ⟨cs, h1, h2⟩ := hx
          have h3 := h1
          simp only [Rep] at h3
          obtain ⟨v, d, rfl, _⟩ := h3
          simp only [toVal] at h2
          exact idx_ro ho hT hr (by rw [h2]; exact h1) hi' ht hb.1.1 hb.1.2 hb.2 h0 hp
        · cases h
      · rename_i r
        split at h
        · rename_i e0 k xs hl
          split at h
          · rename_i hb
            simp only [Option.some.injEq] at h
            subst h
            obtain ⟨h0, p, hp, he⟩ := hv
            simp only [Option.some.injEq] at he
            subst he
            simp only [Bool.and_eq_true, Bool.not_eq_true', beqT, decide_eq_true_eq, decide_eq_false_iff_not] at hb
            obtain ⟨hlk, h2, _⟩ := hx.row_rt hr hl
            exact idx_ro ho hT hr (Rep.move _ (Rep.unlk _ rfl h2)) hi' ht hb.1.1 hb.1.2 hb.2 h0 hp
          · cases h
        · rename_i n0 e0 k xs hl
          split at h
          · rename_i hb
            simp only [Option.some.injEq] at h
            subst h
            obtain ⟨⟨h0, hlt⟩, rfl⟩ := hv
            simp only [Bool.and_eq_true, Bool.not_eq_true', beqT, decide_eq_true_eq, decide_eq_false_iff_not] at hb
            obtain ⟨⟨hk, hk0⟩, hot⟩ := hb
            obtain ⟨ie, hie, hsz, _⟩ := (hT ee).info hot
            obtain ⟨hlk, h2, _⟩ := hx.row_rt hr hl
            simp only [Rep] at h2
            obtain ⟨u, d, hu, _, _, hsl⟩ := h2
            obtain rfl : a.eval X = u := by simpa using hu
            obtain ⟨⟨e2, hown⟩, _⟩ := hsl
            rcases hown.2 with ⟨_, h5⟩ | ⟨b, cap, cur, hv, _⟩
            · omega
            have hlt' : n < (xs.length : Int) := by omega
            refine Gives.does hr ⟨.pointer (some ⟨b, n.toNat * k + 0, none⟩), ?_, ?_⟩
            · have hadd : (⟨b, 0, none⟩ : Addr).add (n.toNat * k) = ⟨b, 0 + n.toNat * k, none⟩ := Addr.add_mid b 0 _
              simp [execOp, ho, hv, hi', Instr.indexAt, asIntOf, run_underlying (show P.underlying t = some (.slice ee) from htd), h0, hlt', sizeOf, typeInfo, hie, hsz, hk, hadd]
            · simp only [VRep, onRow, hl]
              exact ⟨b, _, cap, by rw [hlk, hv], rfl⟩
          · cases h
        · cases h
      · cases h
    · cases h
  · cases h
theorem VRepL.get {rs : List (Nat × Root)} : ∀ {vs : List V} {ys : List Value} {i : Nat} {v : V}, VRepL w col lk rs vs ys → vs[i]? = some v → ∃ y, ys[i]? = some y ∧ VRep w col lk rs v y
  | [], _, _, _, _, h => by simp at h
  | u :: vs, _, 0, v, h, hi => by
    simp only [VRepL] at h
    obtain ⟨y, zs, rfl, h1, h2⟩ := h
    obtain rfl : u = v := by simpa using hi
    exact ⟨y, rfl, h1⟩
  | u :: vs, _, i + 1, v, h, hi => by
    simp only [VRepL] at h
    obtain ⟨y, zs, rfl, h1, h2⟩ := h
    obtain ⟨y', h3, h4⟩ := VRepL.get h2 (by simpa using hi)
    exact ⟨y', by simpa using h3, h4⟩
/-- A field's place. -/
theorem offT_ok : ∀ {ts : List Nat} {fs : List Field} {f off o : Nat}, fieldsOk T off ts fs → offT T f ts off = some o → ∃ fd t, fs[f]? = some fd ∧ fd.offset = o ∧ fd.type = t ∧ ts[f]? = some t ∧ (T t).cells ≠ 0 ∧ (T t).td.isOther = false
  | [], _, _, _, _, _, h => by simp [offT] at h
  | t :: ts, [], _, _, _, hf, _ => by simp [fieldsOk] at hf
  | t :: ts, fd :: fs, 0, off, o, hf, h => by
    simp only [fieldsOk] at hf
    simp only [offT] at h
    split at h
    · rename_i hb
      simp only [Bool.and_eq_true, Bool.not_eq_true', beqT, decide_eq_false_iff_not] at hb
      simp only [Option.some.injEq] at h
      exact ⟨fd, t, rfl, hf.2.1.trans h, hf.1, rfl, hb.1, hb.2⟩
    · cases h
  | t :: ts, fd :: fs, f + 1, off, o, hf, h => by
    simp only [fieldsOk] at hf
    simp only [offT] at h
    obtain ⟨fd', t', h1, h2⟩ := offT_ok hf.2.2 h
    exact ⟨fd', t', by simpa using h1, h2.1, h2.2.1, by simpa using h2.2.2.1, h2.2.2.2⟩
theorem fieldP_ok {t f : Nat} {o : Oper} {X : Operand} {x : V} {ou : Out} {e : Eff} (ho : o.op = .fieldAddr t X f) (hT : TabOk P T) (hr : Rel c s a w col lk) (hx : VRep w col lk s.roots x (a.eval X)) (h : fieldP T s.roots t f x = some ou) (hv : ou.ok e) : Does P c s a w o e := by
  have fin : ∀ ts off b f0, (T t).td = .struct ts → offT T f ts 0 = some off → a.eval X = .pointer (some ⟨b, f0, none⟩) → (execOp a.eval o).run P w = .ok (.value (.pointer (some ⟨b, f0 + off, none⟩))) w := by
    intro ts off b f0 ht ho2 hX
    have htd := (hT t).td
    rw [ht] at htd
    obtain ⟨F, hF, hfs⟩ := htd
    obtain ⟨fd, t', h1, h2, h3, _, h4, h5⟩ := offT_ok hfs ho2
    obtain ⟨i, hi, hsz, _⟩ := (hT t').info h5
    have hF2 : F[f]? = some fd := by simpa using h1
    have hne : ¬ i.size = 0 := by rw [hsz]; exact h4
    simp [execOp, ho, hX, Instr.fieldAt, run_underlying hF, hF2, Instr.sureAddr, fieldPlace, sizeOf, typeInfo, h3, hi, hne, h2, Addr.add_mid]
  unfold fieldP at h
  split at h
  · rename_i ps
    split at h
    · rename_i ts p ht hp
      split at h
      · rename_i off hoff
        split at h
        · rename_i hb
          simp only [Bool.and_eq_true, Bool.not_eq_true', beqT, decide_eq_true_eq, decide_eq_false_iff_not] at hb
          obtain rfl := valE_ok h hv
          simp only [VRep, Rep] at hx
          obtain ⟨cs, ⟨b, f0, d, rfl, hd, hrep, hpt⟩, hy⟩ := hx
          obtain ⟨x1, y1, z1, rfl, hx1, hrp⟩ := RepL.get ps f p hrep hp
          refine Gives.does hr ⟨_, fin ts off b f0 ht hoff hy, ?_⟩
          have hne : y1 ≠ [] := by rintro rfl; have := Rep.len _ hrp; simp at this; omega
          simp only [VRep, Rep]
          refine ⟨_, ⟨b, f0 + off, y1, rfl, hne, Rep.move p hrp, hpt.1, ?_⟩, rfl⟩
          have := hpt.2.mid
          rw [hx1, ← hb.1] at this
          exact this
        · cases h
      · cases h
    · cases h
  · rename_i r i o2
    split at h
    · rename_i ts n0 e0 k xs ht hl
      split at h
      · rename_i off hoff
        obtain rfl := valE_ok h hv
        simp only [VRep, onRow, hl] at hx
        obtain ⟨b, m, cap, hlk, hX⟩ := hx
        refine Gives.does hr ⟨_, fin ts off b _ ht hoff hX, ?_⟩
        simp only [VRep, onRow, hl]
        exact ⟨b, m, cap, hlk, by rw [Nat.add_assoc]⟩
      · cases h
    · cases h
  · rename_i r o2
    split at h
    · rename_i ts n0 e0 p ht hl
      split at h
      · rename_i off hoff
        obtain rfl := valE_ok h hv
        simp only [VRep, onBx, hl] at hx
        obtain ⟨b, hlk, hX⟩ := hx
        refine Gives.does hr ⟨_, fin ts off b _ ht hoff hX, ?_⟩
        simp only [VRep, onBx, hl]
        exact ⟨b, hlk, rfl⟩
      · cases h
    · cases h
  · cases h
theorem part_run {t off : Nat} {p : PV} {x y z : List Value} {r n : Nat} {pos : List Nat} (hT : TabOk P T) (hrep : Rep w col lk r n pos p y) (hf : fits T t p = true) (hx : x.length = off) : (part t (x ++ y ++ z).toArray off).run P w = .ok (toVal p y) w := by
  have htd := (hT t).td
  have hti := (hT t).info
  have hlen := Rep.len _ hrep
  unfold fits at hf
  split at hf
  · rename_i ps
    simp only [Bool.and_eq_true, Bool.not_eq_true', beqT, decide_eq_true_eq, decide_eq_false_iff_not] at hf
    obtain ⟨⟨ha, hcl⟩, hz⟩ := hf
    obtain ⟨i, hi1, hi2, _⟩ := hti (by cases hq : (T t).td <;> simp_all [TD.isAgg, TD.isOther])
    have hagg : (isAgg t).run P w = .ok true w := by
      cases hq : (T t).td <;> simp_all [TD.isAgg, tdOk]
      · obtain ⟨F, hF, _⟩ := htd
        simp [isAgg, run_underlying hF]
      · simp [isAgg, run_underlying htd]
    have hl : y.length = i.size := by rw [hlen, hi2, hcl]; rfl
    simp [part, hagg, sizeOf, typeInfo, hi1, toVal]
    rw [← hx, List.drop_left, ← hl, List.take_left]
  · rename_i hna
    simp only [Bool.and_eq_true, Bool.not_eq_true'] at hf
    obtain ⟨⟨ha, hot⟩, _⟩ := hf
    have hagg : (isAgg t).run P w = .ok false w := by
      cases hq : (T t).td <;> simp_all [TD.isAgg, TD.isOther, tdOk] <;> (try (simp [isAgg, run_underlying htd]; done))
      obtain ⟨dd, hu, h1, h2⟩ := htd
      cases dd <;> simp_all [isAgg, run_underlying hu]
    have hs1 : sz p = 1 := by cases p <;> simp_all [sz]
    obtain ⟨u, rfl⟩ : ∃ u, y = [u] := by
      match y, hlen.trans hs1 with
      | [u], _ => exact ⟨u, rfl⟩
    have : toVal p [u] = u := by cases p <;> simp_all [toVal]
    rw [this]
    simp [part, hagg, ← hx]
theorem callP_sound {o : Oper} {cl : Call} {ou : Out} {e : Eff} (ho : o.op = .call cl) (hT : TabOk P T) (hr : Rel c s a w col lk) (h : callP T s o cl.callee cl.args.toList cl.argTypes.toList = some ou) (hv : ou.ok e) :
    Does P c s a w o e := by
  obtain ⟨callee, args, ats⟩ := cl
  obtain ⟨args⟩ := args
  obtain ⟨ats⟩ := ats
  simp only at h
  unfold callP at h
  split at h
  · rename_i x t
    split at h
    · rename_i u hx
      split at h
      · rename_i n hl
        simp only [Option.some.injEq] at h
        subst h
        obtain ⟨_, ⟨_, z, rfl, rfl⟩, rfl⟩ := hv
        obtain ⟨y, h1, rfl⟩ := lenS_ok ho hT hr (ev_rep hr hx) hl
        exact Gives.does hr ⟨_, h1, VRep.of_word rfl⟩
      · cases h
    · cases h
  · rename_i x y l
    split at h
    · rename_i k m k' n hx hy
      simp only [Option.some.injEq] at h
      subst h
      obtain ⟨_, ⟨_, z, rfl, rfl⟩, rfl⟩ := hv
      exact Gives.does hr ⟨_, by simp [execOp, ho, resolve, invoke, builtin, Builtin.min_, Builtin.min2, VRep.word (ev_rep hr hx), VRep.word (ev_rep hr hy)], VRep.of_word rfl⟩
    · cases h
  · rename_i x y l
    split at h
    · rename_i k m k' n hx hy
      simp only [Option.some.injEq] at h
      subst h
      obtain ⟨_, ⟨_, z, rfl, rfl⟩, rfl⟩ := hv
      exact Gives.does hr ⟨_, by simp [execOp, ho, resolve, invoke, builtin, Builtin.max_, Builtin.max2, VRep.word (ev_rep hr hx), VRep.word (ev_rep hr hy)], VRep.of_word rfl⟩
    · cases h
  · rename_i x y t t'
    split at h
    · rename_i u v hx hy hb
      obtain rfl := Nat.eq_of_beq_eq_true hb
      exact append_sound hT hr ho hx hy h hv
    · cases h
  · cases h
theorem intT_ok {t : Nat} (hT : TabOk P T) (h : intT T t = true) : (∃ k, P.underlying t = some (.int k)) ∧ ∀ v, fits T t (.w v) = true := by
  have htd := (hT t).td
  unfold intT at h
  split at h
  · rename_i k hk
    rw [hk] at htd
    exact ⟨⟨k, htd⟩, fun v => by simp only [beqT, decide_eq_true_eq] at h; simp [fits, hk, TD.isAgg, TD.isOther, h]⟩
  · cases h
theorem eqFields_run {d : Nat} (hT : TabOk P T) : ∀ {ts : List Nat} {fs : List Field} {off : Nat} {ps qs : List PV} {b : Bool} {x1 x2 xs ys : List Value} {lk1 lk2 : Lk} {r n r' n' : Nat} {pos pos' : List Nat} {i i' : Nat},
    fieldsOk T off ts fs → (∀ f ∈ fs, (f.name == "_") = false) → eqTs T ts ps qs = some b → RepL w col lk1 r n pos i ps xs → RepL w col lk2 r' n' pos' i' qs ys → x1.length = off → x2.length = off →
    (Op.eqFields (d + 1) (x1 ++ xs).toArray (x2 ++ ys).toArray fs).run P w = .ok b w
  | [], [], off, [], [], b, _, _, _, _, _, _, _, _, _, _, _, _, _, _, _, _, h, _, _, _, _ => by simp only [eqTs, Option.some.injEq] at h; subst h; simp [Op.eqFields]
  | t :: ts, f :: fs, off, .w (.int k x) :: ps, .w (.int k2 y) :: qs, b, x1, x2, xs, ys, lk1, lk2, r, n, r', n', pos, pos', i, i', hf, hn, h, hp, hq, h1, h2 => by
    simp only [eqTs] at h
    split at h
    · rename_i b' hi hb
      simp only [Option.some.injEq] at h
      subst h
      simp only [Bool.and_eq_true, decide_eq_true_eq] at hi
      obtain ⟨hi, rfl⟩ := hi
      simp only [fieldsOk] at hf
      obtain ⟨hft, hfo, hf⟩ := hf
      obtain ⟨⟨kt, hu⟩, hfit⟩ := intT_ok hT hi
      have hcl : (T t).cells = 1 := by have := (fits_sz (hfit (.int k x))).1; simpa [sz] using this.symm
      simp only [RepL] at hp hq
      obtain ⟨c1, d1, rfl, hp1, hp2⟩ := hp
      obtain ⟨c2, d2, rfl, hq1, hq2⟩ := hq
      have e1 := part_run (P := P) (w := w) (x := x1) (z := d1) hT hp1 (hfit _) h1
      have e2 := part_run (P := P) (w := w) (x := x2) (z := d2) hT hq1 (hfit _) h2
      simp only [Rep] at hp1 hq1
      obtain ⟨rfl, _⟩ := hp1
      obtain ⟨rfl, _⟩ := hq1
      have ih := eqFields_run (d := d) hT (x1 := x1 ++ [.int k x]) (x2 := x2 ++ [.int k y]) hf (fun g hg => hn g (by simp [hg])) hb hp2 hq2 (by simp [h1, hcl]) (by simp [h2, hcl])
      have hne : f.name ≠ "_" := ne_of_beq_false (hn f (by simp))
      subst hft
      simp only [List.append_assoc, List.singleton_append] at e1 e2 ih ⊢
      have hk : (Op.equalIn (d + 1) f.type (.int k x) (.int k y)).run P w = .ok (x == y) w := by
        simp [Op.equalIn, run_underlying hu]
      simp only [Op.eqFields, hne, ne_eq, not_false_eq_true, if_true, hfo, Sem.run_bind, e1, e2, Result.andThen_ok, toVal, hk]
      by_cases hxy : x = y
      · subst hxy; simp [ih]
      · simp [hxy]
    · cases h
  | [], _ :: _, _, _, _, _, _, _, _, _, _, _, _, _, _, _, _, _, _, _, hf, _, _, _, _, _, _ => by simp [fieldsOk] at hf
  | _ :: _, [], _, _, _, _, _, _, _, _, _, _, _, _, _, _, _, _, _, _, hf, _, _, _, _, _, _ => by simp [fieldsOk] at hf
  | [], [], _, _ :: _, _, _, _, _, _, _, _, _, _, _, _, _, _, _, _, _, _, _, h, _, _, _, _ => by simp [eqTs] at h
  | [], [], _, [], _ :: _, _, _, _, _, _, _, _, _, _, _, _, _, _, _, _, _, _, h, _, _, _, _ => by simp [eqTs] at h
  | _ :: _, _ :: _, _, [], _, _, _, _, _, _, _, _, _, _, _, _, _, _, _, _, _, _, h, _, _, _, _ => by simp [eqTs] at h
theorem eqTs_all {ts : List Nat} {ps qs : List PV} {b : Bool} (h : eqTs T ts ps qs = some b) : allInt T ts = true := by
  fun_induction eqTs T ts ps qs generalizing b with
  | case1 => rfl
  | case2 => simp_all [allInt]
  | case3 => simp at h
  | case4 => simp at h
theorem eq_struct {t : Nat} {ts : List Nat} {op : BinOp} {X Y : Operand} {ps qs : List PV} {b : Bool} {cs ds : List Value} (hT : TabOk P T) (ht : (T t).td = .struct ts) (h : eqTs T ts ps qs = some b)
    (h1 : Rep w col lk0 0 0 [] (.agg ps) cs) (h2 : Rep w col lk0 0 0 [] (.agg qs) ds) : (eqGuard op t X Y (.agg cs.toArray) (.agg ds.toArray)).run P w = .ok () w ∧ (binOp .eql t (.agg cs.toArray) (.agg ds.toArray)).run P w = .ok (.bool b) w ∧ (binOp .neq t (.agg cs.toArray) (.agg ds.toArray)).run P w = .ok (.bool !b) w := by
  obtain ⟨e1, e2, e3⟩ := (hT t).eqi ts ht (eqTs_all h)
  have htd := (hT t).td
  rw [ht] at htd
  obtain ⟨F, hF, hfs⟩ := htd
  have hFo : P.fieldsOf t = F := by simp [Program.fieldsOf, hF]
  simp only [Rep] at h1 h2
  have := eqFields_run (P := P) (w := w) (d := 9998) hT (x1 := []) (x2 := []) hfs (e3 F hF) h h1 h2 rfl rfl
  have hrun : (Op.equalIn 10000 t (.agg cs.toArray) (.agg ds.toArray)).run P w = .ok b w := by
    rw [run_equalIn_struct w 9999 t _ _ (by rw [hFo]; exact hF) e1, hFo]
    simpa using this
  exact ⟨run_eqGuard_agg w op t X Y _ _ e2, by rw [run_eql_struct w t, hrun]; rfl, by rw [run_neq_struct w t, hrun]; rfl⟩
theorem eq_bool {t : Nat} {p q : Bool} (h : P.underlying t = some .bool) : (Op.equal t (.bool p) (.bool q)).run P w = .ok (p == q) w := by
  have : ∀ d, (Op.equalIn (d + 1) t (.bool p) (.bool q)).run P w = .ok (p == q) w := fun d => by simp [Op.equalIn, run_underlying h]
  exact this 9999
theorem stepP_sound {o : Oper} {ou : Out} {e : Eff} (hT : TabOk P T) (hr : Rel c s a w col lk) (h : stepP T s o = some ou) (hv : ou.ok e) : Does P c s a w o e := by
  unfold stepP at h
  split at h
  · rename_i x ho
    obtain ⟨v, h1, rfl⟩ := optV_ok h hv
    exact Gives.does hr ⟨_, by simp [execOp, ho], ev_rep hr h1⟩
  · rename_i x ho
    obtain ⟨v, h1, rfl⟩ := optV_ok h hv
    exact Gives.does hr ⟨_, by simp [execOp, ho], ev_rep hr h1⟩
  · rename_i cc x y ho
    split at h
    · rename_i b hb
      have hb' := VRep.word (ev_rep hr hb)
      obtain ⟨v, rfl, h1⟩ := pickS_ok h hv (fun v hx => ev_rep hr hx) (fun v hy => ev_rep hr hy)
      exact Gives.does hr ⟨_, by simp [execOp, ho, hb', asBool], h1⟩
    · cases h
  · rename_i op t x y yt ho
    split at h
    · rename_i p q hx hy
      have hx' := VRep.word (ev_rep hr hx)
      have hy' := VRep.word (ev_rep hr hy)
      have hgu : ∀ op, op = .eql ∨ op = .neq → (eqGuard op t x y (.bool p) (.bool q)).run P w = .ok () w := by
        intro op h; rcases h with rfl | rfl <;> simp [eqGuard]
      split at h
      · rename_i ht
        have htd := (hT t).td
        rw [ht] at htd
        simp only [Option.some.injEq] at h
        subst h
        obtain ⟨u, rfl, rfl⟩ := hv
        exact Gives.does hr ⟨_, by simp [execOp, ho, hx', hy', hgu, binOp, eq_bool (show P.underlying t = some .bool from htd)], VRep.of_word rfl⟩
      · rename_i ht
        have htd := (hT t).td
        rw [ht] at htd
        simp only [Option.some.injEq] at h
        subst h
        obtain ⟨u, rfl, rfl⟩ := hv
        exact Gives.does hr ⟨_, by simp [execOp, ho, hx', hy', hgu, binOp, eq_bool (show P.underlying t = some .bool from htd)], VRep.of_word rfl⟩
      · cases h
    · rename_i q hx hy
      have hX := ev_rep hr hx
      have hY : a.eval y = .slice none 0 0 := by
        have := ev_rep hr hy
        simp only [VRep, Rep] at this
        obtain ⟨cs, rfl, h1⟩ := this
        exact h1
      have key : ∀ bb, nilS q = some bb → ∃ A m cp, a.eval x = .slice A m cp ∧ bb = A.isNone := by
        intro bb hn
        unfold nilS at hn
        split at hn
        · simp only [Option.some.injEq] at hn
          subst hn
          simp only [VRep, Rep] at hX
          obtain ⟨cs, rfl, h1⟩ := hX
          exact ⟨none, 0, 0, h1, rfl⟩
        · rename_i k p ps
          split at hn
          · cases hn
          · rename_i hz
            simp only [Option.some.injEq] at hn
            subst hn
            simp only [VRep, Rep] at hX
            obtain ⟨cs, ⟨v, d, rfl, h2, h3, A, cap, rfl, _, h4⟩, h1⟩ := hX
            have hd : d ≠ [] := by
              rintro rfl
              simp only [RepL] at h3
              obtain ⟨c1, d1, h5, h6, _⟩ := h3
              have := Rep.len _ h6
              have h7 : c1 = [] := by simp at h5; exact h5.1
              rw [h7] at this
              simp only [beqT, decide_eq_false_iff_not] at hz
              simp at this
              omega
            obtain ⟨b, o, rfl, _⟩ := h4 hd
            exact ⟨_, _, _, h1, rfl⟩
        · rename_i A m cp
          simp only [Option.some.injEq] at hn
          subst hn
          exact ⟨A, m, cp, VRep.word hX, rfl⟩
        · cases hn
      have run : ∀ e A m cp, P.underlying t = some (.slice e) → (Op.equal t (.slice A m cp) (.slice none 0 0)).run P w = .ok A.isNone w := by
        intro e A m cp he
        have : ∀ d, (Op.equalIn (d + 1) t (.slice A m cp) (.slice none 0 0)).run P w = .ok A.isNone w := fun d => by cases A <;> simp [Op.equalIn, run_underlying he]
        exact this 9999
      have hgu : ∀ op A m cp, op = .eql ∨ op = .neq → (eqGuard op t x y (.slice A m cp) (.slice none 0 0)).run P w = .ok () w := by
        intro op A m cp h; rcases h with rfl | rfl <;> simp [eqGuard]
      split at h
      · rename_i e bb ht hn
        have htd := (hT t).td
        rw [ht] at htd
        obtain ⟨A, m, cp, hX, rfl⟩ := key bb hn
        simp only [Option.some.injEq] at h
        subst h
        obtain ⟨u, ⟨_, rfl⟩, rfl⟩ := hv
        exact Gives.does hr ⟨_, by simp [execOp, ho, hX, hY, hgu, binOp, run e A m cp htd], VRep.of_word rfl⟩
      · rename_i e bb ht hn
        have htd := (hT t).td
        rw [ht] at htd
        obtain ⟨A, m, cp, hX, rfl⟩ := key bb hn
        simp only [Option.some.injEq] at h
        subst h
        obtain ⟨u, ⟨_, rfl⟩, rfl⟩ := hv
        exact Gives.does hr ⟨_, by simp [execOp, ho, hX, hY, hgu, binOp, run e A m cp htd], VRep.of_word rfl⟩
      · cases h
    · rename_i ps qs hx hy
      have hX := ev_rep hr hx
      have hY := ev_rep hr hy
      simp only [VRep] at hX hY
      obtain ⟨cs, hrx, hX⟩ := hX
      obtain ⟨ds, hry, hY⟩ := hY
      simp only [toVal] at hX hY
      split at h
      · rename_i ts ht
        split at h
        · rename_i b hb
          simp only [Option.some.injEq] at h
          subst h
          obtain ⟨u, rfl, rfl⟩ := hv
          obtain ⟨g1, g2, g3⟩ := eq_struct (P := P) (w := w) (op := .eql) (X := x) (Y := y) hT ht hb hrx hry
          exact Gives.does hr ⟨_, by simp [execOp, ho, hX, hY, g1, g2], VRep.of_word rfl⟩
        · cases h
      · rename_i ts ht
        split at h
        · rename_i b hb
          simp only [Option.some.injEq] at h
          subst h
          obtain ⟨u, rfl, rfl⟩ := hv
          obtain ⟨g1, g2, g3⟩ := eq_struct (P := P) (w := w) (op := .neq) (X := x) (Y := y) hT ht hb hrx hry
          exact Gives.does hr ⟨_, by simp [execOp, ho, hX, hY, g1, g3], VRep.of_word rfl⟩
        · cases h
      · cases h
    · rename_i ux uy hne hx hy
      have hx' := VRep.word (ev_rep hr hx)
      have hy' := VRep.word (ev_rep hr hy)
      split at h
      · rename_i r hb
        simp only [Option.some.injEq] at h
        subst h
        obtain ⟨u, hu, rfl⟩ := hv
        obtain ⟨h1, h2⟩ := binV_run (P := P) (w := w) hb hu t x y
        refine Gives.does hr ⟨u, ?_, VRep.of_word h2⟩
        simp only [execOp, ho, hx', hy']
        simp only [Sem.run_bind] at h1 ⊢
        cases hg : (eqGuard op t x y ux uy).run P w <;> simp_all
      · cases h
    · cases h
  · rename_i t x ho
    split at h
    · rename_i b hb
      have hb' := VRep.word (ev_rep hr hb)
      obtain rfl := valE_ok h hv
      exact Gives.does hr ⟨.bool !b, by simp [execOp, ho, hb', Op.unary], VRep.of_word rfl⟩
    · cases h
  · rename_i t x ho
    split at h
    · rename_i k n hb
      have hb' := VRep.word (ev_rep hr hb)
      simp only [Option.some.injEq] at h
      subst h
      obtain ⟨_, ⟨_, z, rfl, rfl⟩, rfl⟩ := hv
      exact Gives.does hr ⟨_, by simp [execOp, ho, hb', Op.unary, Op.intArith], VRep.of_word rfl⟩
    · cases h
  · rename_i src dst x ho
    split at h
    · rename_i k k' n hd hx
      have hx' := VRep.word (ev_rep hr hx)
      split at h
      · rename_i k'' hs
        simp only [Option.some.injEq] at h
        subst h
        obtain ⟨_, ⟨_, z, rfl, rfl⟩, rfl⟩ := hv
        have h1 := (hT dst).td
        have h2 := (hT src).td
        rw [hd] at h1
        rw [hs] at h2
        exact Gives.does hr ⟨_, by simp [execOp, ho, hx', convert, run_underlying (show P.underlying dst = _ from h1), run_underlying (show P.underlying src = _ from h2), Conv.intToInt], VRep.of_word rfl⟩
      · cases h
    · rename_i v hd hx
      exact convB_sound hT hr ho hd hx h hv
    · cases h
  · rename_i t x i ho
    split at h
    · rename_i ux ui hx hi
      exact idxP_ok ho hT hr (ev_rep hr hx) (ev_rep hr hi) h hv
    · cases h
  · rename_i x ho
    split at h
    · rename_i p hx
      obtain rfl := valE_ok h hv
      have := ev_rep hr hx
      refine Gives.does hr ⟨_, ?_, this⟩
      simp only [VRep, Rep] at this
      obtain ⟨cs, ⟨b, f, d, rfl, _⟩, hy⟩ := this
      simp [execOp, ho, hy, toVal]
    · rename_i r off hx
      split at h
      · rename_i n0 e0 p hl
        obtain rfl := valE_ok h hv
        have := ev_rep hr hx
        refine Gives.does hr ⟨_, ?_, this⟩
        obtain ⟨b, _, hy, _⟩ := this.bx_rt hr hl
        simp [execOp, ho, hy]
      · cases h
    · cases h
  · rename_i t x ho
    split at h
    · rename_i v hx
      exact load_sound hT hr ho hx h hv
    · cases h
  · rename_i t x y ho
    split at h
    · rename_i u v hx hy hd
      exact store_sound hT hr ho hx hy h hv
    · cases h
  · rename_i t x f ho
    split at h
    · rename_i v hx
      exact fieldP_ok ho hT hr (ev_rep hr hx) h hv
    · cases h
  · rename_i t x f ho
    split at h
    · rename_i ps ts hx ht
      split at h
      · rename_i off p hoff hp
        split at h
        · rename_i hb
          simp only [Bool.and_eq_true, beqT, decide_eq_true_eq] at hb
          obtain rfl := valE_ok h hv
          have hX := ev_rep hr hx
          simp only [VRep, Rep] at hX
          obtain ⟨cs, hrep, hXe⟩ := hX
          have htd := (hT t).td
          rw [ht] at htd
          obtain ⟨F, hF, hfs⟩ := htd
          obtain ⟨fd, t', h1, h2, h3, h4, h5, h6⟩ := offT_ok hfs hoff
          have hF2 : F[f]? = some fd := by simpa using h1
          have ht' : ts.getD f 0 = t' := by simp [List.getD_eq_getElem?_getD, h4]
          rw [ht'] at hb
          obtain ⟨x1, y1, z1, rfl, hx1, hrp⟩ := RepL.get ps f p hrep hp
          have := part_run (P := P) (w := w) (x := x1) (z := z1) hT hrp hb.2 (by rw [hx1, ← hb.1, ← h2])
          refine Gives.does hr ⟨_, ?_, by simp only [VRep]; exact ⟨y1, Rep.move p hrp, rfl⟩⟩
          simp only [toVal] at hXe
          simp only [List.append_assoc] at this
          simp [execOp, ho, hXe, Instr.field, run_underlying hF, hF2, h3, asAgg, this]
        · cases h
      · cases h
    · cases h
  · rename_i x i ho
    split at h
    · rename_i vs hx
      have := ev_rep hr hx
      simp only [VRep] at this
      obtain ⟨ys, h1, h2⟩ := this
      obtain ⟨v, h5, rfl⟩ := optV_ok h hv
      obtain ⟨y, h3, h4⟩ := VRepL.get h1 h5
      exact Gives.does hr ⟨y, by simp [execOp, ho, h2, Instr.extract, h3], h4⟩
    · cases h
  · rename_i t x i ho
    split at h
    · rename_i b k n hx hi
      split at h
      · rename_i ht
        have hx' := VRep.word (ev_rep hr hx)
        have hi' := VRep.word (ev_rep hr hi)
        simp only [Option.some.injEq] at h
        subst h
        obtain ⟨⟨h0, h1⟩, rfl⟩ := hv
        have htd := (hT t).td
        rw [ht] at htd
        have hlt : n.toNat < b.size := by omega
        have hg : b[n.toNat]? = some (b.data.getD n.toNat 0) := by
          rw [getElem?_pos b n.toNat hlt]
          rw [Array.getD_eq_getD_getElem?, getElem?_pos b.data n.toNat hlt]
          rfl
        refine Gives.does hr ⟨_, ?_, VRep.of_word rfl⟩
        simp [execOp, ho, hx', hi', Instr.index, asIntOf, run_underlying (show P.underlying t = _ from htd), h0, hg]
      · cases h
    · cases h
  · rename_i t ho
    split at h
    · rename_i p hz
      exact alloc_sound hT hr ho hz h hv
    · cases h
  · rename_i t x ho
    split at h
    · rename_i v hx
      split at h
      · rename_i q cs hl
        split at h
        · exact box_sound hr ho hx hl h hv
        · cases h
      · cases h
    · cases h
  · rename_i t x y ho
    split at h
    · rename_i k1 l k2 m hx hy
      split at h
      · rename_i ee ht
        split at h
        · rename_i z hz
          split at h
          · rename_i hb
            simp only [Bool.and_eq_true, Bool.not_eq_true', beqT, decide_eq_true_eq, decide_eq_false_iff_not] at hb
            exact make_sound hT hr ho hx hy ht hz hb.1.1 hb.1.2 h hv
          · cases h
        · cases h
      · cases h
    · cases h
  · rename_i t len parts ho
    split at h
    · rename_i vs ee hb hvs ht
      simp only [Bool.and_eq_true, beqT, decide_eq_true_eq] at hb
      split at h
      · rename_i ps cs hps
        split at h
        · rename_i z hb2 hz
          simp only [Bool.and_eq_true, Bool.not_eq_true', beqT, decide_eq_true_eq, decide_eq_false_iff_not] at hb2
          exact buildSlice_sound hT hr ho hb.1 hb.2 hvs ht hps hb2.1.1.1 hb2.1.1.2 (Nat.le_of_ble_eq_true hb2.1.2) hb2.2 hz h hv
        · cases h
      · cases h
    · cases h
  · rename_i t parts ho
    split at h
    · rename_i vs ts hord hvs ht
      split at h
      · rename_i z hsz hz
        split at h
        · rename_i ps hb hps
          obtain rfl := valE_ok h hv
          obtain ⟨y, h1, h2, h3⟩ := build_sound hT hr ho hord hvs ht hsz hz (Nat.eq_of_beq_eq_true hb)
          exact Gives.does hr ⟨y, h1, h3 _ hps⟩
        · rename_i hb hps
          obtain rfl := valE_ok h hv
          obtain ⟨y, h1, h2, h3⟩ := build_sound hT hr ho hord hvs ht hsz hz (Nat.eq_of_beq_eq_true hb)
          exact Gives.does hr ⟨y, h1, h2⟩
        · cases h
      · cases h
    · cases h
  · rename_i f first caps ho
    split at h
    · rename_i vs hf hvs
      obtain rfl := valE_ok h hv
      have h1 := evs_rep hr hvs
      refine Gives.does hr ⟨.func (.func f) #[] (caps.toList.map a.eval).toArray, ?_, ?_⟩
      · have : first = #[] := by simpa using hf
        have e1 : caps.map a.eval = (caps.toList.map a.eval).toArray := Array.toList_inj.1 (by simp)
        simp [execOp, ho, Instr.makeFunc, this, e1]
      · simp only [VRep]
        exact ⟨_, h1, rfl⟩
    · cases h
  · rename_i cl ho
    exact callP_sound ho hT hr h hv
  · rename_i t x low high ho
    split at h
    · rename_i v hx
      exact slice_sound hT hr ho hx h hv
    · cases h
  · cases h
end
end Go.Vm

/- What is known of less is known of more. -/
set_option linter.unusedVariables false
set_option linter.unusedSimpArgs false
namespace Go.Vm
open Go Go.RowKit

def RsLe (rs rs' : List (Nat × Root)) : Prop := ∀ r x, lookup rs r = some x → lookup rs' r = some x
structure St.LeO (o : Oper) (s s' : St) : Prop where
  le : s.Le s'
  new : ∀ j ∈ newIds o, lookup s.roots j = none → lookup s'.roots j = none
section
variable {T : Tab} {s s' : St} {o : Oper} {rs rs' : List (Nat × Root)}
theorem ev_mono (hs : s.Le s') {x : Operand} {v : V} (h : ev s x = some v) : ev s' x = some v := by
  cases x with
  | tmp t => exact hs.tm t v h
  | _ => exact h
theorem evs_mono (hs : s.Le s') : ∀ {xs : List Operand} {vs : List V}, evs s xs = some vs → evs s' xs = some vs
  | [], _, h => h
  | x :: xs, vs, h => by
    simp only [evs] at h ⊢
    split at h
    · rename_i v vs' h1 h2
      rw [ev_mono hs h1, evs_mono hs h2]; exact h
    · cases h
mutual
theorem pvOf_mono (hr : RsLe rs rs') : ∀ (v : V) {p : PV} {cs : List Nat}, pvOf rs v = some (p, cs) → pvOf rs' v = some (p, cs)
  | .pv p, _, _, h => by simpa only [pvOf] using h
  | .any, _, _, h => by simp [pvOf] at h
  | .row c, _, _, h => by
    simp only [pvOf] at h ⊢
    split at h
    · rename_i hl; rw [hr _ _ hl]; exact h
    · cases h
  | .win .., _, _, h => by simp [pvOf] at h
  | .el .., _, _, h => by simp [pvOf] at h
  | .bx c 0, _, _, h => by
    simp only [pvOf] at h ⊢
    split at h
    · rename_i hl; rw [hr _ _ hl]; exact h
    · cases h
  | .bx c (n + 1), _, _, h => by simp [pvOf] at h
  | .agg vs, _, _, h => by
    simp only [pvOf] at h ⊢
    split at h
    · rename_i ps cs h1; rw [pvsOf_mono hr vs h1]; exact h
    · cases h
  | .fn f vs, _, _, h => by
    simp only [pvOf] at h ⊢
    split at h
    · rename_i ps cs h1; rw [pvsOf_mono hr vs h1]; exact h
    · cases h
  | .tup vs, _, _, h => by simp [pvOf] at h
theorem pvsOf_mono (hr : RsLe rs rs') : ∀ (vs : List V) {ps : List PV} {cs : List Nat}, pvsOf rs vs = some (ps, cs) → pvsOf rs' vs = some (ps, cs)
  | [], _, _, h => by simpa only [pvsOf] using h
  | v :: vs, _, _, h => by
    simp only [pvsOf] at h ⊢
    split at h
    · rename_i p cs h1
      rw [pvOf_mono hr v h1]
      split at h
      · rename_i ps ds h2
        rw [pvsOf_mono hr vs h2]; exact h
      · cases h
    · cases h
end
def Living (rs : List (Nat × Root)) (cs : List Nat) : Prop := ∀ c ∈ cs, ∃ x, lookup rs c = some (some x)
mutual
theorem pvOf_living : ∀ (v : V) {p : PV} {cs : List Nat}, pvOf rs v = some (p, cs) → Living rs cs
  | .pv p, _, _, h => by simp only [pvOf, Option.some.injEq, Prod.mk.injEq] at h; obtain ⟨_, rfl⟩ := h; intro c hc; cases hc
  | .any, _, _, h => by simp [pvOf] at h
  | .row c, _, _, h => by
    simp only [pvOf] at h
    split at h
    · rename_i hl
      simp only [Option.some.injEq, Prod.mk.injEq] at h; obtain ⟨_, rfl⟩ := h
      intro c' hc; obtain rfl : c' = c := by simpa using hc
      exact ⟨_, hl⟩
    · cases h
  | .win .., _, _, h => by simp [pvOf] at h
  | .el .., _, _, h => by simp [pvOf] at h
  | .bx c 0, _, _, h => by
    simp only [pvOf] at h
    split at h
    · rename_i hl
      split at h
      · simp only [Option.some.injEq, Prod.mk.injEq] at h; obtain ⟨_, rfl⟩ := h
        intro c' hc; obtain rfl : c' = c := by simpa using hc
        exact ⟨_, hl⟩
      · cases h
    · cases h
  | .bx c (n + 1), _, _, h => by simp [pvOf] at h
  | .agg vs, _, _, h => by
    simp only [pvOf] at h
    split at h
    · rename_i ps cs h1
      simp only [Option.some.injEq, Prod.mk.injEq] at h; obtain ⟨_, rfl⟩ := h
      exact pvsOf_living vs h1
    · cases h
  | .fn f vs, _, _, h => by
    simp only [pvOf] at h
    split at h
    · rename_i ps cs h1
      split at h
      · simp only [Option.some.injEq, Prod.mk.injEq] at h; obtain ⟨_, rfl⟩ := h
        exact pvsOf_living vs h1
      · cases h
    · cases h
  | .tup vs, _, _, h => by simp [pvOf] at h
theorem pvsOf_living : ∀ (vs : List V) {ps : List PV} {cs : List Nat}, pvsOf rs vs = some (ps, cs) → Living rs cs
  | [], _, _, h => by simp only [pvsOf, Option.some.injEq, Prod.mk.injEq] at h; obtain ⟨_, rfl⟩ := h; intro c hc; cases hc
  | v :: vs, _, _, h => by
    simp only [pvsOf] at h
    split at h
    · rename_i p cs h1
      split at h
      · rename_i ps ds h2
        simp only [Option.some.injEq, Prod.mk.injEq] at h; obtain ⟨_, rfl⟩ := h
        intro c hc
        rcases List.mem_append.1 hc with hc | hc
        · exact pvOf_living v h1 c hc
        · exact pvsOf_living vs h2 c hc
      · cases h
    · cases h
end
theorem frz_mono (hr : RsLe rs rs') : ∀ {cs : List Nat}, Living rs cs → frz rs' cs = frz rs cs
  | [], _ => rfl
  | c :: cs, h => by
    obtain ⟨⟨n, e, p⟩, hx⟩ := h c (by simp)
    have := frz_mono hr (cs := cs) fun c hc => h c (by simp [hc])
    simp only [frz, hx, hr _ _ hx, this]
theorem free_mono (hs : s.LeO o s') (h : free s o = true) : free s' o = true := by
  have := free_ok h
  unfold free
  rw [hs.new _ (by simp [newIds]) this.1]
  cases hn : newId o with
  | zero => exact absurd hn this.2.1
  | succ n =>
    have h2 := this.2.2
    rw [hn] at h2
    exact Nat.ble_eq_true_of_le h2
theorem newRow_mono (hs : s.LeO o s') {ob : Prop} {cs : List Nat} {e k : Nat} {xs : List PV} {out : Out} (hc : Living s.roots cs) (h : newRow s o ob cs e k xs = some out) : newRow s' o ob cs e k xs = some out := by
  unfold newRow at h ⊢
  split at h
  · rename_i hf; rw [free_mono hs hf, frz_mono hs.le.rt hc]; exact h
  · cases h
theorem newBox_mono (hs : s.LeO o s') {cs : List Nat} {p : PV} {out : Out} (hc : Living s.roots cs) (h : newBox s o cs p = some out) : newBox s' o cs p = some out := by
  unfold newBox at h ⊢
  split at h
  · rename_i hf
    simp only [Bool.and_eq_true] at hf
    rw [free_mono hs hf.1, hf.2, frz_mono hs.le.rt hc]; exact h
  · cases h
theorem idxP_mono (hs : s.Le s') {t : Nat} {x i : V} {out : Out} (h : idxP T s t x i = some out) : idxP T s' t x i = some out := by
  unfold idxP at h ⊢
  split at h
  · split at h
    · split at h
      · exact h
      · split at h
        · rename_i hl; simp only [hs.rt _ _ hl]; exact h
        · rename_i hl; simp only [hs.rt _ _ hl]; exact h
        · cases h
      · cases h
    · cases h
  · cases h
theorem fieldP_mono (hr : RsLe rs rs') {t f : Nat} {x : V} {out : Out} (h : fieldP T rs t f x = some out) : fieldP T rs' t f x = some out := by
  unfold fieldP at h ⊢
  split at h
  · exact h
  · split at h
    · rename_i ht hl; simp only [ht, hr _ _ hl]; exact h
    · cases h
  · split at h
    · rename_i ht hl; simp only [ht, hr _ _ hl]; exact h
    · cases h
  · cases h
theorem unlink_mono (hr : RsLe rs rs') {p : PV} {v : V} (h : unlink rs p = some v) : unlink rs' p = some v := by
  unfold unlink at h ⊢
  split at h
  · split at h
    · rename_i hl; simp only [hr _ _ hl]; exact h
    · rename_i hl; simp only [hr _ _ hl]; exact h
    · cases h
  · exact h
theorem loadS_mono (hs : s.Le s') {t : Nat} {x : V} {out : Out} (h : loadS T s t x = some out) : loadS T s' t x = some out := by
  unfold loadS at h ⊢
  split at h
  · exact h
  · split at h
    · rename_i hl; simp only [hs.rt _ _ hl]; exact h
    · cases h
  · split at h
    · rename_i hl
      simp only [hs.rt _ _ hl]
      split at h
      · rename_i q hn hq
        try simp only [hn, hq]
        cases hu : unlink s.roots q with
        | none => rw [hu] at h; cases h
        | some v => rw [unlink_mono hs.rt hu]; rw [hu] at h; exact h
      · cases h
    · cases h
  · cases h
theorem linked_mono (hr : RsLe rs rs') {v : V} {q : PV} {cs : List Nat} (h : linked rs v = some (q, cs)) : linked rs' v = some (q, cs) := by
  unfold linked at h ⊢
  split at h
  · split at h
    · rename_i hl; simp only [hr _ _ hl]; exact h
    · cases h
  · split at h
    · rename_i hl; simp only [hr _ _ hl]; exact h
    · cases h
  · exact pvOf_mono hr _ h
theorem linked_living {v : V} {q : PV} {cs : List Nat} (h : linked rs v = some (q, cs)) : Living rs cs := by
  unfold linked at h
  split at h
  · split at h
    · simp only [Option.some.injEq, Prod.mk.injEq] at h; obtain ⟨_, rfl⟩ := h; intro c hc; cases hc
    · cases h
  · split at h
    · simp only [Option.some.injEq, Prod.mk.injEq] at h; obtain ⟨_, rfl⟩ := h; intro c hc; cases hc
    · cases h
  · exact pvOf_living _ h
theorem storeS_mono (hs : s.Le s') {t : Nat} {x y : V} {out : Out} (h : storeS T s t x y = some out) : storeS T s' t x y = some out := by
  unfold storeS at h ⊢
  split at h
  · split at h
    · rename_i hq hl
      simp only [pvOf_mono hs.rt _ hq, hs.rt _ _ hl, frz_mono hs.rt (pvOf_living _ hq)]; exact h
    · cases h
  · split at h
    · rename_i hq hl
      simp only [linked_mono hs.rt hq, hs.rt _ _ hl, frz_mono hs.rt (linked_living hq)]; exact h
    · cases h
  · cases h
theorem elemsOf_mono (hr : RsLe rs rs') {v : V} {r : Nat × List PV} (h : elemsOf rs v = some r) : elemsOf rs' v = some r := by
  unfold elemsOf at h ⊢
  split at h
  · exact h
  · exact h
  · split at h
    · rename_i hl; simp only [hr _ _ hl]; exact h
    · cases h
  · cases h
theorem nil_living : Living rs [] := fun c hc => by cases hc
theorem appendS_mono (hs : s.LeO o s') {t : Nat} {x y : V} {out : Out} (h : appendS T s o t x y = some out) : appendS T s' o t x y = some out := by
  unfold appendS at h ⊢
  split at h
  · rename_i ht hy
    simp only [ht, elemsOf_mono hs.le.rt hy]
    split at h
    · rename_i z hz
      split at h
      · rename_i hb
        try simp only [hb]
        exact newRow_mono hs nil_living h
      · rename_i hb
        try simp only [hb]
        split at h
        · rename_i hl
          simp only [hs.le.rt _ _ hl]
          split at h
          · rename_i hb2
            simp only [Bool.and_eq_true] at hb2
            rw [hb2.1.1, hb2.1.2, free_mono hs hb2.2]; exact h
          · cases h
        · cases h
      · cases h
    · cases h
  · cases h
theorem lenS_mono (hs : s.Le s') {td : TD} {v : V} {n : Int} (h : lenS s td v = some n) : lenS s' td v = some n := by
  unfold lenS at h ⊢
  split at h
  · exact h
  · exact h
  · exact h
  · exact h
  · split at h
    · rename_i hl; simp only [hs.rt _ _ hl]; exact h
    · cases h
  · cases h
theorem callP_mono (hs : s.LeO o s') {cl : Callee} {xs : List Operand} {ts : List Nat} {out : Out} (h : callP T s o cl xs ts = some out) : callP T s' o cl xs ts = some out := by
  unfold callP at h ⊢
  split at h
  · split at h
    · rename_i v hv
      simp only [ev_mono hs.le hv]
      split at h
      · rename_i n hn
        simp only [lenS_mono hs.le hn]; exact h
      · cases h
    · cases h
  · split at h
    · rename_i hu hv
      simp only [ev_mono hs.le hu, ev_mono hs.le hv]; exact h
    · cases h
  · split at h
    · rename_i hu hv
      simp only [ev_mono hs.le hu, ev_mono hs.le hv]; exact h
    · cases h
  · split at h
    · rename_i u v hu hv hb
      simp only [ev_mono hs.le hu, ev_mono hs.le hv, hb]
      exact appendS_mono hs h
    · cases h
  · cases h
theorem bnd_mono (hs : s.Le s') {d n : Int} {x : Option Operand} (h : bnd s d x = some n) : bnd s' d x = some n := by
  unfold bnd at h ⊢
  split at h
  · exact h
  · split at h
    · rename_i hv; simp only [ev_mono hs hv]; exact h
    · cases h
theorem sliceS_mono (hs : s.LeO o s') {t : Nat} {x : V} {low high : Option Operand} {out : Out} (h : sliceS T s o t x low high = some out) : sliceS T s' o t x low high = some out := by
  unfold sliceS at h ⊢
  split at h
  · split at h
    · rename_i hl hh; simp only [bnd_mono hs.le hl, bnd_mono hs.le hh]; exact h
    · cases h
  · split at h
    · rename_i hl hh hb; simp only [bnd_mono hs.le hl, bnd_mono hs.le hh, hb]; exact h
    · cases h
  · split at h
    · rename_i d e' k xs hlk
      simp only [hs.le.rt _ _ hlk]
      split at h
      · rename_i hl hh hb
        simp only [bnd_mono hs.le hl, bnd_mono hs.le hh, hb]
        have hliv : Living s.roots [_] := fun c hc => by
          obtain rfl : c = _ := by simpa using hc
          exact ⟨_, hlk⟩
        rw [frz_mono hs.le.rt hliv]
        cases low with
        | some lo => exact h
        | none =>
          cases hd : Nat.beq d 1 with
          | false => rw [hd] at h; exact h
          | true =>
            rw [hd] at h
            simp only at h ⊢
            split at h
            · cases h
            · rename_i hf
              rw [free_mono hs hf]
              exact h
      · cases h
    · cases h
  · cases h
theorem convB_mono (hs : s.Le s') {t : Nat} {x : V} {out : Out} (h : convB T s t x = some out) : convB T s' t x = some out := by
  unfold convB at h ⊢
  split at h
  · exact h
  · split at h
    · rename_i hk hel
      simp only [elemsOf_mono hs.rt hel, hk]; exact h
    · cases h
  · cases h
theorem optV_mono {x y : Option V} {out : Out} (hxy : ∀ v, x = some v → y = some v) (h : optV x = some out) : optV y = some out := by
  cases x with
  | none => cases h
  | some v => rw [hxy v rfl]; exact h
theorem pickS_mono {b : Bool} {x y x' y' : Option V} {out : Out} (hx : ∀ v, x = some v → x' = some v) (hy : ∀ v, y = some v → y' = some v) (h : pickS b x y = some out) : pickS b x' y' = some out := by
  have lit : ∀ (u v : Option V) (out : Out), pickS b u v = some out → (∃ p q, u = some (.pv (.w (.bool p))) ∧ v = some (.pv (.w (.bool q)))) ∨ (b = true ∧ optV u = some out) ∨ (b = false ∧ optV v = some out) := by
    intro u v out h
    unfold pickS at h
    split at h
    · exact .inl ⟨_, _, rfl, rfl⟩
    · cases b
      · exact .inr (.inr ⟨rfl, h⟩)
      · exact .inr (.inl ⟨rfl, h⟩)
  rcases lit x y out h with ⟨p, q, rfl, rfl⟩ | ⟨rfl, h1⟩ | ⟨rfl, h1⟩
  · rw [hx _ rfl, hy _ rfl]; exact h
  · have h2 := optV_mono hx h1
    unfold pickS
    split
    · rename_i p q
      simp only [optV, valE] at h2 ⊢
      simpa using h2
    · exact h2
  · have h2 := optV_mono hy h1
    unfold pickS
    split
    · rename_i p q
      simp only [optV, valE] at h2 ⊢
      simpa using h2
    · exact h2
theorem sizesT_mono (hr : RsLe rs rs') : ∀ {ts : List Nat} {vs : List V}, sizesT T rs ts vs = true → sizesT T rs' ts vs = true
  | [], [], _ => rfl
  | t :: ts, v :: vs, h => by
    have hh := sizesT_hd h
    unfold sizesT at h ⊢
    split at h
    · rename_i heq; cases heq
    · rename_i t' ts' p vs' h1 h2
      obtain ⟨rfl, rfl⟩ : t = t' ∧ ts = ts' := by simpa using h1
      obtain ⟨rfl, rfl⟩ : v = .pv p ∧ vs = vs' := by simpa using h2
      simp only [Bool.and_eq_true] at h ⊢
      exact ⟨h.1, sizesT_mono hr h.2⟩
    · rename_i t' ts' r vs' h1 h2
      obtain ⟨rfl, rfl⟩ : t = t' ∧ ts = ts' := by simpa using h1
      obtain ⟨rfl, rfl⟩ : v = .row r ∧ vs = vs' := by simpa using h2
      split at h
      · rename_i hl
        simp only [hr _ _ hl]
        simp only [Bool.and_eq_true] at h ⊢
        exact ⟨h.1, sizesT_mono hr h.2⟩
      · cases h
    · cases h
  | [], _ :: _, h => by simp [sizesT] at h
  | _ :: _, [], h => by simp [sizesT] at h
theorem stepP_mono (hs : s.LeO o s') {out : Out} (h : stepP T s o = some out) : stepP T s' o = some out := by
  unfold stepP at h ⊢
  split at h
  · exact optV_mono (fun v hv => ev_mono hs.le hv) h
  · exact optV_mono (fun v hv => ev_mono hs.le hv) h
  · split at h
    · rename_i b hb
      simp only [ev_mono hs.le hb]
      exact pickS_mono (fun v hv => ev_mono hs.le hv) (fun v hv => ev_mono hs.le hv) h
    · cases h
  · split at h
    · rename_i p q hu hv
      simp only [ev_mono hs.le hu, ev_mono hs.le hv]; exact h
    · rename_i u hu hv
      simp only [ev_mono hs.le hu, ev_mono hs.le hv]; exact h
    · rename_i u v hu hv
      simp only [ev_mono hs.le hu, ev_mono hs.le hv]; exact h
    · rename_i u v hne hne2 hu hv
      simp only [ev_mono hs.le hu, ev_mono hs.le hv]; exact h
    · cases h
  · split at h
    · rename_i b hb; simp only [ev_mono hs.le hb]; exact h
    · cases h
  · split at h
    · rename_i k n hb; simp only [ev_mono hs.le hb]; exact h
    · cases h
  · split at h
    · rename_i k k' n hd hx; simp only [hd, ev_mono hs.le hx]; exact h
    · rename_i v hd hx; simp only [hd, ev_mono hs.le hx]; exact convB_mono hs.le h
    · cases h
  · split at h
    · rename_i u v hu hv
      simp only [ev_mono hs.le hu, ev_mono hs.le hv]
      exact idxP_mono hs.le h
    · cases h
  · split at h
    · rename_i p hp; simp only [ev_mono hs.le hp]; exact h
    · rename_i r off hp
      simp only [ev_mono hs.le hp]
      split at h
      · rename_i hl; simp only [hs.le.rt _ _ hl]; exact h
      · cases h
    · cases h
  · split at h
    · rename_i v hv; simp only [ev_mono hs.le hv]; exact loadS_mono hs.le h
    · cases h
  · split at h
    · rename_i u v hu hv hd
      simp only [ev_mono hs.le hu, ev_mono hs.le hv, hd]
      exact storeS_mono hs.le h
    · cases h
  · split at h
    · rename_i v hv; simp only [ev_mono hs.le hv]; exact fieldP_mono hs.le.rt h
    · cases h
  · split at h
    · rename_i ps ts hv ht; simp only [ev_mono hs.le hv, ht]; exact h
    · cases h
  · split at h
    · rename_i vs hv; simp only [ev_mono hs.le hv]; exact h
    · cases h
  · split at h
    · rename_i b k n hu hv; simp only [ev_mono hs.le hu, ev_mono hs.le hv]; exact h
    · cases h
  · split at h
    · rename_i p hp; exact newBox_mono hs nil_living h
    · cases h
  · split at h
    · rename_i v hv
      simp only [ev_mono hs.le hv]
      split at h
      · rename_i q cs hl
        simp only [linked_mono hs.le.rt hl]
        split at h
        · rename_i hb
          try simp only [hb]
          exact newBox_mono hs (linked_living hl) h
        · cases h
      · cases h
    · cases h
  · split at h
    · rename_i k1 l k2 m hu hv
      simp only [ev_mono hs.le hu, ev_mono hs.le hv]
      split at h
      · rename_i e ht
        try simp only [ht]
        split at h
        · rename_i z hz
          split at h
          · rename_i hb
            try simp only [hb]
            exact newRow_mono hs nil_living h
          · cases h
        · cases h
      · cases h
    · cases h
  · split at h
    · rename_i vs e hb hvs ht
      simp only [hb, evs_mono hs.le hvs, ht]
      split at h
      · rename_i ps cs hps
        simp only [pvsOf_mono hs.le.rt _ hps]
        split at h
        · rename_i z hb2 hz
          try simp only [hb2]
          exact newRow_mono hs (pvsOf_living _ hps) h
        · cases h
      · cases h
    · cases h
  · split at h
    · rename_i vs ts hb hvs ht
      simp only [hb, evs_mono hs.le hvs, ht]
      split at h
      · rename_i z hsz hz
        simp only [sizesT_mono hs.le.rt hsz, hz]; exact h
      · cases h
    · cases h
  · split at h
    · rename_i vs hf hvs
      simp only [hf, evs_mono hs.le hvs]; exact h
    · cases h
  · exact callP_mono hs h
  · split at h
    · rename_i v hv; simp only [ev_mono hs.le hv]; exact sliceS_mono hs h
    · cases h
  · cases h
end
end Go.Vm

/- Told with less, and under other names. -/
set_option linter.unusedVariables false
set_option linter.unusedSimpArgs false
namespace Go.Vm
open Go Go.RowKit

mutual
/-- A content that is handed back, as the contract spells it: an empty slice may be nil. -/
def retP : PV → PV → Prop
  | .nil, .sl _ xs => xs = []
  | .agg ps, .agg qs => retPs ps qs
  | p, q => p = q
def retPs : List PV → List PV → Prop
  | [], [] => True
  | p :: ps, q :: qs => retP p q ∧ retPs ps qs
  | _, _ => False
end
def resVs (T : Tab) (s : St) : List ResultVar → Option (List V)
  | [] => some []
  | .tmp t :: rs => match lookup s.tmps t, resVs T s rs with
    | some v, some vs => some (v :: vs)
    | _, _ => none
  | .cell t ty :: rs => match lookup s.tmps t with
    | some (.bx r 0) => match lookup s.roots r with
      | some (some (n, _, .ptr p)) => match Nat.ble n 1, getO (fits T ty) p 0 with
        | true, some q => match unlink s.roots q, resVs T s rs with
          | some v, some vs => some (v :: vs)
          | _, _ => none
        | _, _ => none
      | _ => none
    | _ => none
mutual
theorem retP_rep {w : World} {col : Col} {lk : Lk} {r : Nat} : ∀ (p q : PV) {pos cs}, retP p q → Rep w col lk r 0 pos p cs → Rep w col lk r 0 pos q cs ∧ toVal p cs = toVal q cs
  | .nil, .sl k xs, pos, cs, h, hr => by
    simp only [retP] at h
    subst h
    simp only [Rep] at hr
    subst hr
    refine ⟨?_, rfl⟩
    simp only [Rep]
    exact ⟨_, [], rfl, by simp, by simp [RepL], none, 0, rfl, Nat.le_refl _, fun h => absurd rfl h⟩
  | .agg ps, .agg qs, pos, cs, h, hr => by
    simp only [retP] at h
    simp only [Rep] at hr ⊢
    exact ⟨retPs_rep ps qs h hr, rfl⟩
  | .nil, .nil, _, _, h, hr => ⟨hr, rfl⟩
  | .nil, .w _, _, _, h, hr => by simp [retP] at h
  | .nil, .agg _, _, _, h, hr => by simp [retP] at h
  | .nil, .ptr _, _, _, h, hr => by simp [retP] at h
  | .nil, .fn _ _, _, _, h, hr => by simp [retP] at h
  | .nil, .lnk _, _, _, h, hr => by simp [retP] at h
  | .agg _, .nil, _, _, h, hr => by simp [retP] at h
  | .agg _, .w _, _, _, h, hr => by simp [retP] at h
  | .agg _, .sl _ _, _, _, h, hr => by simp [retP] at h
  | .agg _, .ptr _, _, _, h, hr => by simp [retP] at h
  | .agg _, .fn _ _, _, _, h, hr => by simp [retP] at h
  | .agg _, .lnk _, _, _, h, hr => by simp [retP] at h
  | .w _, q, _, _, h, hr => by simp only [retP] at h; subst h; exact ⟨hr, rfl⟩
  | .sl _ _, q, _, _, h, hr => by simp only [retP] at h; subst h; exact ⟨hr, rfl⟩
  | .ptr _, q, _, _, h, hr => by simp only [retP] at h; subst h; exact ⟨hr, rfl⟩
  | .fn _ _, q, _, _, h, hr => by simp only [retP] at h; subst h; exact ⟨hr, rfl⟩
  | .lnk _, q, _, _, h, hr => by simp only [retP] at h; subst h; exact ⟨hr, rfl⟩
theorem retPs_rep {w : World} {col : Col} {lk : Lk} {r : Nat} : ∀ (ps qs : List PV) {pos i cs}, retPs ps qs → RepL w col lk r 0 pos i ps cs → RepL w col lk r 0 pos i qs cs
  | [], [], _, _, _, _, hr => hr
  | p :: ps, q :: qs, _, _, _, h, hr => by
    simp only [retPs] at h
    simp only [RepL] at hr ⊢
    obtain ⟨c, d, rfl, h1, h2⟩ := hr
    exact ⟨c, d, rfl, (retP_rep p q h.1 h1).1, retPs_rep ps qs h.2 h2⟩
  | [], _ :: _, _, _, _, h, _ => by simp [retPs] at h
  | _ :: _, [], _, _, _, h, _ => by simp [retPs] at h
end

/-- New names: each is an old root's, or a nil slice's that is owned from now on. -/
abbrev Ren := List (Nat × Option Nat)
mutual
def cvP (m : Ren) : PV → PV → Prop
  | .lnk r, q => match q with
    | .lnk h => lookup m h = some (some r)
    | _ => False
  | .agg ps, q => match q with
    | .agg qs => cvPs m ps qs
    | _ => False
  | p, q => p = q ∧ noLinks p = true
def cvPs (m : Ren) : List PV → List PV → Prop
  | [], qs => match qs with
    | [] => True
    | _ => False
  | p :: ps, qs => match qs with
    | q :: qs => cvP m p q ∧ cvPs m ps qs
    | [] => False
end
def cvR (m : Ren) (p q : PV) : Prop := match p with
  | .ptr p => match q with
    | .ptr q => cvP m p q
    | _ => False
  | .sl k xs => q = .sl k xs
  | _ => False
def hasV (r : Nat) : Ren → Bool
  | [] => false
  | (_, some r') :: m => Nat.beq r r' || hasV r m
  | (_, none) :: m => hasV r m
def hasK (h : Nat) : Ren → Bool
  | [] => false
  | (h', _) :: m => Nat.beq h h' || hasK h m
def injM : Ren → Bool
  | [] => true
  | (h, some r) :: m => (Nat.blt 0 h && (Nat.blt h PN || Nat.beq h r)) && !(hasK h m) && !(hasV r m) && injM m
  | (h, none) :: m => (Nat.blt 0 h && Nat.blt h PN) && !(hasK h m) && injM m
def invM (r : Nat) : Ren → Option Nat
  | [] => none
  | (h, some r') :: m => match Nat.beq r' r with | true => some h | false => invM r m
  | (_, none) :: m => invM r m
def subR (s : St) (M : Ren) : Ren → List (Nat × Root) → Prop
  | [], [] => True
  | (h, some r) :: m, (h', some (n, e, p2)) :: l => h = h' ∧ (match lookup s.roots r with | some (some (n', e', p)) => n' = n ∧ e' = e ∧ cvR M p p2 | _ => False) ∧ subR s M m l
  | (h, none) :: m, (h', some (n, _, p2)) :: l => h = h' ∧ n = 1 ∧ (∃ k, p2 = .sl k []) ∧ subR s M m l
  | _, _ => False
mutual
def cvV (s : St) (m : Ren) (F : Nat → Prop) : V → V → Prop
  | .row r, v => match v with
    | .row h => lookup m h = some (some r)
    | .pv q => (match lookup s.roots r with | some (some (_, _, .sl k xs)) => q = .sl k xs | _ => False) ∧ hasV r m = false ∧ F r
    | _ => False
  | .bx r o, v => match v with
    | .bx h o' => lookup m h = some (some r) ∧ o = o'
    | _ => False
  | .el r i o, v => match v with
    | .el h i' o' => lookup m h = some (some r) ∧ i = i' ∧ o = o'
    | _ => False
  | .pv p, v => match v with
    | .row h => p = .nil ∧ lookup m h = some none
    | .pv q => retP p q
    | _ => False
  | .agg vs, v => match v with
    | .agg us => cvVs s m F vs us
    | .pv (.agg qs) => cvVs s m F vs (qs.map .pv)
    | _ => False
  | .fn f vs, v => match v with
    | .fn g us => f = g ∧ cvVs s m F vs us
    | .pv (.fn g qs) => f = g ∧ noAgg qs = true ∧ cvVs s m F vs (qs.map .pv)
    | _ => False
  | _, _ => False
def cvVs (s : St) (m : Ren) (F : Nat → Prop) : List V → List V → Prop
  | [], us => match us with
    | [] => True
    | _ => False
  | v :: vs, us => match us with
    | u :: us => cvV s m F v u ∧ cvVs s m F vs us
    | [] => False
end
def subV (s : St) (m : Ren) (F : Nat → Prop) : List (Nat × V) → Prop
  | [] => True
  | (t, v) :: l => (match lookup s.tmps t with | some u => cvV s m F u v | none => False) ∧ subV s m F l
structure SubF (m : Ren) (F : Nat → Prop) (s s2 : St) : Prop where
  n : s.n = s2.n
  inj : injM m = true
  rt : subR s m m s2.roots
  tm : subV s m F s2.tmps
abbrev SubM (m : Ren) (s s2 : St) : Prop := SubF m (fun _ => True) s s2
def Sub (s s2 : St) : Prop := ∃ m, SubM m s s2

theorem hasV_no {r : Nat} : ∀ {m : Ren}, hasV r m = false → ∀ h, lookup m h ≠ some (some r)
  | [], _, h, e => by simp [lookup] at e
  | (h', some r') :: m, hv, h, e => by
    simp only [hasV, Bool.or_eq_false_iff, beqT, decide_eq_false_iff_not] at hv
    rw [lookup_cons] at e
    split at e
    · simp only [Option.some.injEq] at e; exact hv.1 e.symm
    · exact hasV_no hv.2 h e
  | (h', none) :: m, hv, h, e => by
    simp only [hasV] at hv
    rw [lookup_cons] at e
    split at e
    · simp at e
    · exact hasV_no hv h e
theorem hasK_no {h : Nat} : ∀ {m : Ren}, hasK h m = false → lookup m h = none
  | [], _ => rfl
  | (h', x) :: m, hv => by
    simp only [hasK, Bool.or_eq_false_iff, beqT, decide_eq_false_iff_not] at hv
    rw [lookup_cons, if_neg fun e => hv.1 e.symm]
    exact hasK_no hv.2
theorem inv_of {r h : Nat} : ∀ {m : Ren}, injM m = true → lookup m h = some (some r) → invM r m = some h
  | [], _, e => by simp [lookup] at e
  | (h', some r') :: m, hi, e => by
    simp only [injM, Bool.and_eq_true, Bool.not_eq_true'] at hi
    rw [lookup_cons] at e
    simp only [invM, beqT]
    split at e
    · rename_i he
      obtain rfl : r' = r := by simpa using e
      simp [he]
    · have : r' ≠ r := by rintro rfl; exact hasV_no hi.1.2 h e
      simp [this, inv_of hi.2 e]
  | (h', none) :: m, hi, e => by
    simp only [injM, Bool.and_eq_true, Bool.not_eq_true'] at hi
    rw [lookup_cons] at e
    split at e
    · simp at e
    · simp only [invM]; exact inv_of hi.2 e
theorem of_inv {r h : Nat} : ∀ {m : Ren}, injM m = true → invM r m = some h → lookup m h = some (some r)
  | [], _, e => by simp [invM] at e
  | (h', some r') :: m, hi, e => by
    simp only [injM, Bool.and_eq_true, Bool.not_eq_true'] at hi
    simp only [invM, beqT] at e
    rw [lookup_cons]
    by_cases hr : r' = r
    · subst hr
      simp at e
      simp [e]
    · simp [hr] at e
      have h1 := of_inv hi.2 e
      rw [if_neg, h1]
      rintro rfl
      rw [hasK_no hi.1.1.2] at h1; cases h1
  | (h', none) :: m, hi, e => by
    simp only [injM, Bool.and_eq_true, Bool.not_eq_true'] at hi
    simp only [invM] at e
    have h1 := of_inv hi.2 e
    rw [lookup_cons, if_neg, h1]
    rintro rfl
    rw [hasK_no hi.1.2] at h1; cases h1
theorem key_pos : ∀ {m : Ren} {h : Nat} {x : Option Nat}, injM m = true → lookup m h = some x → h ≠ 0
  | [], _, _, _, e => by simp [lookup] at e
  | (h', some r') :: m, h, x, hi, e => by
    simp only [injM, Bool.and_eq_true, Bool.not_eq_true'] at hi
    rw [lookup_cons] at e
    split at e
    · rename_i he; subst he
      have := Nat.le_of_ble_eq_true hi.1.1.1.1; omega
    · exact key_pos hi.2 e
  | (h', none) :: m, h, x, hi, e => by
    simp only [injM, Bool.and_eq_true, Bool.not_eq_true'] at hi
    rw [lookup_cons] at e
    split at e
    · rename_i he; subst he
      have := Nat.le_of_ble_eq_true hi.1.1.1; omega
    · exact key_pos hi.2 e
/-- A name of what was handed in stays. -/
theorem key_fix : ∀ {m : Ren} {h : Nat} {x : Option Nat}, injM m = true → lookup m h = some x → PN ≤ h → x = some h
  | [], _, _, _, e, _ => by simp [lookup] at e
  | (h', some r') :: m, h, x, hi, e, hp => by
    simp only [injM, Bool.and_eq_true, Bool.or_eq_true] at hi
    rw [lookup_cons] at e
    split at e
    · rename_i he; subst he
      obtain rfl : some r' = x := by simpa using e
      rcases hi.1.1.1.2 with h1 | h1
      · have := Nat.le_of_ble_eq_true h1; omega
      · rw [Nat.eq_of_beq_eq_true h1]
    · exact key_fix hi.2 e hp
  | (h', none) :: m, h, x, hi, e, hp => by
    simp only [injM, Bool.and_eq_true] at hi
    rw [lookup_cons] at e
    split at e
    · rename_i he; subst he
      have := Nat.le_of_ble_eq_true hi.1.1.2; omega
    · exact key_fix hi.2 e hp
/-- What is told of a new name. -/
def nameOk (s : St) (M : Ren) (h n e : Nat) (p2 : PV) : Option Nat → Prop
  | some r => ∃ p, lookup s.roots r = some (some (n, e, p)) ∧ cvR M p p2
  | none => n = 1 ∧ ∃ k, p2 = .sl k []
theorem subR_root {s : St} {M : Ren} : ∀ {m : Ren} {l : List (Nat × Root)} {h : Nat} {x : Root}, subR s M m l → lookup l h = some x → ∃ y n e p, lookup m h = some y ∧ x = some (n, e, p) ∧ nameOk s M h n e p y
  | [], [], _, _, _, e => by simp [lookup] at e
  | (h', some r) :: m, (h2, some (n, e, p2)) :: l, h, x, hs, he => by
    simp only [subR] at hs
    obtain ⟨rfl, h3, h4⟩ := hs
    rw [lookup_cons] at he ⊢
    split at he
    · rename_i hh
      simp only [Option.some.injEq] at he
      subst he
      split at h3
      · rename_i n' e' p hl
        obtain ⟨rfl, rfl, h5⟩ := h3
        exact ⟨some r, n', e', p2, by simp [hh], rfl, p, hl, h5⟩
      · exact h3.elim
    · rename_i hh
      obtain ⟨y, n1, e1, p1, h5, h6⟩ := subR_root h4 he
      exact ⟨y, n1, e1, p1, by simp [hh, h5], h6⟩
  | (h', none) :: m, (h2, some (n, e, p2)) :: l, h, x, hs, he => by
    simp only [subR] at hs
    obtain ⟨rfl, h3, h3', h4⟩ := hs
    rw [lookup_cons] at he ⊢
    split at he
    · rename_i hh
      simp only [Option.some.injEq] at he
      subst he
      exact ⟨none, n, e, p2, by simp [hh], rfl, h3, h3'⟩
    · rename_i hh
      obtain ⟨y, n1, e1, p1, h5, h6⟩ := subR_root h4 he
      exact ⟨y, n1, e1, p1, by simp [hh, h5], h6⟩
  | [], _ :: _, _, _, hs, _ => by simp [subR] at hs
  | (_, some _) :: _, [], _, _, hs, _ => by simp [subR] at hs
  | (_, none) :: _, [], _, _, hs, _ => by simp [subR] at hs
  | (_, some _) :: _, (_, none) :: _, _, _, hs, _ => by simp [subR] at hs
  | (_, none) :: _, (_, none) :: _, _, _, hs, _ => by simp [subR] at hs
theorem subR_key {s : St} {M : Ren} : ∀ {m : Ren} {l : List (Nat × Root)} {h : Nat} {y : Option Nat}, subR s M m l → lookup m h = some y → ∃ x, lookup l h = some (some x)
  | [], _, _, _, _, e => by simp [lookup] at e
  | (h', some r) :: m, (h2, some (n, e, p2)) :: l, h, y, hs, he => by
    simp only [subR] at hs
    obtain ⟨rfl, h3, h4⟩ := hs
    rw [lookup_cons] at he ⊢
    split at he
    · rename_i hh; exact ⟨_, by rw [if_pos hh]⟩
    · rename_i hh
      obtain ⟨x, hx⟩ := subR_key h4 he
      exact ⟨x, by rw [if_neg hh, hx]⟩
  | (h', none) :: m, (h2, some (n, e, p2)) :: l, h, y, hs, he => by
    simp only [subR] at hs
    obtain ⟨rfl, h3, h3', h4⟩ := hs
    rw [lookup_cons] at he ⊢
    split at he
    · rename_i hh; exact ⟨_, by rw [if_pos hh]⟩
    · rename_i hh
      obtain ⟨x, hx⟩ := subR_key h4 he
      exact ⟨x, by rw [if_neg hh, hx]⟩
  | (_, some _) :: _, [], _, _, hs, _ => by simp [subR] at hs
  | (_, none) :: _, [], _, _, hs, _ => by simp [subR] at hs
  | (_, some _) :: _, (_, none) :: _, _, _, hs, _ => by simp [subR] at hs
  | (_, none) :: _, (_, none) :: _, _, _, hs, _ => by simp [subR] at hs

def colR (m : Ren) (col : Col) : Col := fun b => match col b with
  | none => none
  | some (r, q) => if r = 0 then some (0, q) else match invM r m with | some h => some (h, q) | none => none
def lkR (m : Ren) (lk : Lk) : Lk := fun h => match lookup m h with
  | some (some r) => lk r
  | some none => some (.slice none 0 0)
  | none => none
theorem SlRep.own {w : World} {col col2 : Col} {r h n : Nat} {pos : List Nat} {k len : Nat} {v : Value} {d : List Value} (h0 : ∀ b, col b = none → col2 b = none) (h1 : ∀ b q, col b = some (r, q) → col2 b = some (h, q)) (hs : SlRep w col r n pos k len v d) : SlRep w col2 h n pos k len v d := by
  cases n with
  | zero =>
    obtain ⟨A, cap, hv, hn, hd⟩ := hs
    exact ⟨A, cap, hv, hn, fun hne => by obtain ⟨b, o, hA, hc, hcs⟩ := hd hne; exact ⟨b, o, hA, h0 b hc, hcs⟩⟩
  | succ n => exact ⟨hs.1, fun b hb => h1 b pos (hs.2 b hb)⟩
theorem PtRep.own {w : World} {col col2 : Col} {r h n : Nat} {pos : List Nat} {b f : Nat} {d : List Value} (h0 : ∀ b, col b = none → col2 b = none) (h1 : ∀ b q, col b = some (r, q) → col2 b = some (h, q)) (hs : PtRep w col r n pos b f d) : PtRep w col2 h n pos b f d := by
  cases n with
  | zero => exact ⟨h0 b hs.1, hs.2⟩
  | succ n => exact ⟨hs.1, h1 b pos hs.2.1, hs.2.2⟩
mutual
theorem Rep.own {w : World} {col col2 : Col} {lk : Lk} {r h : Nat} (h0 : ∀ b, col b = none → col2 b = none) (h1 : ∀ b q, col b = some (r, q) → col2 b = some (h, q)) : ∀ (p : PV) {n pos cs}, Rep w col lk r n pos p cs → Rep w col2 lk h n pos p cs
  | .w v, _, _, _, h => by simpa only [Rep] using h
  | .nil, _, _, _, h => by simpa only [Rep] using h
  | .sl k xs, n, pos, _, h => by
    simp only [Rep] at h ⊢
    obtain ⟨v, d, rfl, h2, h3, h4⟩ := h
    exact ⟨v, d, rfl, h2, RepL.own h0 h1 xs h3, h4.own h0 h1⟩
  | .agg ps, _, _, _, h => by simp only [Rep] at h ⊢; exact RepL.own h0 h1 ps h
  | .ptr p, n, pos, _, h => by
    simp only [Rep] at h ⊢
    obtain ⟨b, f, d, rfl, hd, h2, h3⟩ := h
    exact ⟨b, f, d, rfl, hd, Rep.own h0 h1 p h2, h3.own h0 h1⟩
  | .fn f caps, n, pos, _, h => by
    simp only [Rep] at h ⊢
    obtain ⟨vs, rfl, h⟩ := h
    exact ⟨vs, rfl, RepL.own h0 h1 caps h⟩
  | .lnk c, _, _, _, h => by simpa only [Rep] using h
theorem RepL.own {w : World} {col col2 : Col} {lk : Lk} {r h : Nat} (h0 : ∀ b, col b = none → col2 b = none) (h1 : ∀ b q, col b = some (r, q) → col2 b = some (h, q)) : ∀ (ps : List PV) {n pos i cs}, RepL w col lk r n pos i ps cs → RepL w col2 lk h n pos i ps cs
  | [], _, _, _, _, h => by simpa only [RepL] using h
  | p :: ps, _, _, _, _, h => by
    simp only [RepL] at h ⊢
    obtain ⟨c, d, rfl, h2, h3⟩ := h
    exact ⟨c, d, rfl, Rep.own h0 h1 p h2, RepL.own h0 h1 ps h3⟩
end
mutual
theorem Rep.ren {w : World} {col col2 : Col} {lk lk2 : Lk} {r h : Nat} {m : Ren} (h0 : ∀ b, col b = none → col2 b = none) (h1 : ∀ b q, col b = some (r, q) → col2 b = some (h, q)) (hl : ∀ h r v, lookup m h = some (some r) → lk r = some v → lk2 h = some v) :
    ∀ (p q : PV) {n pos cs}, cvP m p q → Rep w col lk r n pos p cs → Rep w col2 lk2 h n pos q cs
  | .lnk r', .lnk h', _, _, _, hc, hr => by
    simp only [cvP] at hc
    simp only [Rep] at hr ⊢
    obtain ⟨v, h2, h3⟩ := hr
    exact ⟨v, hl _ _ _ hc h2, h3⟩
  | .agg ps, .agg qs, _, _, _, hc, hr => by
    simp only [cvP] at hc
    simp only [Rep] at hr ⊢
    exact RepL.ren h0 h1 hl ps qs hc hr
  | .w v, q, _, _, _, hc, hr => by simp only [cvP] at hc; obtain ⟨rfl, hn⟩ := hc; exact Rep.unlk _ (noLinks_iff hn) (Rep.own h0 h1 _ hr)
  | .nil, q, _, _, _, hc, hr => by simp only [cvP] at hc; obtain ⟨rfl, hn⟩ := hc; exact Rep.unlk _ (noLinks_iff hn) (Rep.own h0 h1 _ hr)
  | .sl k xs, q, _, _, _, hc, hr => by simp only [cvP] at hc; obtain ⟨rfl, hn⟩ := hc; exact Rep.unlk _ (noLinks_iff hn) (Rep.own h0 h1 _ hr)
  | .ptr p, q, _, _, _, hc, hr => by simp only [cvP] at hc; obtain ⟨rfl, hn⟩ := hc; exact Rep.unlk _ (noLinks_iff hn) (Rep.own h0 h1 _ hr)
  | .fn f caps, q, _, _, _, hc, hr => by simp only [cvP] at hc; obtain ⟨rfl, hn⟩ := hc; exact Rep.unlk _ (noLinks_iff hn) (Rep.own h0 h1 _ hr)
  | .lnk _, .w _, _, _, _, hc, _ => by simp [cvP] at hc
  | .lnk _, .nil, _, _, _, hc, _ => by simp [cvP] at hc
  | .lnk _, .sl _ _, _, _, _, hc, _ => by simp [cvP] at hc
  | .lnk _, .agg _, _, _, _, hc, _ => by simp [cvP] at hc
  | .lnk _, .ptr _, _, _, _, hc, _ => by simp [cvP] at hc
  | .lnk _, .fn _ _, _, _, _, hc, _ => by simp [cvP] at hc
  | .agg _, .w _, _, _, _, hc, _ => by simp [cvP] at hc
  | .agg _, .nil, _, _, _, hc, _ => by simp [cvP] at hc
  | .agg _, .sl _ _, _, _, _, hc, _ => by simp [cvP] at hc
  | .agg _, .lnk _, _, _, _, hc, _ => by simp [cvP] at hc
  | .agg _, .ptr _, _, _, _, hc, _ => by simp [cvP] at hc
  | .agg _, .fn _ _, _, _, _, hc, _ => by simp [cvP] at hc
theorem RepL.ren {w : World} {col col2 : Col} {lk lk2 : Lk} {r h : Nat} {m : Ren} (h0 : ∀ b, col b = none → col2 b = none) (h1 : ∀ b q, col b = some (r, q) → col2 b = some (h, q)) (hl : ∀ h r v, lookup m h = some (some r) → lk r = some v → lk2 h = some v) :
    ∀ (ps qs : List PV) {n pos i cs}, cvPs m ps qs → RepL w col lk r n pos i ps cs → RepL w col2 lk2 h n pos i qs cs
  | [], [], _, _, _, _, _, hr => by simpa only [RepL] using hr
  | p :: ps, q :: qs, _, _, _, _, hc, hr => by
    simp only [cvPs] at hc
    simp only [RepL] at hr ⊢
    obtain ⟨c, d, rfl, h2, h3⟩ := hr
    exact ⟨c, d, rfl, Rep.ren h0 h1 hl p q hc.1 h2, RepL.ren h0 h1 hl ps qs hc.2 h3⟩
  | [], _ :: _, _, _, _, _, hc, _ => by simp [cvPs] at hc
  | _ :: _, [], _, _, _, _, hc, _ => by simp [cvPs] at hc
end
section
variable {P0 : Program} {c : Ctx P0} {s s2 : St} {a : Act} {w : World} {col : Col} {lk : Lk} {m : Ren}
theorem colR_none {b : Nat} (h : col b = none) : colR m col b = none := by simp [colR, h]
theorem colR_some {b r h : Nat} {q : List Nat} (hc : col b = some (r, q)) (h0 : r ≠ 0) (hi : invM r m = some h) : colR m col b = some (h, q) := by simp [colR, hc, h0, hi]
theorem colR_of {b h : Nat} {q : List Nat} (hc : colR m col b = some (h, q)) : (h = 0 ∧ col b = some (0, q)) ∨ ∃ r, r ≠ 0 ∧ col b = some (r, q) ∧ invM r m = some h := by
  unfold colR at hc
  split at hc
  · cases hc
  · rename_i r q' hb
    split at hc
    · rename_i h0
      obtain ⟨rfl, rfl⟩ : 0 = h ∧ q' = q := by simpa using hc
      subst h0
      exact .inl ⟨rfl, hb⟩
    · rename_i h0
      split at hc
      · rename_i h' hi
        obtain ⟨rfl, rfl⟩ : h' = h ∧ q' = q := by simpa using hc
        exact .inr ⟨r, h0, hb, hi⟩
      · cases hc
theorem lkR_some {h r : Nat} {v : Value} (hm : lookup m h = some (some r)) (hv : lk r = some v) : lkR m lk h = some v := by simp [lkR, hm, hv]
section
variable {F : Nat → Prop}
/-- A name, in the new state, of a living root. -/
theorem name_root (hs : SubF m F s s2) {h r : Nat} (hm : lookup m h = some (some r)) : ∃ n e p p2, lookup s.roots r = some (some (n, e, p)) ∧ lookup s2.roots h = some (some (n, e, p2)) ∧ cvR m p p2 := by
  obtain ⟨x, hx⟩ := subR_key hs.rt hm
  obtain ⟨y, n, e, p2, h1, h2, h3⟩ := subR_root hs.rt hx
  rw [hm] at h1
  obtain rfl : some r = y := by simpa using h1
  obtain rfl : x = (n, e, p2) := by simpa using h2
  obtain ⟨p, h4, h5⟩ := h3
  exact ⟨n, e, p, p2, h4, hx, h5⟩
theorem name_nil (hs : SubF m F s s2) {h : Nat} (hm : lookup m h = some none) : ∃ e k, lookup s2.roots h = some (some (1, e, .sl k [])) := by
  obtain ⟨x, hx⟩ := subR_key hs.rt hm
  obtain ⟨y, n, e, p2, h1, h2, h3⟩ := subR_root hs.rt hx
  rw [hm] at h1
  obtain rfl : none = y := by simpa using h1
  obtain rfl : x = (n, e, p2) := by simpa using h2
  obtain ⟨rfl, k, rfl⟩ := h3
  exact ⟨e, k, hx⟩
/-- Who is told what of the blocks, under the new names. -/
structure ColS (m : Ren) (F : Nat → Prop) (s : St) (col col2 : Col) : Prop where
  a : ∀ b, col b = none → col2 b = none
  b : ∀ b r q h, col b = some (r, q) → r ≠ 0 → invM r m = some h → col2 b = some (h, q)
  c : ∀ r b q, hasV r m = false → F r → r ≠ 0 → col b = some (r, q) → col2 b = none
  d : ∀ b h q, col2 b = some (h, q) → h ≠ 0 → ∃ r, r ≠ 0 ∧ invM r m = some h ∧ col b = some (r, q)
theorem VRepL.cellsOf {lk' : Lk} {rs : List (Nat × Root)} : ∀ {qs : List PV} {i : Nat} {cs : List Value}, VCells w col lk' rs (qs.map .pv) cs → RepL w col lk0 0 0 [] i qs cs
  | [], i, cs, h => by simpa only [List.map_nil, VCells, RepL] using h
  | q :: qs, i, cs, h => by
    simp only [List.map_cons, VCells, VRep] at h
    obtain ⟨y, zs, rfl, ⟨c1, h1, rfl⟩, h2⟩ := h
    simp only [RepL]
    exact ⟨c1, zs, by rw [cells_toVal h1], Rep.move q h1, VRepL.cellsOf h2⟩
theorem VRepL.valsOf {lk' : Lk} {rs : List (Nat × Root)} : ∀ {qs : List PV} {i : Nat} {ys : List Value}, noAgg qs = true → VRepL w col lk' rs (qs.map .pv) ys → RepL w col lk0 0 0 [] i qs ys
  | [], i, cs, _, h => by simpa only [List.map_nil, VRepL, RepL] using h
  | q :: qs, i, cs, hn, h => by
    simp only [List.map_cons, VRepL, VRep] at h
    obtain ⟨y, zs, rfl, ⟨c1, h1, rfl⟩, h2⟩ := h
    have hl := Rep.len _ h1
    have hn' : noAgg qs = true ∧ c1 = [toVal q c1] := by
      cases q <;> simp only [noAgg, reduceCtorEq] at hn <;> refine ⟨hn, ?_⟩ <;> simp only [sz] at hl <;> match c1, hl with | [u], _ => rfl
    simp only [RepL]
    exact ⟨c1, zs, by rw [← List.singleton_append, ← hn'.2], Rep.move q h1, VRepL.valsOf hn'.1 h2⟩
mutual
theorem cvV_rep {col2 : Col} (hr : Rel c s a w col lk) (hs : SubF m F s s2) (hc2 : ColS m F s col col2) : ∀ (u v : V) {y : Value}, cvV s m F u v → VRep w col lk s.roots u y → VRep w col2 (lkR m lk) s2.roots v y
  | .row r, v, y, hc, hu => by
    simp only [cvV] at hc
    split at hc
    · rename_i h
      obtain ⟨n, e, p, p2, h1, h2, h3⟩ := name_root hs hc
      simp only [VRep, onRow, h1] at hu
      cases p with
      | sl k xs =>
        simp only [cvR] at h3
        subst h3
        simp only at hu
        simp only [VRep, onRow, h2]
        exact lkR_some hc hu
      | _ => exact hu.elim
    · rename_i q
      obtain ⟨hc, hv, hF⟩ := hc
      split at hc
      · rename_i n e k xs hl
        subst hc
        obtain ⟨_, h2, _⟩ := hu.row_rt hr hl
        simp only [VRep]
        refine ⟨[y], Rep.unlk _ rfl (Rep.loose _ (fun b hb => ?_) h2), rfl⟩
        rcases hb with hb | ⟨_, q, hb⟩
        · exact hc2.a b hb
        · exact hc2.c r b _ hv hF (hr.ne0 hl) hb
      · exact hc.elim
    · exact hc.elim
  | .bx r o, v, y, hc, hu => by
    simp only [cvV] at hc
    split at hc
    · rename_i h o'
      obtain ⟨hc, rfl⟩ := hc
      obtain ⟨n, e, p, p2, h1, h2, h3⟩ := name_root hs hc
      simp only [VRep, onBx, h1] at hu
      cases p with
      | ptr p =>
        cases p2 with
        | ptr p2 =>
          simp only at hu
          simp only [VRep, onBx, h2]
          obtain ⟨b, h4, h5⟩ := hu
          exact ⟨b, lkR_some hc h4, h5⟩
        | _ => simp [cvR] at h3
      | _ => exact hu.elim
    · exact hc.elim
  | .el r i o, v, y, hc, hu => by
    simp only [cvV] at hc
    split at hc
    · rename_i h i' o'
      obtain ⟨hc, rfl, rfl⟩ := hc
      obtain ⟨n, e, p, p2, h1, h2, h3⟩ := name_root hs hc
      simp only [VRep, onRow, h1] at hu
      cases p with
      | sl k xs =>
        simp only [cvR] at h3
        subst h3
        simp only at hu
        simp only [VRep, onRow, h2]
        obtain ⟨b, n', cap, h4, h5⟩ := hu
        exact ⟨b, n', cap, lkR_some hc h4, h5⟩
      | _ => exact hu.elim
    · exact hc.elim
  | .pv p, v, y, hc, hu => by
    simp only [cvV] at hc
    simp only [VRep] at hu
    obtain ⟨cs, h1, h2⟩ := hu
    have hrep : ∀ q cs, Rep w col lk0 0 0 [] q cs → Rep w col2 lk0 0 0 [] q cs := fun q cs h => Rep.same (fun _ _ h => h) q ⟨fun b hb hm => ⟨rfl, by
      rcases hm with hm | ⟨h0, _⟩
      · rw [hm, hc2.a b hm]
      · exact absurd rfl h0⟩⟩ h
    split at hc
    · rename_i h
      obtain ⟨rfl, hm⟩ := hc
      obtain ⟨e, k, h3⟩ := name_nil hs hm
      simp only [Rep] at h1
      subst h1
      simp only [VRep, onRow, h3]
      rw [h2]
      simp [lkR, hm, toVal]
    · rename_i q
      obtain ⟨h3, h4⟩ := retP_rep p q hc h1
      simp only [VRep]
      exact ⟨cs, hrep _ _ h3, h2.trans h4⟩
    · exact hc.elim
  | .agg vs, v, y, hc, hu => by
    simp only [cvV] at hc
    simp only [VRep] at hu
    obtain ⟨cs, h1, h2⟩ := hu
    split at hc
    · rename_i us
      simp only [VRep]
      exact ⟨cs, cvVs_cells hr hs hc2 vs us hc h1, h2⟩
    · rename_i qs
      have := cvVs_cells hr hs hc2 vs _ hc h1
      simp only [VRep, Rep]
      exact ⟨cs, VRepL.cellsOf this, by rw [h2]; rfl⟩
    · exact hc.elim
  | .fn f vs, v, y, hc, hu => by
    simp only [cvV] at hc
    simp only [VRep] at hu
    obtain ⟨ys, h1, h2⟩ := hu
    split at hc
    · rename_i g us
      obtain ⟨rfl, hc⟩ := hc
      simp only [VRep]
      exact ⟨ys, cvVs_rep hr hs hc2 vs us hc h1, h2⟩
    · rename_i g qs
      obtain ⟨rfl, hn, hc⟩ := hc
      have := cvVs_rep hr hs hc2 vs _ hc h1
      simp only [VRep, Rep]
      exact ⟨[y], ⟨ys, by rw [h2], VRepL.valsOf hn this⟩, by simp [toVal]⟩
    · exact hc.elim
  | .any, v, y, hc, hu => by simp [cvV] at hc
  | .win .., v, y, hc, hu => by simp [cvV] at hc
  | .tup .., v, y, hc, hu => by simp [cvV] at hc
theorem cvVs_rep {col2 : Col} (hr : Rel c s a w col lk) (hs : SubF m F s s2) (hc2 : ColS m F s col col2) : ∀ (vs us : List V) {ys : List Value}, cvVs s m F vs us → VRepL w col lk s.roots vs ys → VRepL w col2 (lkR m lk) s2.roots us ys
  | [], [], _, _, h => by simpa only [VRepL] using h
  | v :: vs, u :: us, _, hc, h => by
    simp only [cvVs] at hc
    simp only [VRepL] at h ⊢
    obtain ⟨y, zs, rfl, h1, h2⟩ := h
    exact ⟨y, zs, rfl, cvV_rep hr hs hc2 v u hc.1 h1, cvVs_rep hr hs hc2 vs us hc.2 h2⟩
  | [], _ :: _, _, hc, _ => by simp [cvVs] at hc
  | _ :: _, [], _, hc, _ => by simp [cvVs] at hc
theorem cvVs_cells {col2 : Col} (hr : Rel c s a w col lk) (hs : SubF m F s s2) (hc2 : ColS m F s col col2) : ∀ (vs us : List V) {cs : List Value}, cvVs s m F vs us → VCells w col lk s.roots vs cs → VCells w col2 (lkR m lk) s2.roots us cs
  | [], [], _, _, h => by simpa only [VCells] using h
  | v :: vs, u :: us, _, hc, h => by
    simp only [cvVs] at hc
    simp only [VCells] at h ⊢
    obtain ⟨y, zs, rfl, h1, h2⟩ := h
    exact ⟨y, zs, rfl, cvV_rep hr hs hc2 v u hc.1 h1, cvVs_cells hr hs hc2 vs us hc.2 h2⟩
  | [], _ :: _, _, hc, _ => by simp [cvVs] at hc
  | _ :: _, [], _, hc, _ => by simp [cvVs] at hc
end
theorem subV_get : ∀ {l : List (Nat × V)} {t : Nat} {v : V}, subV s m F l → lookup l t = some v → ∃ u, lookup s.tmps t = some u ∧ cvV s m F u v
  | [], _, _, _, h => by simp [lookup] at h
  | (t', v') :: l, t, v, hs, h => by
    simp only [subV] at hs
    rw [lookup_cons] at h
    split at h
    · rename_i he
      subst he
      obtain rfl : v' = v := by simpa using h
      have h1 := hs.1
      split at h1
      · rename_i u hu; exact ⟨u, hu, h1⟩
      · exact h1.elim
    · exact subV_get hs.2 h
/-- The roots under their new names. -/
theorem sub_rt {col2 : Col} (hr : Rel c s a w col lk) (hs : SubF m F s s2) (hc2 : ColS m F s col col2) {h n e : Nat} {p2 : PV} (hp : lookup s2.roots h = some (some (n, e, p2))) : RtOk w col2 (lkR m lk) h n e p2 := by
  obtain ⟨y, n', e', p', h1, h2, h3⟩ := subR_root hs.rt hp
  obtain ⟨rfl, rfl, rfl⟩ : n = n' ∧ e = e' ∧ p2 = p' := by simpa using h2
  cases y with
  | none =>
    obtain ⟨rfl, k, rfl⟩ := h3
    refine ⟨.slice none 0 0, by simp [lkR, h1], ?_, ?_⟩
    · simp only [Rep]
      exact ⟨_, [], rfl, by simp, by simp [RepL], ⟨e, World.ownsRow_nil w 0 e k⟩, fun b hb => by simp [Value.ownBlock] at hb⟩
    · simp only [tyAt]
      intro _ b hb
      simp [Value.ownBlock] at hb
  | some r =>
    obtain ⟨p, h4, h5⟩ := h3
    have hr0 := hr.ne0 h4
    have hi := inv_of hs.inj h1
    obtain ⟨v, h6, h7, h8⟩ := hr.rt _ _ _ _ h4
    have k0 : ∀ b, col b = none → col2 b = none := hc2.a
    have k1 : ∀ b q, col b = some (r, q) → col2 b = some (h, q) := fun b q hb => hc2.b b r q h hb hr0 hi
    refine ⟨v, lkR_some h1 h6, ?_, ?_⟩
    · cases p with
      | sl k xs =>
        simp only [cvR] at h5
        subst h5
        exact Rep.unlk _ rfl (Rep.own k0 k1 _ h7)
      | ptr p =>
        cases p2 with
        | ptr p2 =>
          simp only [cvR] at h5
          simp only [Rep] at h7 ⊢
          obtain ⟨b, f, d, h9, hd, h10, h11⟩ := h7
          exact ⟨b, f, d, h9, hd, Rep.ren k0 k1 (fun h r v hm hv => lkR_some hm hv) p p2 h5 h10, h11.own k0 k1⟩
        | _ => simp [cvR] at h5
      | _ => simp [cvR] at h5
    · cases p with
      | sl k xs =>
        simp only [cvR] at h5
        subst h5
        exact h8
      | ptr p =>
        cases p2 with
        | ptr p2 => trivial
        | _ => simp [cvR] at h5
      | _ => simp [cvR] at h5
theorem sub_cl {col2 : Col} (hs : SubF m F s s2) (hc2 : ColS m F s col col2) {b h : Nat} {q : List Nat} (hb : col2 b = some (h, q)) (h0 : h ≠ 0) : ∃ x, lookup s2.roots h = some (some x) := by
  obtain ⟨r, _, h1, _⟩ := hc2.d b h q hb h0
  exact subR_key hs.rt (of_inv hs.inj h1)
theorem sub_ln (hs : SubF m F s s2) {h : Nat} {v : Value} (hv : lkR m lk h = some v) : ∃ x, lookup s2.roots h = some x := by
  unfold lkR at hv
  cases hm : lookup m h with
  | none => rw [hm] at hv; cases hv
  | some y => obtain ⟨x, hx⟩ := subR_key hs.rt hm; exact ⟨_, hx⟩
theorem sub_z (hs : SubF m F s s2) : lookup s2.roots 0 = none := by
  cases hx : lookup s2.roots 0 with
  | none => rfl
  | some x =>
    obtain ⟨y, n, e, p, h1, _⟩ := subR_root hs.rt hx
    exact absurd rfl (key_pos hs.inj h1)
end
theorem colS_R (hi : injM m = true) : ColS m (fun _ => True) s col (colR m col) := ⟨fun b hb => colR_none hb, fun b r q h hb h0 hi => colR_some hb h0 hi, fun r b q hv _ h0 hb => by
  cases hi' : invM r m with
  | none => simp [colR, hb, h0, hi']
  | some h => exact absurd (of_inv hi hi') (hasV_no hv h), fun b h q hb h0 => by
  rcases colR_of hb with ⟨h1, _⟩ | ⟨r, h1, h2, h3⟩
  · exact absurd h1 h0
  · exact ⟨r, h1, h3, h2⟩⟩
theorem Rel.sub (hr : Rel c s a w col lk) (hs : SubM m s s2) : Rel c s2 a w (colR m col) (lkR m lk) := by
  have hc2 : ColS m (fun _ => True) s col (colR m col) := colS_R hs.inj
  refine ⟨⟨hr.inv.os, hr.inv.tape, hr.inv.output, hr.inv.size, fun b hb ho => ?_, fun b x hx => ?_⟩, hr.n.trans hs.n, fun t v ht => ?_, fun h n e p2 hp => sub_rt hr hs hc2 hp, fun b h q hb h0 => sub_cl hs hc2 hb h0, fun h v hv => sub_ln hs hv, sub_z hs, hr.df, fun h v hv hp => ?_⟩
  · have h1 := hr.inv.old b hb ho
    refine ⟨h1.1, ?_⟩
    rcases ho with ho | ho <;> rw [ho] at h1 ⊢
    · exact colR_none h1.2
    · simp [colR, h1.2]
  · obtain ⟨h, q⟩ := x
    rcases colR_of hx with ⟨_, h1⟩ | ⟨r, _, h1, _⟩ <;> exact hr.inv.live b _ h1
  · obtain ⟨u, h1, h2⟩ := subV_get hs.tm ht
    obtain ⟨h3, h4⟩ := hr.tm t u h1
    exact ⟨hs.n ▸ h3, cvV_rep hr hs hc2 u v h2 h4⟩
  · unfold lkR at hv
    cases hm : lookup m h with
    | none => rw [hm] at hv; cases hv
    | some y =>
      obtain rfl := key_fix hs.inj hm hp
      rw [hm] at hv
      exact hr.pr h v hv hp
theorem Rels.sub (h : Rels c s a w) (hs : Sub s s2) : Rels c s2 a w := by
  obtain ⟨col, lk, h⟩ := h
  obtain ⟨m, hs⟩ := hs
  exact ⟨_, _, h.sub hs⟩
end
end Go.Vm

/- Contracts of calls over pure contents. -/
set_option linter.unusedVariables false
set_option linter.unusedSimpArgs false
namespace Go.Vm
open Go Go.RowKit

def ArgsRep (w : World) (col : Col) : List PV → List Value → Prop
  | [], xs => xs = []
  | p :: ps, xs => ∃ y zs, xs = y :: zs ∧ (∃ cs, Rep w col lk0 0 0 [] p cs ∧ y = toVal p cs) ∧ ArgsRep w col ps zs
def resVal : List Value → Value
  | [u] => u
  | ys => .tuple ys.toArray
def ResRep (w : World) (col : Col) (ps : List PV) (y : Value) : Prop :=
  ∃ ys, ArgsRep w col ps ys ∧ y = resVal ys
def Enters (P : Program) (f : FuncId) : Prop := ∃ fn, P.funcs[f]? = some fn ∧ fn.body.isSome = true ∧ (fn.name == "runtime.NumGoroutine") = false
/-- A call with these contents, only read, ends with these, that are only read then. -/
def CallV (P : Program) (f : FuncId) (args : List PV) (res : List PV) : Prop :=
  Enters P f ∧ ∀ (xs : List Value) (w : World) (col0 : Col), (∀ b, Old (col0 b)) → (∀ b x, col0 b = some x → b < w.heap.size) → ∀ gl : GlobOk P w col0, ArgsRep w col0 args xs →
    Calls P f xs.toArray w fun e w' => ∃ y col', e = .returned y ∧ ResRep w' col' res y ∧ Inv (P := P) ⟨w, col0, lk0, gl⟩ w' col'
def flat : List PV → Bool
  | [] => true
  | .w _ :: ps => flat ps
  | _ => false
def resV : List PV → V
  | [p] => .pv p
  | ps => .tup (ps.map .pv)
/-- Names of what a callee hands back. -/
def phi (o : Oper) (h : Nat) : Nat := newId o + 10000 * (h - 1)
def psi (o : Oper) (m : Ren) (h : Nat) : Nat := match Nat.ble PN h with
  | true => match lookup m h with | some (some r) => r | _ => 0
  | false => phi o h
mutual
def renV (f : Nat → Nat) : V → V
  | .pv p => .pv p
  | .any => .any
  | .row c => .row (f c)
  | .win c o l => .win (f c) o l
  | .el c i o => .el (f c) i o
  | .bx c o => .bx (f c) o
  | .agg vs => .agg (renVs f vs)
  | .tup vs => .tup (renVs f vs)
  | .fn g vs => .fn g (renVs f vs)
def renVs (f : Nat → Nat) : List V → List V
  | [] => []
  | v :: vs => renV f v :: renVs f vs
end
def resU : List V → V
  | [v] => v
  | vs => .tup vs
def backU (rr : List (Nat × Root)) : Ren → List (Nat × Root)
  | [] => []
  | (h, some r) :: m => (r, match Nat.ble PN h with | true => (match lookup rr h with | some x => x | none => none) | false => none) :: backU rr m
  | (_, none) :: m => backU rr m
def newU (o : Oper) : List (Nat × Root) → List (Nat × Root)
  | [] => []
  | (h, x) :: l => match Nat.ble PN h with | true => newU o l | false => (phi o h, x) :: newU o l
def nodupK : List (Nat × Root) → Bool
  | [] => true
  | (r, _) :: l => (match lookup l r with | none => true | some _ => false) && nodupK l
def shapeB : PV → PV → Bool
  | .sl k _, .sl k' _ => Nat.beq k k'
  | .ptr _, .ptr _ => true
  | _, _ => false
def okR (s : St) (o : Oper) (m : Ren) (ar : List (Nat × Root)) : List (Nat × Root) → Bool
  | [] => true
  | (h, some (_, _, p)) :: l => (Nat.blt 0 h && noLinks p) && (match Nat.ble PN h with
      | true => (match lookup m h, lookup ar h with | some (some _), some (some (_, _, p2)) => shapeB p2 p | _, _ => false)
      | false => (match lookup s.roots (phi o h), newId o with | none, _ + 1 => Nat.blt (phi o h) PN && hasN (phi o h) (newIds o) | _, _ => false)) && okR s o m ar l
  | _ => false
def livB (rs : List (Nat × Root)) : List Nat → Bool
  | [] => true
  | c :: cs => (match lookup rs c with | some (some _) => true | _ => false) && livB rs cs
def St.frz (s : St) (fz : List Nat) : St := { s with roots := appUps (Vm.frz s.roots fz) s.roots }
def idxT : Nat → List V → List (Nat × V)
  | _, [] => []
  | i, v :: vs => (i, v) :: idxT (i + 1) vs
/-- What is handed in, as the contract has it. -/
structure PassOk (s : St) (m : Ren) (fz : List Nat) (vs args : List V) (ar : List (Nat × Root)) : Prop where
  inj : injM m = true
  rt : subR (s.frz fz) m m ar
  av : cvVs (s.frz fz) m (fun r => hasN r fz = true) vs args
/-- A contract with what is owned handed in, and handed back. -/
def CallG (P : Program) (f : FuncId) (args : List V) (ar : List (Nat × Root)) (res : List V) (rr : List (Nat × Root)) : Prop :=
  Enters P f ∧ ∀ (xs : List Value) (w : World) (col0 : Col) (lkI : Lk) (gl : GlobOk P w col0), Rel (P := P) ⟨w, col0, lkI, gl⟩ ⟨0, [], ar⟩ ⟨#[], []⟩ w col0 lkI → VRepL w col0 lkI ar args xs →
    Calls P f xs.toArray w fun e w' => ∃ y ys col' lk', e = .returned y ∧ y = resVal ys ∧ Rel (P := P) ⟨w, col0, lkI, gl⟩ ⟨0, [], rr⟩ ⟨#[], []⟩ w' col' lk' ∧ VRepL w' col' lk' rr res ys
def effG (s : St) (o : Oper) (m : Ren) (fz : List Nat) (res : List V) (rr : List (Nat × Root)) : Eff :=
  ⟨renV (psi o m) (resU res), frz s.roots fz ++ (backU rr m ++ newU o rr)⟩
/-- A call, by its contract. -/
inductive Cal (P : Program) (s : St) (o : Oper) (g : FuncId) (vs : List V) (K : Eff → Prop) : Prop
  | mk (ps : List PV) (cs : List Nat) (res : List PV) (h : CallV P g ps res) (hp : pvsOf s.roots vs = some (ps, cs)) (k : K ⟨resV res, match flat res with | true => [] | false => frz s.roots cs⟩) : Cal P s o g vs K
  | gen (m : Ren) (fz : List Nat) (args : List V) (ar : List (Nat × Root)) (res : List V) (rr : List (Nat × Root)) (h : CallG P g args ar res rr) (hp : PassOk s m fz vs args ar)
      (hk : (okR s o m ar rr && nodupK rr && nodupK (backU rr m ++ newU o rr) && livB s.roots fz) = true) (k : K (effG s o m fz res rr)) : Cal P s o g vs K
/-- A function value. -/
def fnV : V → Option (FuncId × List V)
  | .fn g caps => some (g, caps)
  | .pv (.fn g caps) => match noAgg caps with | true => some (g, caps.map .pv) | false => none
  | _ => none
def evF (s : St) (f : Operand) : Option (FuncId × List V) := match ev s f with | some v => fnV v | none => none
def vcall (P : Program) (s : St) (o : Oper) (f : Operand) (xs : List Operand) (K : Eff → Prop) : Prop :=
  match evF s f, evs s xs with
  | some (g, caps), some vs => Cal P s o g (vs ++ caps) K
  | _, _ => False
def callOf : Op → Option (Operand × List Operand)
  | .call cl => match cl.callee with
    | .value f => some (f, cl.args.toList)
    | _ => none
  | _ => none
/-- What one operation does, told to whoever goes on. -/
def vop (P : Program) (T : Tab) (s : St) (o : Oper) (K : Eff → Prop) : Prop :=
  match callOf o.op with
  | some (f, xs) => vcall P s o f xs K
  | none => match stepP T s o with
    | some out => out.cps K
    | none => False
def St.app (s : St) (dst : Option Nat) (e : Eff) : St :=
  { s with tmps := (match dst with | some d => putL d e.v s.tmps | none => s.tmps), roots := appUps e.ups s.roots }
def dstOk (s : St) : Option Nat → Bool
  | none => true
  | some d => Nat.blt d s.n

theorem Out.cps_eff {K : Eff → Prop} {o : Out} (h : o.cps K) : ∃ v, o.cps (fun u => u = v) ∧ K v := by
  match o, h with
  | .val none v, h => exact ⟨v, rfl, h⟩
  | .val (some p) v, ⟨h1, h⟩ => exact ⟨v, ⟨h1, rfl⟩, h⟩
  | .br (.tst b), .yes h0 h => exact ⟨_, .yes h0 rfl, h⟩
  | .br (.tst b), .no h0 h => exact ⟨_, .no h0 rfl, h⟩
  | .br (.val none u), h => exact ⟨_, rfl, h⟩
  | .br (.val (some p) u), ⟨h1, h⟩ => exact ⟨_, ⟨h1, rfl⟩, h⟩
  | .br (.num none k e), ⟨h0, z, e1, h⟩ => exact ⟨_, ⟨h0, z, e1, rfl⟩, h⟩
  | .br (.num (some p) k e), ⟨h1, z, e1, h⟩ => exact ⟨_, ⟨h1, z, e1, rfl⟩, h⟩
  | .elt ob xs i f, ⟨h1, p, h2, h⟩ =>
    split at h
    · rename_i e he
      exact ⟨e, ⟨h1, p, h2, by rw [he]⟩, h⟩
    · exact h.elim
  | .row ob xs f, ⟨h1, ys, h2, h⟩ => exact ⟨_, ⟨h1, ys, h2, rfl⟩, h⟩
  | .alt a b, .l h => obtain ⟨v, h1, h2⟩ := Out.cps_eff (o := a) h; exact ⟨v, .l h1, h2⟩
  | .alt a b, .r h => obtain ⟨v, h1, h2⟩ := Out.cps_eff (o := b) h; exact ⟨v, .r h1, h2⟩
  | .bytes xs, ⟨b, h1, h⟩ => exact ⟨_, ⟨b, h1, rfl⟩, h⟩
theorem vop_eff {P : Program} {T : Tab} {s : St} {o : Oper} {K : Eff → Prop} (h : vop P T s o K) : ∃ e, vop P T s o (fun u => u = e) ∧ K e := by
  unfold vop at h ⊢
  split at h
  · unfold vcall at h ⊢
    split at h
    · cases h with
      | mk ps cs res h hp k => exact ⟨_, .mk ps cs res h hp rfl, k⟩
      | gen m fz args ar res rr h hp hk k => exact ⟨_, .gen m fz args ar res rr h hp hk rfl, k⟩
    · exact h.elim
  · split at h
    · exact Out.cps_eff h
    · exact h.elim
section
variable {P : Program} {T : Tab} {c : Ctx P} {s s' : St} {a : Act} {w : World} {col : Col} {lk : Lk}
theorem evF_mono (hs : s.Le s') {f : Operand} {r : FuncId × List V} (h : evF s f = some r) : evF s' f = some r := by
  unfold evF at h ⊢
  split at h
  · rename_i v hv; rw [ev_mono hs hv]; exact h
  · cases h
theorem livB_ok {rs : List (Nat × Root)} : ∀ {cs : List Nat}, livB rs cs = true → Living rs cs
  | [], _, c, hc => by cases hc
  | c :: cs, h, d, hd => by
    simp only [livB, Bool.and_eq_true] at h
    rcases List.mem_cons.1 hd with rfl | hd
    · have h1 := h.1
      split at h1
      · rename_i x hx; exact ⟨_, hx⟩
      · cases h1
    · exact livB_ok h.2 d hd
theorem livB_mono {rs rs' : List (Nat × Root)} (hr : RsLe rs rs') : ∀ {cs : List Nat}, livB rs cs = true → livB rs' cs = true
  | [], _ => rfl
  | c :: cs, h => by
    simp only [livB, Bool.and_eq_true] at h ⊢
    refine ⟨?_, livB_mono hr h.2⟩
    have h1 := h.1
    split at h1
    · rename_i x hx; rw [hr _ _ hx]
    · cases h1
theorem frz_le (hs : s.Le s') {fz : List Nat} (hl : Living s.roots fz) : (s.frz fz).Le (s'.frz fz) := ⟨hs.n, hs.tm, fun r x hx => by
  simp only [St.frz, lookup_frz] at hx ⊢
  split at hx
  · rename_i hm
    rw [if_pos hm]
    obtain ⟨y, hy⟩ := hl r hm
    rw [hy] at hx
    rw [hs.rt _ _ hy]
    exact hx
  · rename_i hm
    rw [if_neg hm]
    exact hs.rt _ _ hx⟩
theorem subR_mono {M : Ren} (hs : RsLe s.roots s'.roots) : ∀ {m : Ren} {l : List (Nat × Root)}, subR s M m l → subR s' M m l
  | [], [], _ => trivial
  | (h, some r) :: m, (h', some (n, e, p2)) :: l, hh => by
    simp only [subR] at hh ⊢
    refine ⟨hh.1, ?_, subR_mono hs hh.2.2⟩
    have h1 := hh.2.1
    split at h1
    · rename_i hl; rw [hs _ _ hl]; exact h1
    · exact h1.elim
  | (h, none) :: m, (h', some (n, e, p2)) :: l, hh => by
    simp only [subR] at hh ⊢
    exact ⟨hh.1, hh.2.1, hh.2.2.1, subR_mono hs hh.2.2.2⟩
  | [], _ :: _, hh => by simp [subR] at hh
  | (_, some _) :: _, [], hh => by simp [subR] at hh
  | (_, none) :: _, [], hh => by simp [subR] at hh
  | (_, some _) :: _, (_, none) :: _, hh => by simp [subR] at hh
  | (_, none) :: _, (_, none) :: _, hh => by simp [subR] at hh
mutual
theorem cvV_mono {m : Ren} {F : Nat → Prop} (hs : RsLe s.roots s'.roots) : ∀ (u v : V), cvV s m F u v → cvV s' m F u v
  | .row r, v, hc => by
    simp only [cvV] at hc ⊢
    split at hc
    · exact hc
    · refine ⟨?_, hc.2⟩
      have h1 := hc.1
      split at h1
      · rename_i hl; rw [hs _ _ hl]; exact h1
      · exact h1.elim
    · exact hc.elim
  | .bx r o, v, hc => by simpa only [cvV] using hc
  | .el r i o, v, hc => by simpa only [cvV] using hc
  | .pv p, v, hc => by simpa only [cvV] using hc
  | .agg vs, v, hc => by
    simp only [cvV] at hc ⊢
    split at hc
    · exact cvVs_mono hs _ _ hc
    · exact cvVs_mono hs _ _ hc
    · exact hc.elim
  | .fn f vs, v, hc => by
    simp only [cvV] at hc ⊢
    split at hc
    · exact ⟨hc.1, cvVs_mono hs _ _ hc.2⟩
    · exact ⟨hc.1, hc.2.1, cvVs_mono hs _ _ hc.2.2⟩
    · exact hc.elim
  | .any, v, hc => by simp [cvV] at hc
  | .win .., v, hc => by simp [cvV] at hc
  | .tup .., v, hc => by simp [cvV] at hc
theorem cvVs_mono {m : Ren} {F : Nat → Prop} (hs : RsLe s.roots s'.roots) : ∀ (vs us : List V), cvVs s m F vs us → cvVs s' m F vs us
  | [], us, hc => by simpa only [cvVs] using hc
  | v :: vs, [], hc => by simp [cvVs] at hc
  | v :: vs, u :: us, hc => by
    simp only [cvVs] at hc ⊢
    exact ⟨cvV_mono hs v u hc.1, cvVs_mono hs vs us hc.2⟩
end
theorem okR_mono {o : Oper} {m : Ren} {ar : List (Nat × Root)} (hs : s.LeO o s') : ∀ {l : List (Nat × Root)}, okR s o m ar l = true → okR s' o m ar l = true
  | [], _ => rfl
  | (h, none) :: l, hh => by simp [okR] at hh
  | (h, some (n, e, p)) :: l, hh => by
    simp only [okR, Bool.and_eq_true] at hh ⊢
    refine ⟨⟨hh.1.1, ?_⟩, okR_mono hs hh.2⟩
    have h1 := hh.1.2
    split at h1
    · exact h1
    · split at h1
      · rename_i k hl hn
        simp only [Bool.and_eq_true, hasN_iff] at h1
        rw [hs.new _ h1.2 hl, hn]
        simp only [Bool.and_eq_true, hasN_iff]
        exact h1
      · cases h1
theorem vop_mono {o : Oper} (hs : s.LeO o s') {K : Eff → Prop} (h : vop P T s o K) : vop P T s' o K := by
  unfold vop at h ⊢
  split at h
  · unfold vcall at h ⊢
    split at h
    · rename_i g caps vs h1 h2
      rw [evF_mono hs.le h1, evs_mono hs.le h2]
      simp only
      cases h with
      | mk ps cs res h4 h3 h5 => exact .mk ps cs res h4 (pvsOf_mono hs.le.rt _ h3) (by rw [frz_mono hs.le.rt (pvsOf_living _ h3)]; exact h5)
      | gen m fz args ar res rr h4 hp hk h5 =>
        simp only [Bool.and_eq_true] at hk
        have hl := livB_ok hk.2
        refine .gen m fz args ar res rr h4 ⟨hp.inj, subR_mono (frz_le hs.le hl).rt hp.rt, cvVs_mono (frz_le hs.le hl).rt _ _ hp.av⟩ ?_ ?_
        · simp only [Bool.and_eq_true]
          exact ⟨⟨⟨okR_mono hs hk.1.1.1, hk.1.1.2⟩, hk.1.2⟩, livB_mono hs.le.rt hk.2⟩
        · unfold effG
          rw [frz_mono hs.le.rt hl]
          exact h5
    · exact h.elim
  · split at h
    · rename_i out hout
      rw [stepP_mono hs hout]
      exact h
    · exact h.elim
theorem VRepL.append {rs : List (Nat × Root)} : ∀ {vs us : List V} {ys zs : List Value}, VRepL w col lk rs vs ys → VRepL w col lk rs us zs → VRepL w col lk rs (vs ++ us) (ys ++ zs)
  | [], _, _, _, h1, h2 => by simp only [VRepL] at h1; subst h1; simpa using h2
  | v :: vs, _, _, _, h1, h2 => by
    simp only [VRepL] at h1
    obtain ⟨y, zs, rfl, h3, h4⟩ := h1
    simp only [List.cons_append, VRepL]
    exact ⟨y, _, rfl, h3, VRepL.append h4 h2⟩
/-- The colouring that a callee is told: what it may read is nobody's. -/
def calleeCol (cs : List Nat) (col : Col) : Col := fun b => match colF cs col b with | none => none | some _ => some (0, [])
theorem pvsOf_args (h : Rel c s a w col lk) {cs : List Nat} : ∀ (vs : List V) {ys : List Value} {ps : List PV} {ds : List Nat}, VRepL w col lk s.roots vs ys → pvsOf s.roots vs = some (ps, ds) → (∀ d ∈ ds, d ∈ cs) → ArgsRep w (calleeCol cs col) ps ys
  | [], ys, ps, ds, hv, hp, hs => by
    simp only [pvsOf, Option.some.injEq, Prod.mk.injEq] at hp
    obtain ⟨rfl, rfl⟩ := hp
    simpa only [VRepL, ArgsRep] using hv
  | v :: vs, ys, ps, ds, hv, hp, hs => by
    simp only [pvsOf] at hp
    split at hp
    · rename_i p ds1 hp1
      split at hp
      · rename_i ps' ds2 hp2
        simp only [Option.some.injEq, Prod.mk.injEq] at hp
        obtain ⟨rfl, rfl⟩ := hp
        simp only [VRepL] at hv
        obtain ⟨y, zs, rfl, h1, h2⟩ := hv
        obtain ⟨cc, h3, rfl⟩ := pvOf_rep h v h1 hp1 fun d hd => hs d (by simp [hd])
        simp only [ArgsRep]
        refine ⟨_, zs, rfl, ⟨cc, Rep.same (fun _ _ h => h) p ⟨fun b hb hm => ⟨rfl, ?_⟩⟩ h3, rfl⟩, pvsOf_args h vs h2 hp2 fun d hd => hs d (by simp [hd])⟩
        rcases hm with hm | ⟨h0, _⟩
        · simp [calleeCol, hm]
        · exact absurd rfl h0
      · cases hp
    · cases hp
theorem ArgsRep.rep {w' : World} {col' colN : Col} {rs : List (Nat × Root)} (hs : ∀ b, col' b = none → colN b = none) : ∀ {ps : List PV} {ys : List Value}, ArgsRep w' col' ps ys → VRepL w' colN lk rs (ps.map .pv) ys
  | [], _, h => by simpa only [ArgsRep, List.map_nil, VRepL] using h
  | p :: ps, _, h => by
    simp only [ArgsRep] at h
    obtain ⟨y, zs, rfl, ⟨cs, h1, h2⟩, h3⟩ := h
    simp only [List.map_cons, VRepL, VRep]
    refine ⟨y, zs, rfl, ⟨cs, Rep.same (fun _ _ h => h) _ ⟨fun b hb hm => ⟨rfl, ?_⟩⟩ h1, h2⟩, ArgsRep.rep hs h3⟩
    rcases hm with hm | ⟨h0, _⟩
    · rw [hm]; exact hs b hm
    · exact absurd rfl h0
theorem ArgsRep.flat {w' : World} {col' colN : Col} {rs : List (Nat × Root)} : ∀ {ps : List PV} {ys : List Value}, flat ps = true → ArgsRep w' col' ps ys → VRepL w' colN lk rs (ps.map .pv) ys
  | [], _, _, h => by simpa only [ArgsRep, List.map_nil, VRepL] using h
  | p :: ps, _, hf, h => by
    simp only [ArgsRep] at h
    obtain ⟨y, zs, rfl, ⟨cs, h1, h2⟩, h3⟩ := h
    simp only [List.map_cons, VRepL, VRep]
    cases p <;> simp only [Vm.flat, Bool.false_eq_true] at hf
    exact ⟨y, zs, rfl, ⟨cs, by simpa only [Rep] using h1, h2⟩, ArgsRep.flat hf h3⟩
theorem ResRep.of {w' : World} {colN : Col} {rs : List (Nat × Root)} {ps : List PV} {ys : List Value} {y : Value} (h3 : VRepL w' colN lk rs (ps.map .pv) ys) (h2 : y = resVal ys) : VRep w' colN lk rs (resV ps) y := by
  match ps, h3 with
  | [], h3 =>
    simp only [List.map_nil, VRepL] at h3
    subst h3
    simp only [resVal] at h2
    simp only [resV, VRep, List.map_nil]
    exact ⟨[], by simp [VRepL], h2⟩
  | [p], h3 =>
    simp only [List.map_cons, List.map_nil, VRepL] at h3
    obtain ⟨u, zs, rfl, h4, rfl⟩ := h3
    simp only [resVal] at h2
    subst h2
    exact h4
  | p :: q :: ps, h3 =>
    have : resV (p :: q :: ps) = .tup ((p :: q :: ps).map .pv) := rfl
    rw [this]
    simp only [VRep]
    refine ⟨ys, h3, ?_⟩
    simp only [List.map_cons, VRepL] at h3
    obtain ⟨u, zs, rfl, _, u2, zs2, rfl, _⟩ := h3
    exact h2
theorem RepL.vals {lk' : Lk} {rs : List (Nat × Root)} {r n : Nat} {pos : List Nat} : ∀ {ps : List PV} {i : Nat} {vs : List Value}, noAgg ps = true → RepL w col lk0 r 0 pos i ps vs → VRepL w col lk' rs (ps.map .pv) vs
  | [], i, vs, _, h => by simpa only [RepL, List.map_nil, VRepL] using h
  | p :: ps, i, vs, hn, h => by
    simp only [RepL] at h
    obtain ⟨c, d, rfl, h1, h2⟩ := h
    have hl := Rep.len _ h1
    have hn' : noAgg ps = true ∧ c = [toVal p c] := by
      cases p <;> simp only [noAgg, reduceCtorEq] at hn <;> refine ⟨hn, ?_⟩ <;> simp only [sz] at hl <;> match c, hl with | [u], _ => rfl
    simp only [List.map_cons, VRepL, VRep]
    exact ⟨toVal p c, d, by rw [← List.singleton_append, ← hn'.2], ⟨c, Rep.move p h1, rfl⟩, RepL.vals (n := n) hn'.1 h2⟩
theorem fnV_ok {v : V} {rs : List (Nat × Root)} {y : Value} {g : FuncId} {caps : List V} (h : fnV v = some (g, caps)) (hv : VRep w col lk rs v y) : ∃ ys, VRepL w col lk rs caps ys ∧ y = .func (.func g) #[] ys.toArray := by
  unfold fnV at h
  split at h
  · simp only [Option.some.injEq, Prod.mk.injEq] at h
    obtain ⟨rfl, rfl⟩ := h
    simpa only [VRep] using hv
  · split at h
    · rename_i hn
      simp only [Option.some.injEq, Prod.mk.injEq] at h
      obtain ⟨rfl, rfl⟩ := h
      simp only [VRep, Rep] at hv
      obtain ⟨cs, ⟨vs, rfl, h1⟩, rfl⟩ := hv
      exact ⟨vs, RepL.vals (n := 0) hn h1, rfl⟩
    · cases h
  · cases h
theorem evF_ok {f : Operand} {g : FuncId} {caps : List V} (h : evF s f = some (g, caps)) (hr : Rel c s a w col lk) : ∃ ys, VRepL w col lk s.roots caps ys ∧ a.eval f = .func (.func g) #[] ys.toArray := by
  unfold evF at h
  split at h
  · rename_i v hv; exact fnV_ok h (ev_rep hr hv)
  · cases h
theorem lookup_mem {α : Type} : ∀ {l : List (Nat × α)} {r : Nat} {x : α}, lookup l r = some x → (r, x) ∈ l
  | [], _, _, h => by simp [lookup] at h
  | (r', x') :: l, r, x, h => by
    rw [lookup_cons] at h
    split at h
    · rename_i he; subst he
      obtain rfl : x' = x := by simpa using h
      exact List.mem_cons_self
    · exact List.mem_cons_of_mem _ (lookup_mem h)
theorem mem_lookup : ∀ {l : List (Nat × Root)} {r : Nat} {x : Root}, nodupK l = true → (r, x) ∈ l → lookup l r = some x
  | [], _, _, _, h => by cases h
  | (r', x') :: l, r, x, hn, h => by
    simp only [nodupK, Bool.and_eq_true] at hn
    rw [lookup_cons]
    rcases List.mem_cons.1 h with h | h
    · obtain ⟨rfl, rfl⟩ : r = r' ∧ x = x' := by simpa using h
      simp
    · have := mem_lookup hn.2 h
      split
      · rename_i he
        subst he
        rw [this] at hn
        simp at hn
      · exact this
theorem lookup_nodup : ∀ {us : List (Nat × Root)} {rs : List (Nat × Root)} {r : Nat}, nodupK us = true → lookup (appUps us rs) r = match lookup us r with | some x => some x | none => lookup rs r
  | [], rs, r, _ => rfl
  | (r0, x0) :: us, rs, r, hn => by
    simp only [nodupK, Bool.and_eq_true] at hn
    simp only [appUps]
    rw [lookup_nodup hn.2, lookup_cons, lookup_put]
    by_cases h : r0 = r
    · subst h
      have h1 := hn.1
      split at h1
      · rename_i h2; simp [h2]
      · cases h1
    · simp [h]
theorem injM_lookup : ∀ {m : Ren} {h : Nat} {x : Option Nat}, injM m = true → (h, x) ∈ m → lookup m h = some x
  | [], _, _, _, hm => by cases hm
  | (h', some r') :: m, h, x, hi, hm => by
    simp only [injM, Bool.and_eq_true, Bool.not_eq_true'] at hi
    rw [lookup_cons]
    rcases List.mem_cons.1 hm with hm | hm
    · obtain ⟨rfl, rfl⟩ : h = h' ∧ x = some r' := by simpa using hm
      simp
    · have := injM_lookup hi.2 hm
      split
      · rename_i he
        subst he
        rw [hasK_no hi.1.1.2] at this
        cases this
      · exact this
  | (h', none) :: m, h, x, hi, hm => by
    simp only [injM, Bool.and_eq_true, Bool.not_eq_true'] at hi
    rw [lookup_cons]
    rcases List.mem_cons.1 hm with hm | hm
    · obtain ⟨rfl, rfl⟩ : h = h' ∧ x = none := by simpa using hm
      simp
    · have := injM_lookup hi.2 hm
      split
      · rename_i he
        subst he
        rw [hasK_no hi.1.2] at this
        cases this
      · exact this
/-- What becomes of what was handed in. -/
def backX (rr : List (Nat × Root)) (h : Nat) : Root := match Nat.ble PN h with | true => (match lookup rr h with | some x => x | none => none) | false => none
theorem backU_mem {rr : List (Nat × Root)} : ∀ {m : Ren} {r : Nat} {x : Root}, (r, x) ∈ backU rr m → ∃ h, (h, some r) ∈ m ∧ x = backX rr h
  | [], _, _, h => by cases h
  | (h', some r') :: m, r, x, hm => by
    simp only [backU] at hm
    rcases List.mem_cons.1 hm with hm | hm
    · obtain ⟨rfl, rfl⟩ : r = r' ∧ x = backX rr h' := by simpa [backX] using hm
      exact ⟨h', List.mem_cons_self, rfl⟩
    · obtain ⟨h, h1, h2⟩ := backU_mem hm
      exact ⟨h, List.mem_cons_of_mem _ h1, h2⟩
  | (h', none) :: m, r, x, hm => by
    simp only [backU] at hm
    obtain ⟨h, h1, h2⟩ := backU_mem hm
    exact ⟨h, List.mem_cons_of_mem _ h1, h2⟩
theorem mem_backU {rr : List (Nat × Root)} : ∀ {m : Ren} {h r : Nat}, (h, some r) ∈ m → (r, backX rr h) ∈ backU rr m
  | [], _, _, h => by cases h
  | (h', some r') :: m, h, r, hm => by
    simp only [backU]
    rcases List.mem_cons.1 hm with hm | hm
    · obtain ⟨rfl, rfl⟩ : h = h' ∧ r = r' := by simpa using hm
      exact List.mem_cons_self
    · exact List.mem_cons_of_mem _ (mem_backU hm)
  | (h', none) :: m, h, r, hm => by
    simp only [backU]
    rcases List.mem_cons.1 hm with hm | hm
    · simp at hm
    · exact mem_backU hm
theorem newU_mem {o : Oper} : ∀ {rr : List (Nat × Root)} {r : Nat} {x : Root}, (r, x) ∈ newU o rr → ∃ h, (h, x) ∈ rr ∧ Nat.ble PN h = false ∧ r = phi o h
  | [], _, _, h => by cases h
  | (h', x') :: rr, r, x, hm => by
    simp only [newU] at hm
    split at hm
    · obtain ⟨h, h1, h2⟩ := newU_mem hm
      exact ⟨h, List.mem_cons_of_mem _ h1, h2⟩
    · rename_i hb
      rcases List.mem_cons.1 hm with hm | hm
      · obtain ⟨rfl, rfl⟩ : r = phi o h' ∧ x = x' := by simpa using hm
        exact ⟨h', List.mem_cons_self, hb, rfl⟩
      · obtain ⟨h, h1, h2⟩ := newU_mem hm
        exact ⟨h, List.mem_cons_of_mem _ h1, h2⟩
theorem mem_newU {o : Oper} : ∀ {rr : List (Nat × Root)} {h : Nat} {x : Root}, (h, x) ∈ rr → Nat.ble PN h = false → (phi o h, x) ∈ newU o rr
  | [], _, _, h, _ => by cases h
  | (h', x') :: rr, h, x, hm, hb => by
    simp only [newU]
    rcases List.mem_cons.1 hm with hm | hm
    · obtain ⟨rfl, rfl⟩ : h = h' ∧ x = x' := by simpa using hm
      rw [hb]
      exact List.mem_cons_self
    · split
      · exact mem_newU hm hb
      · exact List.mem_cons_of_mem _ (mem_newU hm hb)
structure OkR1 (s : St) (o : Oper) (m : Ren) (ar : List (Nat × Root)) (h n e : Nat) (p : PV) : Prop where
  pos : 0 < h
  nl : noLinks p = true
  old : PN ≤ h → ∃ r n2 e2 p2, lookup m h = some (some r) ∧ lookup ar h = some (some (n2, e2, p2)) ∧ shapeB p2 p = true
  new : Nat.ble PN h = false → lookup s.roots (phi o h) = none ∧ newId o ≠ 0 ∧ phi o h < PN
theorem okR_get {o : Oper} {m : Ren} {ar : List (Nat × Root)} : ∀ {l : List (Nat × Root)} {h : Nat} {x : Root}, okR s o m ar l = true → (h, x) ∈ l → ∃ n e p, x = some (n, e, p) ∧ OkR1 s o m ar h n e p
  | [], _, _, _, hm => by cases hm
  | (h', none) :: l, _, _, hk, _ => by simp [okR] at hk
  | (h', some (n, e, p)) :: l, h, x, hk, hm => by
    simp only [okR, Bool.and_eq_true] at hk
    rcases List.mem_cons.1 hm with hm | hm
    · obtain ⟨rfl, rfl⟩ : h = h' ∧ x = some (n, e, p) := by simpa using hm
      refine ⟨n, e, p, rfl, Nat.le_of_ble_eq_true hk.1.1.1, hk.1.1.2, fun hp => ?_, fun hp => ?_⟩
      · have h1 := hk.1.2
        rw [Nat.ble_eq_true_of_le hp] at h1
        simp only at h1
        split at h1
        · rename_i r n2 e2 p2 h2 h3; exact ⟨r, n2, e2, p2, h2, h3, h1⟩
        · cases h1
      · have h1 := hk.1.2
        rw [hp] at h1
        simp only at h1
        split at h1
        · rename_i k h2 h3
          simp only [Bool.and_eq_true] at h1
          exact ⟨h2, by omega, Nat.le_of_ble_eq_true h1.1⟩
        · cases h1
    · exact okR_get hk.2 hm
theorem phi_inj {o : Oper} {h h' : Nat} (h0 : 0 < h) (h1 : 0 < h') (e : phi o h = phi o h') : h = h' := by
  unfold phi at e; omega
theorem shape_of {n e n' e' n2 e2 : Nat} {m : Ren} {p p2 p3 : PV} (h1 : cvR m p p2) (h2 : shapeB p2 p3 = true) : shape (some (n, e, p)) (some (n', e', p3)) := by
  cases p with
  | sl k xs =>
    simp only [cvR] at h1
    subst h1
    cases p3 <;> simp only [shapeB, Bool.false_eq_true] at h2
    simp only [beqT, decide_eq_true_eq] at h2
    simpa [shape] using h2
  | ptr p =>
    cases p2 with
    | ptr q => cases p3 <;> simp only [shapeB, Bool.false_eq_true] at h2; simp [shape]
    | _ => simp [cvR] at h1
  | _ => simp [cvR] at h1
/-- What a callee is told of the blocks: what is handed in, by its names there; the rest is another's. -/
def colC (m : Ren) (col : Col) : Col := fun b => match col b with
  | none => none
  | some (r, q) => match invM r m with | some h => some (h, q) | none => some (0, [])
/-- The blocks, behind the call. -/
def colN (o : Oper) (m : Ren) (w : World) (col col' : Col) : Col := fun b => match col' b with
  | none => none
  | some (h, q) => if h = 0 then (match (if b < w.heap.size then col b else none) with | some (r, q') => (match invM r m with | none => some (r, q') | some _ => none) | none => none) else some (psi o m h, q)
def newOf (o : Oper) : List (Nat × Root) → Nat → Option Nat
  | [], _ => none
  | (h, _) :: l, r => match !(Nat.ble PN h) && Nat.beq (phi o h) r with | true => some h | false => newOf o l r
theorem newOf_some {o : Oper} : ∀ {l : List (Nat × Root)} {r h : Nat}, newOf o l r = some h → (∃ x, (h, x) ∈ l) ∧ Nat.ble PN h = false ∧ phi o h = r
  | [], _, _, h => by simp [newOf] at h
  | (h', x) :: l, r, h, hn => by
    simp only [newOf] at hn
    split at hn
    · rename_i hb
      simp only [Bool.and_eq_true, Bool.not_eq_true', beqT, decide_eq_true_eq] at hb
      obtain rfl : h' = h := by simpa using hn
      exact ⟨⟨x, List.mem_cons_self⟩, hb.1, hb.2⟩
    · obtain ⟨⟨y, h1⟩, h2⟩ := newOf_some hn
      exact ⟨⟨y, List.mem_cons_of_mem _ h1⟩, h2⟩
theorem newOf_mem {o : Oper} : ∀ {l : List (Nat × Root)} {h : Nat} {x : Root}, (h, x) ∈ l → Nat.ble PN h = false → (∀ h' x', (h', x') ∈ l → 0 < h') → newOf o l (phi o h) = some h
  | [], _, _, hm, _, _ => by cases hm
  | (h', x') :: l, h, x, hm, hb, hp => by
    simp only [newOf]
    split
    · rename_i hc
      simp only [Bool.and_eq_true, Bool.not_eq_true', beqT, decide_eq_true_eq] at hc
      have h1 := hp h' x' List.mem_cons_self
      have h2 := hp h x hm
      rw [phi_inj h1 h2 hc.2]
    · rename_i hc
      rcases List.mem_cons.1 hm with hm | hm
      · obtain ⟨rfl, rfl⟩ : h = h' ∧ x = x' := by simpa using hm
        simp [hb, beqT] at hc
      · exact newOf_mem hm hb fun h' x' hm' => hp h' x' (List.mem_cons_of_mem _ hm')
def lkN (o : Oper) (rr : List (Nat × Root)) (lk lk' : Lk) : Lk := fun r => match newOf o rr r with | some h => lk' h | none => lk r
mutual
theorem renV_rep {w' : World} {col' colM : Col} {lk' lkM : Lk} {rr N : List (Nat × Root)} {f : Nat → Nat} (hc : ∀ b, col' b = none → colM b = none)
    (hl : ∀ h x, lookup rr h = some x → ∃ y, x = some y ∧ lookup N (f h) = some (some y) ∧ ∀ v, lk' h = some v → lkM (f h) = some v) : ∀ (v : V) {y : Value}, VRep w' col' lk' rr v y → VRep w' colM lkM N (renV f v) y
  | .pv p, y, h => by
    simp only [renV, VRep] at h ⊢
    obtain ⟨cs, h1, h2⟩ := h
    exact ⟨cs, Rep.same (fun _ _ h => h) p ⟨fun b hb hm => ⟨rfl, by
      rcases hm with hm | ⟨h0, _⟩
      · rw [hm, hc b hm]
      · exact absurd rfl h0⟩⟩ h1, h2⟩
  | .any, y, h => by simp only [renV, VRep]
  | .row c, y, h => by
    simp only [renV, VRep] at h ⊢
    cases hx : lookup rr c with
    | none => simp [onRow, hx] at h
    | some x =>
      obtain ⟨⟨n, e, p⟩, rfl, h1, h2⟩ := hl c x hx
      cases p with
      | sl k xs => simp only [onRow, hx] at h; simp only [onRow, h1]; exact h2 _ h
      | _ => simp [onRow, hx] at h
  | .win c o l, y, h => by
    simp only [renV, VRep] at h ⊢
    cases hx : lookup rr c with
    | none => simp [onRow, hx] at h
    | some x =>
      obtain ⟨⟨n, e, p⟩, rfl, h1, h2⟩ := hl c x hx
      cases p with
      | sl k xs =>
        simp only [onRow, hx] at h
        simp only [onRow, h1]
        obtain ⟨A, m, cap, h3, h4⟩ := h
        exact ⟨A, m, cap, h2 _ h3, h4⟩
      | _ => simp [onRow, hx] at h
  | .el c i o, y, h => by
    simp only [renV, VRep] at h ⊢
    cases hx : lookup rr c with
    | none => simp [onRow, hx] at h
    | some x =>
      obtain ⟨⟨n, e, p⟩, rfl, h1, h2⟩ := hl c x hx
      cases p with
      | sl k xs =>
        simp only [onRow, hx] at h
        simp only [onRow, h1]
        obtain ⟨b, m, cap, h3, h4⟩ := h
        exact ⟨b, m, cap, h2 _ h3, h4⟩
      | _ => simp [onRow, hx] at h
  | .bx c o, y, h => by
    simp only [renV, VRep] at h ⊢
    cases hx : lookup rr c with
    | none => simp [onBx, hx] at h
    | some x =>
      obtain ⟨⟨n, e, p⟩, rfl, h1, h2⟩ := hl c x hx
      cases p with
      | ptr p =>
        simp only [onBx, hx] at h
        simp only [onBx, h1]
        obtain ⟨b, h3, h4⟩ := h
        exact ⟨b, h2 _ h3, h4⟩
      | _ => simp [onBx, hx] at h
  | .agg vs, y, h => by
    simp only [renV, VRep] at h ⊢
    obtain ⟨cs, h1, h2⟩ := h
    exact ⟨cs, renV_cells hc hl vs h1, h2⟩
  | .tup vs, y, h => by
    simp only [renV, VRep] at h ⊢
    obtain ⟨cs, h1, h2⟩ := h
    exact ⟨cs, renV_reps hc hl vs h1, h2⟩
  | .fn g vs, y, h => by
    simp only [renV, VRep] at h ⊢
    obtain ⟨cs, h1, h2⟩ := h
    exact ⟨cs, renV_reps hc hl vs h1, h2⟩
theorem renV_reps {w' : World} {col' colM : Col} {lk' lkM : Lk} {rr N : List (Nat × Root)} {f : Nat → Nat} (hc : ∀ b, col' b = none → colM b = none)
    (hl : ∀ h x, lookup rr h = some x → ∃ y, x = some y ∧ lookup N (f h) = some (some y) ∧ ∀ v, lk' h = some v → lkM (f h) = some v) : ∀ (vs : List V) {ys : List Value}, VRepL w' col' lk' rr vs ys → VRepL w' colM lkM N (renVs f vs) ys
  | [], _, h => by simpa only [renVs, VRepL] using h
  | v :: vs, _, h => by
    simp only [renVs, VRepL] at h ⊢
    obtain ⟨y, zs, rfl, h1, h2⟩ := h
    exact ⟨y, zs, rfl, renV_rep hc hl v h1, renV_reps hc hl vs h2⟩
theorem renV_cells {w' : World} {col' colM : Col} {lk' lkM : Lk} {rr N : List (Nat × Root)} {f : Nat → Nat} (hc : ∀ b, col' b = none → colM b = none)
    (hl : ∀ h x, lookup rr h = some x → ∃ y, x = some y ∧ lookup N (f h) = some (some y) ∧ ∀ v, lk' h = some v → lkM (f h) = some v) : ∀ (vs : List V) {ys : List Value}, VCells w' col' lk' rr vs ys → VCells w' colM lkM N (renVs f vs) ys
  | [], _, h => by simpa only [renVs, VCells] using h
  | v :: vs, _, h => by
    simp only [renVs, VCells] at h ⊢
    obtain ⟨y, zs, rfl, h1, h2⟩ := h
    exact ⟨y, zs, rfl, renV_rep hc hl v h1, renV_cells hc hl vs h2⟩
end
theorem resU_rep {w' : World} {col' : Col} {lk' : Lk} {rs : List (Nat × Root)} {vs : List V} {ys : List Value} {y : Value} (h : VRepL w' col' lk' rs vs ys) (hy : y = resVal ys) : VRep w' col' lk' rs (resU vs) y := by
  match vs, h with
  | [], h =>
    simp only [VRepL] at h
    subst h
    simp only [resU, VRep]
    exact ⟨[], by simp [VRepL], hy⟩
  | [v], h =>
    simp only [VRepL] at h
    obtain ⟨u, zs, rfl, h1, rfl⟩ := h
    simp only [resVal] at hy
    subst hy
    exact h1
  | v :: v2 :: vs, h =>
    have h0 : resU (v :: v2 :: vs) = .tup (v :: v2 :: vs) := rfl
    rw [h0]
    simp only [VRep]
    refine ⟨ys, h, ?_⟩
    simp only [VRepL] at h
    obtain ⟨u, zs, rfl, _, u2, zs2, rfl, _⟩ := h
    exact hy
theorem gen_calls {o : Oper} {g : FuncId} {m : Ren} {fz : List Nat} {args res vs : List V} {ar rr : List (Nat × Root)} {ys : List Value} (hr0 : Rel c s a w col lk) (hcall : CallG P g args ar res rr) (hp : PassOk s m fz vs args ar)
    (hk : (okR s o m ar rr && nodupK rr && nodupK (backU rr m ++ newU o rr) && livB s.roots fz) = true) (hv0 : VRepL w col lk s.roots vs ys) :
    Calls P g ys.toArray w fun e w' => ∃ y col' lk', e = .returned y ∧ Rel c { s with roots := appUps (effG s o m fz res rr).ups s.roots } a w' col' lk' ∧ VRep w' col' lk' (appUps (effG s o m fz res rr).ups s.roots) (effG s o m fz res rr).v y := by
  simp only [Bool.and_eq_true] at hk
  obtain ⟨⟨⟨hok, hnd⟩, hndu⟩, hlive⟩ := hk
  have hliv := livB_ok hlive
  -- what is lent is frozen
  have hr := hr0.freeze fz
  have hv := VRepL.step (hr0.frz_vstep fz) vs hv0
  have hs : SubF m (fun r => hasN r fz = true) (s.frz fz) ⟨s.n, [], ar⟩ := ⟨rfl, hp.inj, hp.rt, trivial⟩
  have hrs : Rel c (s.frz fz) a w (colF fz col) lk := hr
  have hval : ∀ {r h : Nat}, invM r m = some h → lookup m h = some (some r) ∧ r ≠ 0 ∧ ∃ x, lookup (s.frz fz).roots r = some (some x) := by
    intro r h hi
    have h1 := of_inv hp.inj hi
    obtain ⟨n, e, p, p2, h2, _⟩ := name_root hs h1
    exact ⟨h1, hrs.ne0 h2, _, h2⟩
  have hcs : ColS m (fun r => hasN r fz = true) (s.frz fz) (colF fz col) (colC m (colF fz col)) := by
    refine ⟨fun b hb => by simp [colC, hb], fun b r q h hb h0 hi => by simp [colC, hb, hi], fun r b q _ hF h0 hb => ?_, fun b h q hb h0 => ?_⟩
    · have := (colF_some hb).2
      rcases this with h1 | h1
      · exact absurd h1 h0
      · exact absurd (hasN_iff.1 hF) h1
    · unfold colC at hb
      split at hb
      · cases hb
      · rename_i r q' hc
        split at hb
        · rename_i h' hi
          obtain ⟨rfl, rfl⟩ : h' = h ∧ q' = q := by simpa using hb
          exact ⟨r, (hval hi).2.1, hi, hc⟩
        · obtain ⟨rfl, _⟩ : 0 = h ∧ [] = q := by simpa using hb
          exact absurd rfl h0
  have hargs := cvVs_rep hrs hs hcs vs args hp.av hv
  have hgl : GlobOk P w (colC m (colF fz col)) := ⟨fun n cc g hm hg => by
    obtain ⟨h1, T, fr, h2⟩ := c.gl.tab n cc g hm hg
    have hlt := block_lt_of_get h2
    obtain ⟨h3, h4⟩ := hr.inv.old g hlt (.inl h1)
    refine ⟨?_, T, fr, h3.trans h2⟩
    rw [h1] at h4
    exact hcs.a g h4⟩
  have hlv : ∀ b x, colC m (colF fz col) b = some x → b < w.heap.size := fun b x hb => by
    unfold colC at hb
    cases hc : colF fz col b with
    | none => simp [hc] at hb
    | some z => exact hr.inv.live b _ hc
  have hR0 : Rel (P := P) ⟨w, colC m (colF fz col), lkR m lk, hgl⟩ ⟨0, [], ar⟩ ⟨#[], []⟩ w (colC m (colF fz col)) (lkR m lk) :=
    ⟨⟨rfl, rfl, rfl, Nat.le_refl _, fun _ _ _ => ⟨rfl, rfl⟩, hlv⟩, rfl, fun t v ht => by simp [lookup] at ht, fun h n e p hp => sub_rt hrs hs hcs hp, fun b h q hb h0 => sub_cl hs hcs hb h0, fun h v hv => sub_ln hs hv, (have hz : lookup ar 0 = none := sub_z hs; hz), rfl, fun r v h _ => h⟩
  refine (hcall.2 ys w _ _ hgl hR0 hargs).mono fun e w' he => ?_
  obtain ⟨y, zs, col', lk', rfl, hy, hR1, hres⟩ := he
  -- the callee's word on old blocks
  have hoth : ∀ b, b < w.heap.size → Old (colC m (colF fz col) b) → w'.heap[b]? = w.heap[b]? ∧ col' b = colC m (colF fz col) b := fun b hb ho => hR1.inv.old b hb ho
  have hposr : ∀ h x, (h, x) ∈ rr → 0 < h := fun h x hm => by
    obtain ⟨n, e, p, _, h1⟩ := okR_get hok hm
    exact h1.pos
  have hus : (effG s o m fz res rr).ups = frz s.roots fz ++ (backU rr m ++ newU o rr) := rfl
  have hN : ∀ r, lookup (appUps (effG s o m fz res rr).ups s.roots) r = match lookup (backU rr m ++ newU o rr) r with | some x => some x | none => lookup (s.frz fz).roots r := fun r => by
    rw [hus, lookup_appUps_append]
    exact lookup_nodup hndu
  have hback : ∀ {h r}, lookup m h = some (some r) → lookup (backU rr m ++ newU o rr) r = some (backX rr h) := fun {h r} hm =>
    mem_lookup hndu (List.mem_append_left _ (mem_backU (lookup_mem hm)))
  have hnew : ∀ {h x}, lookup rr h = some x → Nat.ble PN h = false → lookup (backU rr m ++ newU o rr) (phi o h) = some x := fun {h x} hx hb =>
    mem_lookup hndu (List.mem_append_right _ (mem_newU (lookup_mem hx) hb))
  have hphi : ∀ {h x}, (h, x) ∈ rr → Nat.ble PN h = false → lookup s.roots (phi o h) = none ∧ lookup (s.frz fz).roots (phi o h) = none ∧ phi o h ≠ 0 ∧ phi o h < PN := fun {h x} hx hb => by
    obtain ⟨n, e, p, _, h1⟩ := okR_get hok hx
    obtain ⟨h2, h3, h4⟩ := h1.new hb
    exact ⟨h2, free_frz h2, by unfold phi; omega, h4⟩
  have husc : ∀ {r x}, lookup (backU rr m ++ newU o rr) r = some x → (∃ h, lookup m h = some (some r) ∧ x = backX rr h) ∨ ∃ h, lookup rr h = some x ∧ Nat.ble PN h = false ∧ r = phi o h := fun {r x} hx => by
    rcases List.mem_append.1 (lookup_mem hx) with h1 | h1
    · obtain ⟨h, h2, h3⟩ := backU_mem h1
      exact .inl ⟨h, injM_lookup hp.inj h2, h3⟩
    · obtain ⟨h, h2, h3, h4⟩ := newU_mem h1
      exact .inr ⟨h, mem_lookup hnd h2, h3, h4⟩
  have hnof : ∀ {r x}, lookup s.roots r = some x → newOf o rr r = none := fun {r x} hx => by
    cases hn : newOf o rr r with
    | none => rfl
    | some h =>
      obtain ⟨⟨z, h1⟩, h2, rfl⟩ := newOf_some hn
      rw [(hphi h1 h2).1] at hx
      cases hx
  have hlk : ∀ r v, lk r = some v → lkN o rr lk lk' r = some v := fun r v hv => by
    obtain ⟨x, hx⟩ := hr0.ln r v hv
    simp only [lkN, hnof hx, hv]
  -- what a callee's name becomes
  have hpsi : ∀ h x, lookup rr h = some x → ∃ y, x = some y ∧ lookup (appUps (effG s o m fz res rr).ups s.roots) (psi o m h) = some (some y) ∧ psi o m h ≠ 0 ∧ ∀ v, lk' h = some v → lkN o rr lk lk' (psi o m h) = some v := fun h x hx => by
    obtain ⟨n, e, p, rfl, hk1⟩ := okR_get hok (lookup_mem hx)
    refine ⟨_, rfl, ?_⟩
    cases hb : Nat.ble PN h with
    | true =>
      obtain ⟨r, n2, e2, p2, h1, h2, h3⟩ := hk1.old (Nat.le_of_ble_eq_true hb)
      have hps : psi o m h = r := by simp [psi, hb, h1]
      rw [hps, hN, hback h1]
      obtain ⟨n3, e3, p3, p4, h4, _⟩ := name_root hs h1
      refine ⟨by simp [backX, hb, hx], hrs.ne0 h4, fun v hv => ?_⟩
      have h5 := hR1.pr h v hv (Nat.le_of_ble_eq_true hb)
      have h6 : lk r = some v := by simpa [lkR, h1] using h5
      exact hlk r v h6
    | false =>
      have hps : psi o m h = phi o h := by simp [psi, hb]
      rw [hps, hN, hnew hx hb]
      refine ⟨rfl, (hphi (lookup_mem hx) hb).2.2.1, fun v hv => ?_⟩
      simp only [lkN, newOf_mem (lookup_mem hx) hb hposr, hv]
  have k0 : ∀ b, col' b = none → colN o m w (colF fz col) col' b = none := fun b hb => by simp [colN, hb]
  have k1 : ∀ b h q, h ≠ 0 → col' b = some (h, q) → colN o m w (colF fz col) col' b = some (psi o m h, q) := fun b h q h0 hb => by simp [colN, hb, h0]
  -- a block of the caller's own that wasn't handed in
  have hkeep : ∀ b, b < w.heap.size → (∀ r q, colF fz col b = some (r, q) → invM r m = none) → w'.heap[b]? = w.heap[b]? ∧ colN o m w (colF fz col) col' b = colF fz col b := fun b hb hm => by
    cases hc : colF fz col b with
    | none =>
      have h1 : colC m (colF fz col) b = none := hcs.a b hc
      obtain ⟨h2, h3⟩ := hoth b hb (.inl h1)
      rw [h1] at h3
      exact ⟨h2, k0 b h3⟩
    | some z =>
      obtain ⟨r, q⟩ := z
      have hi := hm r q hc
      have h1 : colC m (colF fz col) b = some (0, []) := by simp [colC, hc, hi]
      obtain ⟨h2, h3⟩ := hoth b hb (.inr h1)
      rw [h1] at h3
      refine ⟨h2, ?_⟩
      simp [colN, h3, hb, hc, hi]
  have hinv0 : invM 0 m = none := by
    cases hi : invM 0 m with
    | none => rfl
    | some h => exact absurd rfl (hval hi).2.1
  have hvs : VStep w w' (colF fz col) (colN o m w (colF fz col) col') lk (lkN o rr lk lk') (s.frz fz).roots (appUps (effG s o m fz res rr).ups s.roots) := by
    refine ⟨fun b hb hc => ?_, hlk, fun r x hx => ?_⟩
    · have := hkeep b hb (fun r q h => by rw [hc] at h; cases h)
      exact ⟨this.1, this.2.trans hc⟩
    · rw [hN]
      cases hu : lookup (backU rr m ++ newU o rr) r with
      | none => exact ⟨x, hx, .inl rfl⟩
      | some z =>
        refine ⟨z, rfl, .inr ?_⟩
        rcases husc hu with ⟨h, h1, rfl⟩ | ⟨h, h1, h2, rfl⟩
        · obtain ⟨n, e, p, p2, h3, h4, h5⟩ := name_root hs h1
          rw [h3] at hx
          obtain rfl : some (n, e, p) = x := by simpa using hx
          unfold backX
          split
          · rename_i hb
            cases hx2 : lookup rr h with
            | none => trivial
            | some x2 =>
              obtain ⟨n2, e2, q2, rfl, hk1⟩ := okR_get hok (lookup_mem hx2)
              obtain ⟨r', n3, e3, p3, h6, h7, h8⟩ := hk1.old (Nat.le_of_ble_eq_true hb)
              rw [h4] at h7
              obtain ⟨rfl, rfl, rfl⟩ : n = n3 ∧ e = e3 ∧ p2 = p3 := by simpa using h7
              exact shape_of (n2 := 0) (e2 := 0) h5 h8
          · trivial
        · rw [(hphi (lookup_mem h1) h2).2.1] at hx; cases hx
  refine ⟨y, colN o m w (colF fz col) col', lkN o rr lk lk', rfl, ?_, ?_⟩
  · refine ⟨⟨hR1.inv.os.trans hr.inv.os, hR1.inv.tape.trans hr.inv.tape, hR1.inv.output.trans hr.inv.output, Nat.le_trans hr.inv.size hR1.inv.size, fun b hb ho => ?_, fun b x hx => ?_⟩, hr0.n, fun t v ht => ?_, fun r n e p hp' => ?_, fun b r q hb h0 => ?_, fun r v hv => ?_, ?_, hr0.df, fun r v hv hpn => ?_⟩
    · have h1 := hr.inv.old b hb ho
      have h2 := hkeep b (Nat.lt_of_lt_of_le hb hr.inv.size) (fun r q h => by
        rw [h1.2] at h
        rcases ho with ho | ho
        · rw [ho] at h; cases h
        · rw [ho] at h
          obtain ⟨rfl, _⟩ : 0 = r ∧ [] = q := by simpa using h
          exact hinv0)
      exact ⟨h2.1.trans h1.1, h2.2.trans h1.2⟩
    · have : ∃ z, col' b = some z := by
        unfold colN at hx
        split at hx
        · cases hx
        · rename_i h q hc; exact ⟨_, hc⟩
      obtain ⟨z, hz⟩ := this
      exact hR1.inv.live b z hz
    · obtain ⟨h1, h2⟩ := hr.tm t v ht
      exact ⟨h1, VRep.step hvs v h2⟩
    · rw [hN] at hp'
      cases hu : lookup (backU rr m ++ newU o rr) r with
      | none =>
        rw [hu] at hp'
        refine (hr.rt r n e p hp').same ⟨fun b hb hm => ?_⟩ hlk
        refine hkeep b hb fun r' q h => ?_
        rcases hm with hm | ⟨_, q', hm⟩
        · rw [hm] at h; cases h
        · rw [hm] at h
          obtain ⟨rfl, _⟩ : r = r' ∧ _ := by simpa using h
          cases hi : invM r m with
          | none => rfl
          | some h' =>
            rw [hback (hval hi).1] at hu
            cases hu
      | some z =>
        rw [hu] at hp'
        obtain rfl : z = some (n, e, p) := by simpa using hp'
        obtain ⟨h, hx, hps⟩ : ∃ h, lookup rr h = some (some (n, e, p)) ∧ psi o m h = r := by
          rcases husc hu with ⟨h, h1, h2⟩ | ⟨h, h1, h2, rfl⟩
          · unfold backX at h2
            split at h2
            · rename_i hb
              cases hx2 : lookup rr h with
              | none => rw [hx2] at h2; cases h2
              | some x2 =>
                rw [hx2] at h2
                have h2 : some (n, e, p) = x2 := h2
                exact ⟨h, by rw [hx2, ← h2], by simp [psi, hb, h1]⟩
            · cases h2
          · exact ⟨h, h1, by simp [psi, h2]⟩
        obtain ⟨n2, e2, p2, h3, hk1⟩ := okR_get hok (lookup_mem hx)
        obtain ⟨rfl, rfl, rfl⟩ : n = n2 ∧ e = e2 ∧ p = p2 := by simpa using h3
        obtain ⟨y2, _, _, _, hlkp⟩ := hpsi h _ hx
        obtain ⟨v, h4, h5, h6⟩ := hR1.rt h n e p hx
        have hh0 : h ≠ 0 := by have := hk1.pos; omega
        rw [hps] at hlkp
        refine ⟨v, hlkp v h4, Rep.unlk _ (noLinks_iff hk1.nl) (Rep.own k0 (fun b q hb => by rw [← hps]; exact k1 b h q hh0 hb) _ h5), ?_⟩
        cases p <;> exact h6
    · unfold colN at hb
      split at hb
      · cases hb
      · rename_i h q' hc
        split at hb
        · split at hb
          · rename_i r' q2 hc2
            split at hb
            · rename_i hi
              obtain ⟨rfl, rfl⟩ : r' = r ∧ q2 = q := by simpa using hb
              split at hc2
              · obtain ⟨x, hx⟩ := hr.cl b r' q2 hc2 h0
                rw [hN]
                cases hu : lookup (backU rr m ++ newU o rr) r' with
                | none => exact ⟨x, hx⟩
                | some z =>
                  rcases husc hu with ⟨h', h1, _⟩ | ⟨h', h1, h2, rfl⟩
                  · rw [inv_of hp.inj h1] at hi; cases hi
                  · have hx' : lookup (s.frz fz).roots (phi o h') = some (some x) := hx
                    rw [(hphi (lookup_mem h1) h2).2.1] at hx'; cases hx'
              · cases hc2
            · cases hb
          · cases hb
        · rename_i hh0
          obtain ⟨rfl, rfl⟩ : psi o m h = r ∧ q' = q := by simpa using hb
          obtain ⟨x, hx⟩ := hR1.cl b h q' hc hh0
          obtain ⟨y2, h1, h2, _⟩ := hpsi h _ hx
          exact ⟨y2, h2⟩
    · unfold lkN at hv
      cases hn : newOf o rr r with
      | none =>
        rw [hn] at hv
        obtain ⟨x, hx⟩ := hr.ln r v hv
        rw [hN]
        cases hu : lookup (backU rr m ++ newU o rr) r with
        | none => exact ⟨x, hx⟩
        | some z => exact ⟨z, rfl⟩
      | some h =>
        obtain ⟨⟨z, h1⟩, h2, rfl⟩ := newOf_some hn
        rw [hN, hnew (mem_lookup hnd h1) h2]
        exact ⟨z, rfl⟩
    · rw [hN]
      cases hu : lookup (backU rr m ++ newU o rr) 0 with
      | none => exact hr.z
      | some z =>
        rcases husc hu with ⟨h', h1, _⟩ | ⟨h', h1, h2, h3⟩
        · obtain ⟨n, e, p, p2, h3, _⟩ := name_root hs h1
          exact absurd rfl (hrs.ne0 h3)
        · exact absurd h3.symm (hphi (lookup_mem h1) h2).2.2.1
    · unfold lkN at hv
      cases hn : newOf o rr r with
      | none => rw [hn] at hv; exact hr0.pr r v hv hpn
      | some h =>
        obtain ⟨⟨z, h1⟩, h2, rfl⟩ := newOf_some hn
        have := (hphi h1 h2).2.2.2
        omega
  · exact renV_rep k0 (fun h x hx => by
      obtain ⟨y2, h1, h2, _, h3⟩ := hpsi h x hx
      exact ⟨y2, h1, h2, h3⟩) _ (resU_rep hres hy)
theorem vcall_wp {o : Oper} {f : Operand} {xs : List Operand} {e : Eff} {K : Act → World → Prop} {Q : Exit → Act → World → Prop} (ho : callOf o.op = some (f, xs)) (hr : Rel c s a w col lk)
    (h : vcall P s o f xs fun u => u = e) (hK : ∀ y w' col' lk', Rel c { s with roots := appUps e.ups s.roots } a w' col' lk' → VRep w' col' lk' (appUps e.ups s.roots) e.v y → K (a.put o.dst y) w') : o.wp P a w K Q := by
  unfold vcall at h
  split at h
  · rename_i g caps vs h1 h2
    have hv := evs_rep hr h2
    obtain ⟨cvs, hcs, hfe⟩ := evF_ok h1 hr
    have hop : ∃ cl, o.op = .call cl ∧ cl.callee = .value f ∧ cl.args.toList = xs := by
      unfold callOf at ho
      split at ho
      · rename_i cl hcl
        split at ho
        · rename_i f' hf'
          simp only [Option.some.injEq, Prod.mk.injEq] at ho
          exact ⟨cl, hcl, by rw [hf', ho.1], ho.2⟩
        · cases ho
      · cases ho
    obtain ⟨cl, hcl, hce, hxs⟩ := hop
    have hrun : Enters P g → (execOp a.eval o).run P w = .ok (.enter g ((xs.map a.eval) ++ cvs).toArray) w := by
      rintro ⟨fn, hfn, hbody, hname⟩
      have hmap : (cl.args.map a.eval) = (xs.map a.eval).toArray := Array.toList_inj.1 (by rw [← hxs]; simp only [Array.toList_map])
      have hne : ¬ fn.name = "runtime.NumGoroutine" := ne_of_beq_false hname
      obtain ⟨bd, hbd⟩ := Option.isSome_iff_exists.1 hbody
      simp [execOp, hcl, resolve, hce, hmap, hfe, Deferred.ofValue, invoke, callFunc, hfn, hne, hbd]
    cases h with
    | gen m fz args ar res rr hcall hp hk k =>
      subst k
      have hrun := hrun hcall.1
      unfold Oper.wp
      rw [hrun]
      simp only [Oper.upon]
      refine (gen_calls hr hcall hp hk (VRepL.append hv hcs)).mono fun e' w' he => ?_
      obtain ⟨y, col', lk', rfl, hr', hv'⟩ := he
      exact hK y w' col' lk' hr' hv'
    | mk ps cs res hcall h3 k =>
      subst k
      have hrun := hrun hcall.1
      obtain ⟨_, hcall⟩ := hcall
      have hargs := pvsOf_args hr (cs := cs) _ (VRepL.append hv hcs) h3 fun _ h => h
      have hold : ∀ b, Old (calleeCol cs col b) := fun b => by unfold calleeCol Old; cases colF cs col b <;> simp
      have hlive : ∀ b x, calleeCol cs col b = some x → b < w.heap.size := fun b x hb => by
        unfold calleeCol at hb
        cases hc : colF cs col b with
        | none => simp [hc] at hb
        | some z => obtain ⟨r, q⟩ := z; exact hr.inv.live b _ (colF_some hc).1
      have hgl : GlobOk P w (calleeCol cs col) := ⟨fun n cc g hm hg => by
        obtain ⟨h1, T, fr, h2⟩ := c.gl.tab n cc g hm hg
        have hlt := block_lt_of_get h2
        obtain ⟨h3, h4⟩ := hr.inv.old g hlt (.inl h1)
        refine ⟨?_, T, fr, h3.trans h2⟩
        rw [h1] at h4
        simp [calleeCol, colF_none h4]⟩
      have hC := hcall _ w (calleeCol cs col) hold hlive hgl hargs
      unfold Oper.wp
      rw [hrun]
      simp only [Oper.upon]
      refine hC.mono fun e' w' he => ?_
      obtain ⟨y, col', rfl, ⟨ys, hargs', hy⟩, hinv⟩ := he
      have hsz : w.heap.size ≤ w'.heap.size := hinv.size
      have hb : ∀ b, b < w.heap.size → w'.heap[b]? = w.heap[b]? ∧ col' b = calleeCol cs col b := fun b hb => hinv.old b hb (hold b)
      cases hfl : flat res with
      | true =>
        simp only [hfl] at hK
        let colN : Col := fun b => if b < w.heap.size then col b else none
        have hkept : Kept w w' col colN := ⟨fun b hlt => ⟨(hb b hlt).1, by simp [colN, hlt]⟩⟩
        have hrel := hr.kept hkept ⟨hinv.os.trans hr.inv.os, hinv.tape.trans hr.inv.tape, hinv.output.trans hr.inv.output, Nat.le_trans hr.inv.size hsz, fun b h0 h1 => by
          have h2 := hr.inv.old b h0 h1
          have hlt := Nat.lt_of_lt_of_le h0 hr.inv.size
          exact ⟨(hb b hlt).1.trans h2.1, by simp only [colN, hlt, if_true]; exact h2.2⟩, fun b x hx => by
          simp only [colN] at hx
          split at hx
          · omega
          · cases hx⟩ fun b r q hx h0 => by
          simp only [colN] at hx
          split at hx
          · exact hr.cl b r q hx h0
          · cases hx
        exact hK y w' colN lk hrel (ResRep.of (ArgsRep.flat hfl hargs') hy)
      | false =>
        simp only [hfl] at hK
        have hr2 := hr.freeze cs
        let colN : Col := fun b => if b < w.heap.size then colF cs col b else none
        have hkept : Kept w w' (colF cs col) colN := ⟨fun b hlt => ⟨(hb b hlt).1, by simp [colN, hlt]⟩⟩
        have hrel := hr2.kept hkept ⟨hinv.os.trans hr2.inv.os, hinv.tape.trans hr2.inv.tape, hinv.output.trans hr2.inv.output, Nat.le_trans hr2.inv.size hsz, fun b h0 h1 => by
          have h2 := hr2.inv.old b h0 h1
          have hlt := Nat.lt_of_lt_of_le h0 hr2.inv.size
          exact ⟨(hb b hlt).1.trans h2.1, by simp only [colN, hlt, if_true]; exact h2.2⟩, fun b x hx => by
          simp only [colN] at hx
          split at hx
          · omega
          · cases hx⟩ fun b r q hx h0 => by
          simp only [colN] at hx
          split at hx
          · exact hr2.cl b r q hx h0
          · cases hx
        refine hK y w' colN lk hrel (ResRep.of (ArgsRep.rep (fun b hn => ?_) hargs') hy)
        simp only [colN]
        split
        · rename_i hlt
          have := (hb b hlt).2
          rw [hn] at this
          unfold calleeCol at this
          cases hc : colF cs col b with
          | none => rfl
          | some z => rw [hc] at this; cases this
        · rfl
  · exact h.elim
end
end Go.Vm

/- Regions, in the text's order and in any order. -/
set_option linter.unusedVariables false
set_option linter.unusedSimpArgs false
namespace Go.Vm
open Go Go.RowKit

/-- Is a guarded operation carried out? -/
def vguard (ops : List Oper) (s : St) (o : Oper) (yes no : Prop) : Prop :=
  match o.guard with
  | none => yes
  | some (j, want) => match ops[j]? with
    | some oj => match oj.dst with
      | some d => match lookup s.tmps d with
        | some (.pv (.w (.bool b))) => match want with
          | true => brP b yes no
          | false => brP b no yes
        | _ => False
      | none => False
    | none => False
def St.skip (s : St) (dst : Option Nat) : St := { s with tmps := match dst with | some d => eraseL d s.tmps | none => s.tmps }
/- The same, the new state told as it stands. -/
def putK {α : Type} (t : Nat) (v : α) : List (Nat × α) → (List (Nat × α) → Prop) → Prop
  | [], K => K [(t, v)]
  | (u, x) :: l, K => match Nat.beq u t with | true => K ((t, v) :: l) | false => putK t v l fun m => K ((u, x) :: m)
def eraseK {α : Type} (t : Nat) : List (Nat × α) → (List (Nat × α) → Prop) → Prop
  | [], K => K []
  | (u, x) :: l, K => match Nat.beq u t with | true => eraseK t l K | false => eraseK t l fun m => K ((u, x) :: m)
def upsK : List (Nat × Root) → List (Nat × Root) → (List (Nat × Root) → Prop) → Prop
  | [], rs, K => K rs
  | (r, x) :: us, rs, K => putK r x rs fun rs => upsK us rs K
def St.appK : St → Option Nat → Eff → (St → Prop) → Prop
  | ⟨n, tm, rt⟩, some d, ⟨v, us⟩, K => putK d v tm fun tm => upsK us rt fun rt => K ⟨n, tm, rt⟩
  | ⟨n, tm, rt⟩, none, ⟨_, us⟩, K => upsK us rt fun rt => K ⟨n, tm, rt⟩
def St.skipK : St → Option Nat → (St → Prop) → Prop
  | ⟨n, tm, rt⟩, some d, K => eraseK d tm fun tm => K ⟨n, tm, rt⟩
  | s, none, K => K s
theorem putK_eq {α : Type} (t : Nat) (v : α) : ∀ (l : List (Nat × α)) (K : List (Nat × α) → Prop), putK t v l K = K (putL t v l)
  | [], _ => rfl
  | (u, x) :: l, K => by simp only [putK, putL]; cases Nat.beq u t <;> simp only [putK_eq t v l]
theorem eraseK_eq {α : Type} (t : Nat) : ∀ (l : List (Nat × α)) (K : List (Nat × α) → Prop), eraseK t l K = K (eraseL t l)
  | [], _ => rfl
  | (u, x) :: l, K => by simp only [eraseK, eraseL]; cases Nat.beq u t <;> simp only [eraseK_eq t l]
theorem upsK_eq : ∀ (us : List (Nat × Root)) (rs : List (Nat × Root)) (K : List (Nat × Root) → Prop), upsK us rs K = K (appUps us rs)
  | [], _, _ => rfl
  | (r, x) :: us, rs, K => by simp only [upsK, appUps, putK_eq, upsK_eq us]
theorem St.appK_eq (s : St) (dst : Option Nat) (e : Eff) (K : St → Prop) : s.appK dst e K = K (s.app dst e) := by
  obtain ⟨n, tm, rt⟩ := s
  obtain ⟨v, us⟩ := e
  cases dst <;> simp only [St.appK, putK_eq, upsK_eq, St.app]
theorem St.skipK_eq (s : St) (dst : Option Nat) (K : St → Prop) : s.skipK dst K = K (s.skip dst) := by
  obtain ⟨n, tm, rt⟩ := s
  cases dst <;> simp only [St.skipK, eraseK_eq, St.skip]
def vops (P : Program) (T : Tab) (ops : List Oper) : List Oper → St → (St → Prop) → Prop
  | [], s, K => K s
  | o :: rest, s, K => vguard ops s o (vop P T s o fun e => match dstOk s o.dst with | true => s.appK o.dst e fun s => vops P T ops rest s K | false => False) (s.skipK o.dst fun s => vops P T ops rest s K)

section
variable {P : Program} {T : Tab} {c : Ctx P} {s s0 : St} {a : Act} {w : World} {col : Col} {lk : Lk} {Q : Exit → Act → World → Prop}

theorem Rels.app {e : Eff} {y : Value} {dst : Option Nat} (hr : Rel c { s with roots := appUps e.ups s.roots } a w col lk) (hd : dstOk s dst = true) (hv : VRep w col lk (appUps e.ups s.roots) e.v y) : Rels c (s.app dst e) (a.put dst y) w := by
  refine ⟨col, lk, ?_⟩
  cases dst with
  | none =>
    simp only [St.app, Act.put]
    exact hr
  | some d =>
    have hd' : d < s.n := by
      simp only [dstOk] at hd
      exact Nat.lt_of_lt_of_le (Nat.lt_succ_self d) (Nat.le_of_ble_eq_true hd)
    have := hr.put (d := d) hd' hv
    simpa only [St.app] using this
theorem vop_wp {o : Oper} {e : Eff} {K : Act → World → Prop} (hT : TabOk P T) (hs : s0.LeO o s) (hr : Rel c s a w col lk) (h : vop P T s0 o fun u => u = e) (hd : dstOk s o.dst = true)
    (hK : ∀ a' w', Rels c (s.app o.dst e) a' w' → K a' w') : o.wp P a w K Q := by
  have h := vop_mono hs h
  unfold vop at h
  split at h
  · rename_i f xs ho
    exact vcall_wp ho hr h fun y w' col' lk' hr' hv => hK _ _ (Rels.app hr' hd hv)
  · split at h
    · rename_i out hout
      obtain ⟨v, hv, rfl⟩ := Out.cps_ok h
      obtain ⟨nx, w', col', lk', y, hrun, hnx, hrel, hvr⟩ := stepP_sound hT hr hout hv
      unfold Oper.wp
      rw [hrun]
      rcases hnx with rfl | ⟨rfl, rfl⟩
      · exact hK _ _ (Rels.app hrel hd hvr)
      · exact hK _ _ (Rels.app hrel hd hvr)
    · exact h.elim
theorem Rels.skip {dst : Option Nat} (hr : Rels c s a w) (y : Value) : Rels c (s.skip dst) (a.put dst y) w := by
  obtain ⟨col, lk, hr⟩ := hr
  refine ⟨col, lk, ?_⟩
  cases dst with
  | none => exact hr
  | some d => exact hr.drop d y
/-- The guard's answer, as the machine has it. -/
theorem vguard_ok {ops : Array Oper} {o : Oper} {p q : Prop} (hr : Rel c s a w col lk) (h : vguard ops.toList s o p q) :
    (Region.wanted o (yielded ops a.tmps) = true ∧ p) ∨ (Region.wanted o (yielded ops a.tmps) = false ∧ q) := by
  unfold vguard at h
  split at h
  · rename_i hg
    exact .inl ⟨by simp [Region.wanted, hg], h⟩
  · rename_i j want hg
    split at h
    · rename_i oj hj
      split at h
      · rename_i d hd
        split at h
        · rename_i b hb
          obtain ⟨h1, h2⟩ := hr.tm d _ hb
          have h3 := VRep.word h2
          have h4 : a.tmps[d]? = some (.bool b) := by
            have hlt : d < a.tmps.size := by rw [hr.n]; exact h1
            rw [getElem?_pos a.tmps d hlt]
            rw [Array.getD_eq_getD_getElem?, getElem?_pos a.tmps d hlt] at h3
            simpa using h3
          have hj' : ops[j]? = some oj := by simpa using hj
          have hy : yielded ops a.tmps j = some b := by simp [yielded, hj', hd, h4]
          cases want <;> cases b <;> simp only [brP] at h <;> simp [Region.wanted, hg, hy, h]
        · exact h.elim
      · exact h.elim
    · exact h.elim
theorem wpOp_of {ops : Array Oper} {i : Nat} {o : Oper} {K : Act → World → Prop} {e : Eff} (hT : TabOk P T) (hi : ops[i]? = some o) (hs : s0.LeO o s) (hr : Rels c s a w)
    (h : vguard ops.toList s o (vop P T s0 o (fun u => u = e) ∧ dstOk s o.dst = true ∧ ∀ a' w', Rels c (s.app o.dst e) a' w' → K a' w') (∀ a' w', Rels c (s.skip o.dst) a' w' → K a' w')) : wpOp P ops Q i K a w := by
  obtain ⟨col, lk, hr⟩ := hr
  unfold wpOp
  rw [hi]
  simp only
  rcases vguard_ok hr h with ⟨hw, h1, h2, h3⟩ | ⟨hw, h1⟩
  · rw [if_pos hw]
    exact .inl (vop_wp hT hs hr h1 h2 h3)
  · rw [if_neg (by simp [hw])]
    exact h1 _ _ (Rels.skip ⟨col, lk, hr⟩ _)
theorem brP_mono {b : Bool} {p q p' q' : Prop} (h : brP b p q) (hp : p → p') (hq : q → q') : brP b p' q' := by cases b <;> first | exact hp h | exact hq h
theorem vguard_mono {ops : List Oper} {o : Oper} {p q p' q' : Prop} (h : vguard ops s o p q) (hp : p → p') (hq : q → q') : vguard ops s o p' q' := by
  unfold vguard at h ⊢
  cases hg : o.guard with
  | none => rw [hg] at h; exact hp h
  | some x =>
    obtain ⟨j, want⟩ := x
    rw [hg] at h
    simp only at h ⊢
    split at h
    · split at h
      · split at h
        · cases want
          · exact brP_mono h hq hp
          · exact brP_mono h hp hq
        · exact h.elim
      · exact h.elim
    · exact h.elim
theorem vguard_ex {ops : List Oper} {o : Oper} {E : Type} {p q : Prop} {p' : E → Prop} (e0 : E) (h : vguard ops s o p q) (hp : p → ∃ e, p' e) : ∃ e, vguard ops s o (p' e) q := by
  by_cases hpp : p
  · obtain ⟨e, he⟩ := hp hpp
    exact ⟨e, vguard_mono h (fun _ => he) id⟩
  · exact ⟨e0, vguard_mono h (fun x => absurd x hpp) id⟩
theorem vops_wpOps {ops : Array Oper} {K : St → Prop} (hT : TabOk P T) : ∀ (l : List Oper) (k : Nat) (s : St) (a : Act) (w : World), (∀ j, l[j]? = ops[k + j]?) → vops P T ops.toList l s K → Rels c s a w →
    (∀ s' a' w', K s' → Rels c s' a' w' → Q .normal a' w') → wpOps P ops Q (List.range' k l.length) a w
  | [], k, s, a, w, _, h, hr, hQ => by simpa [wpOps] using hQ s a w h hr
  | o :: l, k, s, a, w, hl, h, hr, hQ => by
    rw [List.length_cons, List.range'_succ, wpOps_cons]
    have hi : ops[k]? = some o := by simpa using (hl 0).symm
    have hl' : ∀ j, l[j]? = ops[k + 1 + j]? := fun j => by have := hl (j + 1); simpa [Nat.add_assoc, Nat.add_comm 1 j] using this
    simp only [vops, St.appK_eq, St.skipK_eq] at h
    obtain ⟨e, he⟩ := vguard_ex (p' := fun e => vop P T s o (fun u => u = e) ∧ dstOk s o.dst = true ∧ vops P T ops.toList l (s.app o.dst e) K) ⟨.any, []⟩ h fun hv => by
      obtain ⟨e, h1, h2⟩ := vop_eff hv
      split at h2
      · rename_i hd; exact ⟨e, h1, hd, h2⟩
      · exact h2.elim
    refine wpOp_of (e := e) hT hi ⟨⟨rfl, fun _ _ h => h, fun _ _ h => h⟩, fun _ _ h => h⟩ hr (vguard_mono he ?_ ?_)
    · rintro ⟨h1, h2, h3⟩
      exact ⟨h1, h2, fun a' w' hr' => vops_wpOps hT l (k + 1) _ a' w' hl' h3 hr' hQ⟩
    · exact fun h3 a' w' hr' => vops_wpOps hT l (k + 1) _ a' w' hl' h3 hr' hQ
end
end Go.Vm

/- A region whose order is open: any order does what the text's order does. -/
set_option linter.unusedVariables false
set_option linter.unusedSimpArgs false
namespace Go.Vm
open Go Go.RowKit

def opTmps : List Operand → List Nat
  | [] => []
  | .tmp t :: xs => t :: opTmps xs
  | _ :: xs => opTmps xs
def guardT (ops : List Oper) (o : Oper) : List Nat :=
  match o.guard with
  | some (j, _) => match ops[j]? with
    | some oj => match oj.dst with | some d => [d] | none => []
    | none => []
  | none => []
def rdT (ops : List Oper) (o : Oper) : List Nat := guardT ops o ++ opTmps o.op.operands.toList
mutual
def rootsV : V → List Nat
  | .pv _ => []
  | .any => []
  | .row c | .win c _ _ | .el c _ _ | .bx c _ => [c]
  | .agg vs | .tup vs | .fn _ vs => rootsVs vs
def rootsVs : List V → List Nat
  | [] => []
  | v :: vs => rootsV v ++ rootsVs vs
end
def restr {α : Type} (l : List (Nat × α)) : List Nat → List (Nat × α)
  | [] => []
  | t :: ts => match lookup l t with
    | some v => (t, v) :: restr l ts
    | none => restr l ts
def linksOf : List (Nat × Root) → List Nat
  | [] => []
  | (_, some (_, _, p)) :: l => linksP p ++ linksOf l
  | (_, none) :: l => linksOf l
def valsOf : List (Nat × V) → List Nat
  | [] => []
  | (_, v) :: l => rootsV v ++ valsOf l
/-- The roots that an operation may look at. -/
def rdR (ops : List Oper) (s : St) (o : Oper) : List Nat :=
  let r1 := valsOf (restr s.tmps (rdT ops o))
  let r2 := linksOf (restr s.roots r1)
  let r3 := linksOf (restr s.roots r2)
  r1 ++ r2 ++ r3 ++ newIds o
def St.cut (s : St) (ops : List Oper) (o : Oper) : St := { s with tmps := restr s.tmps (rdT ops o), roots := restr s.roots (rdR ops s o) }
theorem lookup_restr {α : Type} (l : List (Nat × α)) (t : Nat) (v : α) : ∀ ts, lookup (restr l ts) t = some v → lookup l t = some v
  | [], h => by simp [restr, lookup] at h
  | u :: ts, h => by
    simp only [restr] at h
    split at h
    · rename_i x hx
      rw [lookup_cons] at h
      by_cases e : u = t
      · subst e; simp only [if_true] at h; rw [hx]; exact h
      · simp only [e, if_false] at h; exact lookup_restr l t v ts h
    · exact lookup_restr l t v ts h
theorem restr_congr {α : Type} {l l' : List (Nat × α)} : ∀ {ts : List Nat}, (∀ t ∈ ts, lookup l t = lookup l' t) → restr l ts = restr l' ts
  | [], _ => rfl
  | t :: ts, h => by
    simp only [restr, h t (by simp), restr_congr (ts := ts) fun u hu => h u (by simp [hu])]
theorem St.cut_le (s : St) (ops : List Oper) (o : Oper) : (s.cut ops o).Le s := ⟨rfl, fun t v h => lookup_restr _ _ _ _ h, fun r x h => lookup_restr _ _ _ _ h⟩
theorem lookup_restr_mem {α : Type} (l : List (Nat × α)) (t : Nat) : ∀ {ts : List Nat}, t ∈ ts → lookup (restr l ts) t = lookup l t
  | [], h => by cases h
  | u :: ts, h => by
    simp only [restr]
    by_cases e : u = t
    · subst e
      cases hx : lookup l u with
      | some v => simp [lookup_cons]
      | none =>
        simp only
        by_cases hm : u ∈ ts
        · rw [lookup_restr_mem l u hm, hx]
        · cases hl : lookup (restr l ts) u with
          | none => rfl
          | some v => rw [lookup_restr l u v ts hl] at hx; cases hx
    · have hm : t ∈ ts := by
        rcases List.mem_cons.1 h with h | h
        · exact absurd h.symm e
        · exact h
      cases hx : lookup l u with
      | some v => simp only [lookup_cons, e, if_false]; exact lookup_restr_mem l t hm
      | none => exact lookup_restr_mem l t hm
theorem St.cut_leO (s : St) (ops : List Oper) (o : Oper) : (s.cut ops o).LeO o s := ⟨s.cut_le ops o, fun j hj h => by
  have : j ∈ rdR ops s o := by simp [rdR, hj]
  rw [← lookup_restr_mem s.roots j this]; exact h⟩
theorem St.cut_congr {s s' : St} {ops : List Oper} {o : Oper} (hn : s.n = s'.n) (ht : ∀ t ∈ rdT ops o, lookup s.tmps t = lookup s'.tmps t) (hr : ∀ r ∈ rdR ops s o, lookup s.roots r = lookup s'.roots r) :
    s.cut ops o = s'.cut ops o := by
  have h1 : restr s.tmps (rdT ops o) = restr s'.tmps (rdT ops o) := restr_congr ht
  have h2 : restr s.roots (valsOf (restr s.tmps (rdT ops o))) = restr s'.roots (valsOf (restr s.tmps (rdT ops o))) := restr_congr fun r hm => hr r (by simp only [rdR, List.mem_append]; exact .inl (.inl (.inl hm)))
  have h3 : restr s.roots (linksOf (restr s.roots (valsOf (restr s.tmps (rdT ops o))))) = restr s'.roots (linksOf (restr s.roots (valsOf (restr s.tmps (rdT ops o))))) := restr_congr fun r hm => hr r (by simp only [rdR, List.mem_append]; exact .inl (.inl (.inr hm)))
  have h4 : rdR ops s o = rdR ops s' o := by simp only [rdR, ← h1, ← h2, ← h3]
  obtain ⟨n, tm, rt⟩ := s
  obtain ⟨n', tm', rt'⟩ := s'
  simp only at hn
  subst hn
  simp only [St.cut, St.mk.injEq, true_and, and_true]
  refine ⟨h1, ?_⟩
  rw [← h4]
  exact restr_congr hr

/-- What an operation did in the text's order. -/
structure Rec where
  o : Oper
  d : Option Eff
  rt : List Nat
def Rec.app (r : Rec) (s : St) : St := match r.d with | some e => s.app r.o.dst e | none => s.skip r.o.dst
def Rec.ups (r : Rec) : List Nat := match r.d with | some e => e.ups.map (·.1) | none => []
def exec (E : Nat → Bool) : Nat → List Rec → St → St
  | _, [], s => s
  | i, r :: rs, s => exec E (i + 1) rs (if E i = true then r.app s else s)
theorem Rec.app_n (r : Rec) (s : St) : (r.app s).n = s.n := by unfold Rec.app; split <;> rfl
theorem exec_n (E : Nat → Bool) : ∀ (rs : List Rec) (i : Nat) (s : St), (exec E i rs s).n = s.n
  | [], _, _ => rfl
  | r :: rs, i, s => by
    simp only [exec]
    rw [exec_n E rs (i + 1)]
    split
    · exact r.app_n s
    · rfl
theorem Rec.app_tmp (r : Rec) {s s' : St} {t : Nat} (h : r.o.dst = some t ∨ lookup s.tmps t = lookup s'.tmps t) : lookup (r.app s).tmps t = lookup (r.app s').tmps t := by
  unfold Rec.app
  split
  · simp only [St.app]
    split
    · rename_i d hd
      simp only [lookup_put]
      split
      · rfl
      · rename_i hne
        exact h.resolve_left fun e => hne (by simpa [hd] using e)
    · rename_i hd
      exact h.resolve_left (by simp [hd])
  · simp only [St.skip]
    split
    · rename_i d hd
      simp only [lookup_erase]
      split
      · rfl
      · rename_i hne
        exact h.resolve_left fun e => hne (by simpa [hd] using e)
    · rename_i hd
      exact h.resolve_left (by simp [hd])
theorem Rec.app_tmp_other (r : Rec) {s : St} {t : Nat} (h : r.o.dst ≠ some t) : lookup (r.app s).tmps t = lookup s.tmps t := by
  unfold Rec.app
  split
  · simp only [St.app]
    split
    · rename_i d hd
      rw [lookup_put, if_neg fun e => h (by rw [hd, e])]
    · rfl
  · simp only [St.skip]
    split
    · rename_i d hd
      rw [lookup_erase, if_neg fun e => h (by rw [hd, e])]
    · rfl
theorem lookup_appUps : ∀ (us : List (Nat × Root)) {rs rs' : List (Nat × Root)} {x : Nat}, (x ∈ us.map (·.1) ∨ lookup rs x = lookup rs' x) → lookup (appUps us rs) x = lookup (appUps us rs') x
  | [], _, _, _, h => by simpa [appUps] using h
  | (r, v) :: us, rs, rs', x, h => by
    simp only [appUps]
    refine lookup_appUps us ?_
    simp only [lookup_put]
    by_cases e : r = x
    · right; simp [e]
    · simp only [List.map_cons, List.mem_cons] at h
      rcases h with (h | h) | h
      · exact absurd h.symm e
      · exact .inl h
      · right; simp [e, h]
theorem lookup_appUps_other : ∀ (us : List (Nat × Root)) {rs : List (Nat × Root)} {x : Nat}, x ∉ us.map (·.1) → lookup (appUps us rs) x = lookup rs x
  | [], _, _, _ => rfl
  | (r, v) :: us, rs, x, h => by
    simp only [List.map_cons, List.mem_cons, not_or] at h
    simp only [appUps]
    rw [lookup_appUps_other us h.2, lookup_put, if_neg fun e => h.1 e.symm]
theorem Rec.app_root (r : Rec) {s s' : St} {x : Nat} (h : x ∈ r.ups ∨ lookup s.roots x = lookup s'.roots x) : lookup (r.app s).roots x = lookup (r.app s').roots x := by
  unfold Rec.app
  unfold Rec.ups at h
  cases hd : r.d with
  | some e => simp only [hd] at h ⊢; simp only [St.app]; exact lookup_appUps _ h
  | none => simp only [hd] at h ⊢; simpa [St.skip] using h
theorem Rec.app_root_other (r : Rec) {s : St} {x : Nat} (h : x ∉ r.ups) : lookup (r.app s).roots x = lookup s.roots x := by
  unfold Rec.app
  unfold Rec.ups at h
  cases hd : r.d with
  | some e => simp only [hd] at h ⊢; simp only [St.app]; exact lookup_appUps_other _ h
  | none => rfl
theorem exec_tmp {E E' : Nat → Bool} {t : Nat} : ∀ (rs : List Rec) (k : Nat) (s s' : St), lookup s.tmps t = lookup s'.tmps t → (∀ j r, rs[j]? = some r → r.o.dst = some t → E (k + j) = E' (k + j)) →
    lookup (exec E k rs s).tmps t = lookup (exec E' k rs s').tmps t
  | [], _, _, _, h, _ => h
  | r :: rs, k, s, s', h, hE => by
    simp only [exec]
    refine exec_tmp rs (k + 1) _ _ ?_ fun j q hj hq => by have := hE (j + 1) q (by simpa using hj) hq; simpa [Nat.add_assoc, Nat.add_comm 1 j] using this
    by_cases hw : r.o.dst = some t
    · have := hE 0 r rfl hw
      simp only [Nat.add_zero] at this
      rw [this]
      split
      · exact r.app_tmp (.inl hw)
      · exact h
    · have h1 : lookup (if E k = true then r.app s else s).tmps t = lookup s.tmps t := by split <;> first | exact r.app_tmp_other hw | rfl
      have h2 : lookup (if E' k = true then r.app s' else s').tmps t = lookup s'.tmps t := by split <;> first | exact r.app_tmp_other hw | rfl
      rw [h1, h2, h]
theorem exec_root {E E' : Nat → Bool} {x : Nat} : ∀ (rs : List Rec) (k : Nat) (s s' : St), lookup s.roots x = lookup s'.roots x → (∀ j r, rs[j]? = some r → x ∈ r.ups → E (k + j) = E' (k + j)) →
    lookup (exec E k rs s).roots x = lookup (exec E' k rs s').roots x
  | [], _, _, _, h, _ => h
  | r :: rs, k, s, s', h, hE => by
    simp only [exec]
    refine exec_root rs (k + 1) _ _ ?_ fun j q hj hq => by have := hE (j + 1) q (by simpa using hj) hq; simpa [Nat.add_assoc, Nat.add_comm 1 j] using this
    by_cases hw : x ∈ r.ups
    · have := hE 0 r rfl hw
      simp only [Nat.add_zero] at this
      rw [this]
      split
      · exact r.app_root (.inl hw)
      · exact h
    · have h1 : lookup (if E k = true then r.app s else s).roots x = lookup s.roots x := by split <;> first | exact r.app_root_other hw | rfl
      have h2 : lookup (if E' k = true then r.app s' else s').roots x = lookup s'.roots x := by split <;> first | exact r.app_root_other hw | rfl
      rw [h1, h2, h]
theorem exec_none {E : Nat → Bool} : ∀ (rs : List Rec) (k : Nat) (s : St), (∀ j, k ≤ j → E j = false) → exec E k rs s = s
  | [], _, _, _ => rfl
  | r :: rs, k, s, h => by
    simp only [exec, h k (Nat.le_refl _)]
    exact exec_none rs (k + 1) s fun j hj => h j (by omega)
/-- When an operation comes after the others of a set, it writes last. -/
theorem exec_put_tmp {E' : Nat → Bool} {t : Nat} {i : Nat} {q : Rec} : ∀ (rs : List Rec) (k : Nat) (s : St), rs[i]? = some q → E' (k + i) = true → q.o.dst = some t →
    (∀ j r, i < j → rs[j]? = some r → r.o.dst = some t → E' (k + j) = false) → ∀ s'' : St, lookup (exec E' k rs s).tmps t = lookup (q.app s'').tmps t
  | [], _, _, h, _, _, _ => by simp at h
  | r :: rs, k, s, h, hE, hw, hl => by
    intro s''
    simp only [exec]
    match i, h with
    | 0, h =>
      obtain rfl : r = q := by simpa using h
      simp only [Nat.add_zero] at hE
      rw [hE]
      have key := exec_tmp (E := E') (E' := fun _ => false) rs (k + 1) (r.app s) (r.app s) rfl fun j p hj hp => by
        have := hl (j + 1) p (by omega) (by simpa using hj) hp
        simpa [Nat.add_assoc, Nat.add_comm 1 j] using this
      simp only [if_true]
      rw [key, exec_none rs (k + 1) _ fun _ _ => rfl]
      exact r.app_tmp (.inl hw)
    | i + 1, h =>
      exact exec_put_tmp rs (k + 1) _ (by simpa using h) (by simpa [Nat.add_assoc, Nat.add_comm 1 i] using hE) hw (fun j p hj hp hd => by
        have := hl (j + 1) p (by omega) (by simpa using hp) hd
        simpa [Nat.add_assoc, Nat.add_comm 1 j] using this) s''
theorem exec_put_root {E' : Nat → Bool} {x : Nat} {i : Nat} {q : Rec} : ∀ (rs : List Rec) (k : Nat) (s : St), rs[i]? = some q → E' (k + i) = true → x ∈ q.ups →
    (∀ j r, i < j → rs[j]? = some r → x ∈ r.ups → E' (k + j) = false) → ∀ s'' : St, lookup (exec E' k rs s).roots x = lookup (q.app s'').roots x
  | [], _, _, h, _, _, _ => by simp at h
  | r :: rs, k, s, h, hE, hw, hl => by
    intro s''
    simp only [exec]
    match i, h with
    | 0, h =>
      obtain rfl : r = q := by simpa using h
      simp only [Nat.add_zero] at hE
      rw [hE]
      have key := exec_root (E := E') (E' := fun _ => false) rs (k + 1) (r.app s) (r.app s) rfl fun j p hj hp => by
        have := hl (j + 1) p (by omega) (by simpa using hj) hp
        simpa [Nat.add_assoc, Nat.add_comm 1 j] using this
      simp only [if_true]
      rw [key, exec_none rs (k + 1) _ fun _ _ => rfl]
      exact r.app_root (.inl hw)
    | i + 1, h =>
      exact exec_put_root rs (k + 1) _ (by simpa using h) (by simpa [Nat.add_assoc, Nat.add_comm 1 i] using hE) hw (fun j p hj hp hd => by
        have := hl (j + 1) p (by omega) (by simpa using hp) hd
        simpa [Nat.add_assoc, Nat.add_comm 1 j] using this) s''

/- ### What comes before what -/
def edgesA : List Edge → List (List Nat) → List Nat
  | [], _ => []
  | e :: es, acc => match Region.binds .any e with
    | true => e.on :: (acc.getD e.on [] ++ edgesA es acc)
    | false => edgesA es acc
def ancs : List Oper → List (List Nat) → List (List Nat)
  | [], acc => acc
  | o :: rest, acc => ancs rest (acc ++ [edgesA o.after.toList acc])
def disj : List Nat → List Nat → Bool
  | [], _ => true
  | x :: xs, l => !hasN x l && disj xs l
theorem disj_iff : ∀ {xs l : List Nat}, disj xs l = true ↔ ∀ x ∈ xs, x ∉ l
  | [], l => by simp [disj]
  | x :: xs, l => by
    have := @hasN_iff x l
    simp only [disj, Bool.and_eq_true, Bool.not_eq_true', disj_iff (xs := xs), List.forall_mem_cons]
    constructor
    · rintro ⟨h1, h2⟩; exact ⟨fun h => (by rw [this.2 h] at h1; cases h1), h2⟩
    · rintro ⟨h1, h2⟩; exact ⟨(by cases h : hasN x l <;> simp_all), h2⟩
def dstL (o : Oper) : List Nat := match o.dst with | some d => [d] | none => []
/-- Two operations that don't meddle with each other. -/
def apartR (ops : List Oper) (x y : Rec) : Bool :=
  disj (dstL x.o) (dstL y.o ++ rdT ops y.o) && disj (dstL y.o) (rdT ops x.o) && disj x.ups (y.rt ++ y.ups) && disj y.ups x.rt
def pairsOk (ops : List Oper) (x : Rec) (i : Nat) : List Rec → List (List Nat) → Bool
  | y :: ys, a :: as => (hasN i a || apartR ops x y) && pairsOk ops x i ys as
  | _, _ => true
def allOk (ops : List Oper) : Nat → List Rec → List (List Nat) → Bool
  | i, x :: xs, _ :: as => pairsOk ops x i xs as && allOk ops (i + 1) xs as
  | _, _, _ => true
def backOk : Nat → List Oper → Bool
  | _, [] => true
  | i, o :: os => (o.after.toList.all fun e => !Region.binds .any e || Nat.blt e.on i) && backOk (i + 1) os
def drawOk (ops : List Oper) (rs : List Rec) : Bool := backOk 0 ops && allOk ops 0 rs (ancs ops [])
theorem ancs_len : ∀ (l : List Oper) (acc : List (List Nat)), (ancs l acc).length = acc.length + l.length
  | [], acc => by simp [ancs]
  | o :: l, acc => by simp only [ancs]; rw [ancs_len l]; simp; omega
/-- A set that is closed under what must come before holds all that comes before. -/
theorem edgesA_mem {S : Nat → Prop} {ops : List Oper} {acc : List (List Nat)} (hacc : ∀ i m, m ∈ acc.getD i [] → S i → S m) : ∀ {es : List Edge} {m : Nat}, (∀ e ∈ es, Region.binds .any e = true → S e.on) → m ∈ edgesA es acc → S m
  | [], _, _, h => by simp [edgesA] at h
  | e :: es, m, hes, h => by
    simp only [edgesA] at h
    split at h
    · rename_i hb
      have he := hes e (by simp) hb
      simp only [List.mem_cons, List.mem_append] at h
      rcases h with rfl | h | h
      · exact he
      · exact hacc _ _ h he
      · exact edgesA_mem (ops := ops) hacc (fun e' he' => hes e' (by simp [he'])) h
    · exact edgesA_mem (ops := ops) hacc (fun e' he' => hes e' (by simp [he'])) h
theorem ancs_mem {S : Nat → Prop} : ∀ (l : List Oper) (acc : List (List Nat)), (∀ j o, l[j]? = some o → S (acc.length + j) → ∀ e ∈ o.after.toList, Region.binds .any e = true → S e.on) →
    (∀ i m, m ∈ acc.getD i [] → S i → S m) → ∀ i m, m ∈ (ancs l acc).getD i [] → S i → S m
  | [], acc, _, hacc => hacc
  | o :: l, acc, hl, hacc => by
    simp only [ancs]
    refine ancs_mem l _ (fun j p hj hS => hl (j + 1) p (by simpa using hj) (by simpa [Nat.add_assoc, Nat.add_comm 1 j] using hS)) fun i m hm hS => ?_
    simp only [List.getD_eq_getElem?_getD] at hm
    rcases Nat.lt_trichotomy i acc.length with h | h | h
    · rw [List.getElem?_append_left h] at hm
      exact hacc i m (by simpa [List.getD_eq_getElem?_getD] using hm) hS
    · subst h
      rw [List.getElem?_append_right (Nat.le_refl _)] at hm
      simp only [Nat.sub_self, List.getElem?_cons_zero, Option.getD_some] at hm
      exact edgesA_mem (ops := l) hacc (hl 0 o rfl (by simpa using hS)) hm
    · rw [List.getElem?_eq_none (by simp; omega)] at hm
      simp at hm
/-- The ancestors of an operation, as far as the text has come, don't change. -/
theorem ancs_pre : ∀ (l : List Oper) (acc : List (List Nat)) (i : Nat), i < acc.length → (ancs l acc).getD i [] = acc.getD i []
  | [], _, _, _ => rfl
  | o :: l, acc, i, h => by
    simp only [ancs]
    rw [ancs_pre l _ i (by simp; omega)]
    simp [List.getD_eq_getElem?_getD, List.getElem?_append_left h]
theorem pairsOk_get {ops : List Oper} {x : Rec} {i : Nat} : ∀ {rs : List Rec} {as : List (List Nat)}, rs.length = as.length → pairsOk ops x i rs as = true → ∀ j y, rs[j]? = some y → i ∈ as.getD j [] ∨ apartR ops x y = true
  | [], _, _, _, _, _, h => by simp at h
  | r :: rs, [], h, _, _, _, _ => by simp at h
  | r :: rs, a :: as, hl, h, j, y, hy => by
    simp only [pairsOk, Bool.and_eq_true, Bool.or_eq_true, hasN_iff] at h
    cases j with
    | zero =>
      obtain rfl : r = y := by simpa using hy
      simpa using h.1
    | succ j => simpa using pairsOk_get (by simpa using hl) h.2 j y (by simpa using hy)
theorem allOk_get {ops : List Oper} : ∀ {rs : List Rec} {as : List (List Nat)} {k : Nat}, rs.length = as.length → allOk ops k rs as = true → ∀ i j x y, i < j → rs[i]? = some x → rs[j]? = some y → (k + i) ∈ as.getD j [] ∨ apartR ops x y = true
  | [], _, _, _, _, _, _, _, _, _, h, _ => by simp at h
  | r :: rs, [], _, h, _, _, _, _, _, _, _, _ => by simp at h
  | r :: rs, a :: as, k, hl, h, i, j, x, y, hij, hx, hy => by
    simp only [allOk, Bool.and_eq_true] at h
    match i, j, hij with
    | 0, j + 1, _ =>
      obtain rfl : r = x := by simpa using hx
      simpa using pairsOk_get (by simpa using hl) h.1 j y (by simpa using hy)
    | i + 1, j + 1, hij =>
      have := allOk_get (by simpa using hl) h.2 i j x y (by omega) (by simpa using hx) (by simpa using hy)
      simpa [Nat.add_assoc, Nat.add_comm 1 i] using this

/- ### The text's run, and any other -/
def restrK {α : Type} (l : List (Nat × α)) : List Nat → (List (Nat × α) → Prop) → Prop
  | [], K => K []
  | t :: ts, K => match lookup l t with
    | some v => restrK l ts fun m => K ((t, v) :: m)
    | none => restrK l ts K
theorem restrK_eq {α : Type} (l : List (Nat × α)) : ∀ (ts : List Nat) (K : List (Nat × α) → Prop), restrK l ts K = K (restr l ts)
  | [], _ => rfl
  | t :: ts, K => by simp only [restrK, restr]; cases lookup l t <;> simp only [restrK_eq l ts]
theorem restr_nil {α : Type} : ∀ (ts : List Nat), restr ([] : List (Nat × α)) ts = []
  | [] => rfl
  | t :: ts => by simp only [restr, lookup, restr_nil ts]
def St.cutK : St → List Oper → Oper → (St → Prop) → Prop
  | ⟨n, tm, []⟩, ops, o, K => restrK tm (rdT ops o) fun tm' => K ⟨n, tm', []⟩
  | ⟨n, tm, r :: rt⟩, ops, o, K => restrK tm (rdT ops o) fun tm' => restrK (r :: rt) (rdR ops ⟨n, tm, r :: rt⟩ o) fun rt' => K ⟨n, tm', rt'⟩
theorem St.cutK_eq (s : St) (ops : List Oper) (o : Oper) (K : St → Prop) : s.cutK ops o K = K (s.cut ops o) := by
  obtain ⟨n, tm, rt⟩ := s
  cases rt <;> simp only [St.cutK, restrK_eq, St.cut, restr_nil]
def vopsD (P : Program) (T : Tab) (ops : List Oper) : List Oper → St → List Rec → (List Rec → St → Prop) → Prop
  | [], s, acc, K => K acc s
  | o :: rest, s, acc, K => vguard ops s o (s.cutK ops o fun s' => vop P T s' o fun e => match dstOk s o.dst with
      | true => s.appK o.dst e fun s2 => vopsD P T ops rest s2 (acc ++ [⟨o, some e, rdR ops s o⟩]) K
      | false => False) (s.skipK o.dst fun s2 => vopsD P T ops rest s2 (acc ++ [⟨o, none, rdR ops s o⟩]) K)
/-- What an operation's record says of the state before it. -/
def Good (P : Program) (T : Tab) (ops : List Oper) (s : St) (r : Rec) : Prop :=
  r.rt = rdR ops s r.o ∧ vguard ops s r.o (∃ e, r.d = some e ∧ (vop P T (s.cut ops r.o) r.o fun u => u = e) ∧ dstOk s r.o.dst = true) (r.d = none)
def Tr (P : Program) (T : Tab) (ops : List Oper) : St → List Rec → St → Prop
  | s, [], s' => s = s'
  | s, r :: rs, s' => Good P T ops s r ∧ Tr P T ops (r.app s) rs s'
theorem Tr.snoc {P : Program} {T : Tab} {ops : List Oper} : ∀ {rs : List Rec} {s s1 : St} {r : Rec}, Tr P T ops s rs s1 → Good P T ops s1 r → Tr P T ops s (rs ++ [r]) (r.app s1)
  | [], _, _, _, h, hg => by simp only [Tr] at h; subst h; exact ⟨hg, rfl⟩
  | q :: rs, _, _, _, h, hg => ⟨h.1, Tr.snoc h.2 hg⟩
theorem brP_cases {b : Bool} {p q : Prop} (h : brP b p q) : (brP b True False ∧ p) ∨ (brP b False True ∧ q) := by
  cases b
  · exact .inr ⟨trivial, h⟩
  · exact .inl ⟨trivial, h⟩
theorem vguard_cases {ops : List Oper} {s : St} {o : Oper} {p q : Prop} (h : vguard ops s o p q) : (vguard ops s o True False ∧ p) ∨ (vguard ops s o False True ∧ q) := by
  unfold vguard at h ⊢
  cases hg : o.guard with
  | none => rw [hg] at h; exact .inl ⟨trivial, h⟩
  | some x =>
    obtain ⟨j, want⟩ := x
    rw [hg] at h
    simp only at h ⊢
    split at h
    · split at h
      · split at h
        · cases want
          · exact (brP_cases h).symm
          · exact brP_cases h
        · exact h.elim
      · exact h.elim
    · exact h.elim
theorem vopsD_tr {P : Program} {T : Tab} {ops : List Oper} {K : List Rec → St → Prop} : ∀ (l : List Oper) (s0 s : St) (acc : List Rec), Tr P T ops s0 acc s → vopsD P T ops l s acc K →
    ∃ rs s', Tr P T ops s0 (acc ++ rs) s' ∧ rs.map (·.o) = l ∧ K (acc ++ rs) s'
  | [], s0, s, acc, ht, h => ⟨[], s, by simpa using ht, rfl, by simpa [vopsD] using h⟩
  | o :: l, s0, s, acc, ht, h => by
    simp only [vopsD, St.appK_eq, St.skipK_eq, St.cutK_eq] at h
    have key : ∃ d, Good P T ops s ⟨o, d, rdR ops s o⟩ ∧ vopsD P T ops l (Rec.app ⟨o, d, rdR ops s o⟩ s) (acc ++ [⟨o, d, rdR ops s o⟩]) K := by
      rcases vguard_cases h with ⟨hv, h⟩ | ⟨hv, h⟩
      · obtain ⟨e, h1, h2⟩ := vop_eff h
        split at h2
        · rename_i hd
          exact ⟨some e, ⟨rfl, vguard_mono hv (fun _ => ⟨e, rfl, h1, hd⟩) False.elim⟩, h2⟩
        · exact h2.elim
      · exact ⟨none, ⟨rfl, vguard_mono hv False.elim fun _ => rfl⟩, h⟩
    obtain ⟨d, hg, hk⟩ := key
    obtain ⟨rs, s', h1, h2, h3⟩ := vopsD_tr l s0 _ _ (Tr.snoc ht hg) hk
    exact ⟨⟨o, d, rdR ops s o⟩ :: rs, s', by simpa using h1, by simp [h2], by simpa using h3⟩
theorem Tr.get {P : Program} {T : Tab} {ops : List Oper} : ∀ {rs : List Rec} {s s' : St} {k i : Nat} {r : Rec}, Tr P T ops s rs s' → rs[i]? = some r → Good P T ops (exec (fun j => decide (j < k + i)) k rs s) r
  | [], _, _, _, _, _, _, h => by simp at h
  | q :: rs, s, s', k, 0, r, ht, h => by
    obtain rfl : q = r := by simpa using h
    rw [exec_none _ k s (fun j hj => by simp; omega)]
    exact ht.1
  | q :: rs, s, s', k, i + 1, r, ht, h => by
    have := Tr.get (k := k + 1) ht.2 (show rs[i]? = some r by simpa using h)
    simp only [exec]
    rw [if_pos (by simp)]
    have e : (fun j => decide (j < k + 1 + i)) = fun j => decide (j < k + (i + 1)) := by funext j; congr 1; simp [Nat.add_assoc, Nat.add_comm 1 i]
    rw [e] at this
    exact this
theorem Tr.all {P : Program} {T : Tab} {ops : List Oper} : ∀ {rs : List Rec} {s s' : St} {k : Nat}, Tr P T ops s rs s' → exec (fun _ => true) k rs s = s'
  | [], _, _, _, h => h
  | q :: rs, s, s', k, h => by simp only [exec, if_true]; exact Tr.all h.2
theorem Rels.eqv {P : Program} {c : Ctx P} {s s' : St} {a : Act} {w : World} (h : Rels c s a w) (hn : s.n = s'.n) (ht : ∀ t, lookup s.tmps t = lookup s'.tmps t) (hr : ∀ r, lookup s.roots r = lookup s'.roots r) : Rels c s' a w := by
  obtain ⟨col, lk, h⟩ := h
  have hv : VStep w w col col lk lk s.roots s'.roots := ⟨fun b _ hc => ⟨rfl, hc⟩, fun _ _ h => h, fun r x hx => ⟨x, (hr r).symm.trans hx, .inl rfl⟩⟩
  exact ⟨col, lk, h.inv, h.n.trans hn, fun t v hx => by
    obtain ⟨h1, h2⟩ := h.tm t v ((ht t).trans hx)
    exact ⟨hn ▸ h1, VRep.step hv v h2⟩, fun r n e p hp => h.rt r n e p ((hr r).trans hp), fun b r q hb h0 => by
    obtain ⟨x, hx⟩ := h.cl b r q hb h0
    exact ⟨x, (hr r).symm.trans hx⟩, fun r v hv => by
    obtain ⟨x, hx⟩ := h.ln r v hv
    exact ⟨x, (hr r).symm.trans hx⟩, (hr 0).symm.trans h.z, h.df, h.pr⟩

def unl : Nat → Array Bool → Nat
  | 0, _ => 0
  | n + 1, l => unl n l + (if l.getD n true = true then 0 else 1)
theorem unl_set {l : Array Bool} {i : Nat} (hi : l.getD i true = false) : ∀ n, unl n (l.setIfInBounds i true) + (if i < n then 1 else 0) = unl n l
  | 0 => by simp [unl]
  | n + 1 => by
    have ih := unl_set hi n
    have hlt : i < l.size := by
      rcases Nat.lt_or_ge i l.size with h | h
      · exact h
      · simp [Array.getD_eq_getD_getElem?, Array.getElem?_eq_none h] at hi
    simp only [unl]
    by_cases e : i = n
    · subst e
      have h1 : (l.setIfInBounds i true).getD i true = true := by simp [Array.getD_eq_getD_getElem?, hlt]
      rw [h1, hi]
      simp at ih ⊢
      omega
    · rw [getD_set_ne true e]
      by_cases h : i < n
      · simp [h, show i < n + 1 by omega] at ih ⊢; omega
      · simp [h, show ¬ i < n + 1 by omega] at ih ⊢; omega
theorem unl_zero {l : Array Bool} : ∀ {n : Nat}, unl n l = 0 → ∀ j, j < n → l.getD j true = true
  | 0, _, j, hj => by omega
  | n + 1, h, j, hj => by
    simp only [unl] at h
    by_cases e : j = n
    · subst e; by_cases hl : l.getD j true = true
      · exact hl
      · rw [if_neg hl] at h; omega
    · exact unl_zero (n := n) (by omega) j (by omega)
theorem exec_congr {E E' : Nat → Bool} : ∀ (rs : List Rec) (k : Nat) (s : St), (∀ j, j < rs.length → E (k + j) = E' (k + j)) → exec E k rs s = exec E' k rs s
  | [], _, _, _ => rfl
  | r :: rs, k, s, h => by
    simp only [exec]
    have h0 := h 0 (by simp)
    simp only [Nat.add_zero] at h0
    rw [h0]
    exact exec_congr rs (k + 1) _ fun j hj => by have := h (j + 1) (by simpa using hj); simpa [Nat.add_assoc, Nat.add_comm 1 j] using this
theorem vguard_congr {ops : List Oper} {s s' : St} {o : Oper} {p q : Prop} (h : ∀ t ∈ guardT ops o, lookup s.tmps t = lookup s'.tmps t) (hg : vguard ops s o p q) : vguard ops s' o p q := by
  unfold vguard at hg ⊢
  unfold guardT at h
  cases hgu : o.guard with
  | none => rw [hgu] at hg; exact hg
  | some x =>
    obtain ⟨j, want⟩ := x
    rw [hgu] at hg h
    simp only at hg h ⊢
    cases hj : ops[j]? with
    | none => rw [hj] at hg; exact hg.elim
    | some oj =>
      rw [hj] at hg h
      simp only at hg h ⊢
      cases hd : oj.dst with
      | none => rw [hd] at hg; exact hg.elim
      | some d =>
        rw [hd] at hg h
        simp only at hg h ⊢
        rw [← h d (by simp)]
        exact hg
theorem backOk_get : ∀ {os : List Oper} {k j : Nat} {o : Oper}, backOk k os = true → os[j]? = some o → ∀ e ∈ o.after.toList, Region.binds .any e = true → e.on < k + j
  | [], _, _, _, _, h => by simp at h
  | p :: os, k, 0, o, h, hj => by
    obtain rfl : p = o := by simpa using hj
    simp only [backOk, Bool.and_eq_true, List.all_eq_true] at h
    intro e he hb
    have := h.1 e he
    simp only [hb, Bool.not_true, Bool.false_or] at this
    have := Nat.le_of_ble_eq_true this
    omega
  | p :: os, k, j + 1, o, h, hj => by
    simp only [backOk, Bool.and_eq_true] at h
    intro e he hb
    have := backOk_get h.2 (show os[j]? = some o by simpa using hj) e he hb
    omega
theorem getD_tf {l : Array Bool} {j : Nat} (h : j < l.size) : l.getD j true = l.getD j false := by simp [Array.getD_eq_getD_getElem?, h]

theorem draw_any {P : Program} {T : Tab} {c : Ctx P} {Q : Exit → Act → World → Prop} {ops : Array Oper} {rs : List Rec} {s0 s' : St} (hT : TabOk P T) (htr : Tr P T ops.toList s0 rs s') (hmap : rs.map (·.o) = ops.toList)
    (hok : drawOk ops.toList rs = true) (hQ : ∀ a w, Rels c s' a w → Q .normal a w) :
    ∀ (fuel : Nat) (listed : Array Bool) (a : Act) (w : World), listed.size = ops.size → unl ops.size listed ≤ fuel →
      (∀ j o, ops[j]? = some o → listed.getD j false = true → ∀ e ∈ o.after.toList, Region.binds .any e = true → listed.getD e.on false = true) →
      Rels c (exec (fun j => listed.getD j false) 0 rs s0) a w → wpAny P .any ops Q fuel listed a w := by
  have hlen : rs.length = ops.size := by rw [← List.length_map (f := (·.o)), hmap]; simp
  have hrec : ∀ (i : Nat) (r : Rec), rs[i]? = some r → ops[i]? = some r.o := fun i r h => by
    have : (rs.map (·.o))[i]? = some r.o := by simp [h]
    rw [hmap] at this
    simpa using this
  have hrec' : ∀ (i : Nat) (o : Oper), ops[i]? = some o → ∃ r, rs[i]? = some r ∧ r.o = o := fun i o h => by
    have : (rs.map (·.o))[i]? = some o := by rw [hmap]; simpa using h
    simpa using this
  simp only [drawOk, Bool.and_eq_true] at hok
  obtain ⟨hback, hall⟩ := hok
  have hal : rs.length = (ancs ops.toList []).length := by rw [ancs_len]; simp [hlen]
  have hpair := allOk_get hal hall
  simp only [Nat.zero_add] at hpair
  -- all is listed when nothing is ready
  have hdone : ∀ listed : Array Bool, listed.size = ops.size → Region.ready .any ops listed = [] → ∀ j, j < ops.size → listed.getD j false = true := by
    intro listed hsz hr j
    induction j using Nat.strongRecOn with
    | _ j ih =>
      intro hj
      cases hl : listed.getD j false with
      | true => rfl
      | false =>
        exfalso
        obtain ⟨o, ho⟩ : ∃ o, ops[j]? = some o := ⟨ops[j], by simp [hj]⟩
        have : j ∈ Region.ready .any ops listed := by
          rw [mem_ready]
          refine ⟨by rw [getD_tf (by omega)]; exact hl, o, ho, fun e he hb => ?_⟩
          have hlt := backOk_get hback (show ops.toList[j]? = some o by simpa using ho) e (by simpa using he) hb
          simp only [Nat.zero_add] at hlt
          exact ih e.on hlt (by omega)
        rw [hr] at this
        cases this
  have hfin : ∀ (listed : Array Bool) a w, listed.size = ops.size → (∀ j, j < ops.size → listed.getD j false = true) → Rels c (exec (fun j => listed.getD j false) 0 rs s0) a w → Q .normal a w := by
    intro listed a w hsz hl hr
    rw [exec_congr (E' := fun _ => true) rs 0 s0 (fun j hj => by simp only [Nat.zero_add]; exact hl j (by omega)), htr.all] at hr
    exact hQ a w hr
  intro fuel
  induction fuel with
  | zero =>
    intro listed a w hsz hu hdc hr
    have hl : ∀ j, j < ops.size → listed.getD j false = true := fun j hj => by
      rw [← getD_tf (by omega)]; exact unl_zero (Nat.le_zero.1 hu) j hj
    refine ⟨?_, hfin listed a w hsz hl hr⟩
    cases hrd : Region.ready .any ops listed with
    | nil => rfl
    | cons i l =>
      exfalso
      have : i ∈ Region.ready .any ops listed := by rw [hrd]; simp
      rw [mem_ready] at this
      obtain ⟨h0, o, ho, _⟩ := this
      have hi : i < ops.size := (Array.getElem?_eq_some_iff.1 ho).1
      rw [getD_tf (by omega), hl i hi] at h0
      cases h0
  | succ fuel ih =>
    intro listed a w hsz hu hdc hr
    refine ⟨fun hrd => hfin listed a w hsz (hdone listed hsz hrd) hr, fun i hi => ?_⟩
    rw [mem_ready] at hi
    obtain ⟨h0, o, ho, hpre⟩ := hi
    have hilt : i < ops.size := (Array.getElem?_eq_some_iff.1 ho).1
    obtain ⟨r, hri, rfl⟩ := hrec' i o ho
    have h0' : listed.getD i false = false := by rw [← getD_tf (by omega)]; exact h0
    -- what comes before
    have hlow : ∀ (j : Nat) (q : Rec), j < i → rs[j]? = some q → listed.getD j false = false → apartR ops.toList q r = true := by
      intro j q hj hq hl
      rcases hpair j i q r hj hq hri with h | h
      · exfalso
        have := ancs_mem (S := fun m => m = i ∨ listed.getD m false = true) ops.toList [] (fun k p hk hS e he hb => by
          simp only [List.length_nil, Nat.zero_add] at hS
          rcases hS with rfl | hS
          · have : p = r.o := by
              have : ops[k]? = some p := by simpa using hk
              rw [ho] at this; simpa using this.symm
            subst this
            exact .inr (hpre e (by simpa using he) hb)
          · exact .inr (hdc k p (by simpa using hk) hS e he hb)) (by simp) i j h (.inl rfl)
        rcases this with e | e
        · omega
        · rw [hl] at e; cases e
      · exact h
    have hhigh : ∀ (j : Nat) (q : Rec), i < j → rs[j]? = some q → listed.getD j false = true → apartR ops.toList r q = true := by
      intro j q hj hq hl
      rcases hpair i j r q hj hri hq with h | h
      · exfalso
        have := ancs_mem (S := fun m => listed.getD m false = true) ops.toList [] (fun k p hk hS e he hb => by
          simp only [List.length_nil, Nat.zero_add] at hS
          exact hdc k p (by simpa using hk) hS e he hb) (by simp) j i h hl
        rw [h0'] at this; cases this
      · exact h
    obtain ⟨hrt, hgood⟩ := htr.get (k := 0) hri
    simp only [Nat.zero_add] at hrt hgood
    let S := exec (fun j => listed.getD j false) 0 rs s0
    let Si := exec (fun j => decide (j < i)) 0 rs s0
    have htm : ∀ t ∈ rdT ops.toList r.o, lookup Si.tmps t = lookup S.tmps t := by
      intro t ht
      refine exec_tmp rs 0 s0 s0 rfl fun j q hq hd => ?_
      simp only [Nat.zero_add]
      have hm : t ∈ dstL q.o := by simp [dstL, hd]
      rcases Nat.lt_trichotomy j i with h | h | h
      · simp only [h, decide_true]
        cases hl : listed.getD j false with
        | true => rfl
        | false =>
          have := hlow j q h hq hl
          simp only [apartR, Bool.and_eq_true, disj_iff] at this
          exact absurd (List.mem_append_right _ ht) (this.1.1.1 t hm)
      · subst h; simp [h0']
      · simp only [show ¬ j < i by omega, decide_false]
        cases hl : listed.getD j false with
        | false => rfl
        | true =>
          have := hhigh j q h hq hl
          simp only [apartR, Bool.and_eq_true, disj_iff] at this
          exact absurd ht (this.1.1.2 t hm)
    have hrtm : ∀ x ∈ rdR ops.toList Si r.o, lookup Si.roots x = lookup S.roots x := by
      intro x hx
      have hx' : x ∈ r.rt := by rw [hrt]; exact hx
      refine exec_root rs 0 s0 s0 rfl fun j q hq hd => ?_
      simp only [Nat.zero_add]
      rcases Nat.lt_trichotomy j i with h | h | h
      · simp only [h, decide_true]
        cases hl : listed.getD j false with
        | true => rfl
        | false =>
          have := hlow j q h hq hl
          simp only [apartR, Bool.and_eq_true, disj_iff] at this
          exact absurd (List.mem_append_left _ hx') (this.1.2 x hd)
      · subst h; simp [h0']
      · simp only [show ¬ j < i by omega, decide_false]
        cases hl : listed.getD j false with
        | false => rfl
        | true =>
          have := hhigh j q h hq hl
          simp only [apartR, Bool.and_eq_true, disj_iff] at this
          exact absurd hx' (this.2 x hd)
    have hn : Si.n = S.n := (exec_n _ rs 0 s0).trans (exec_n _ rs 0 s0).symm
    have hcut : Si.cut ops.toList r.o = S.cut ops.toList r.o := St.cut_congr hn htm hrtm
    have hgS : vguard ops.toList S r.o (∃ e, r.d = some e ∧ (vop P T (S.cut ops.toList r.o) r.o fun u => u = e) ∧ dstOk S r.o.dst = true) (r.d = none) := by
      refine vguard_mono (vguard_congr (fun t ht => htm t (List.mem_append_left _ ht)) hgood) ?_ id
      rintro ⟨e, h1, h2, h3⟩
      exact ⟨e, h1, hcut ▸ h2, by unfold dstOk at h3 ⊢; rw [← hn]; exact h3⟩
    -- what follows
    have hnext : ∀ a' w', Rels c (r.app S) a' w' → wpAny P .any ops Q fuel (listed.setIfInBounds i true) a' w' := by
      intro a' w' hr'
      have hset : ∀ j, j ≠ i → (listed.setIfInBounds i true).getD j false = listed.getD j false := fun j hj => getD_set_ne false (Ne.symm hj)
      have hseti : (listed.setIfInBounds i true).getD i false = true := by simp [Array.getD_eq_getD_getElem?, show i < listed.size by omega]
      refine ih _ a' w' (by simpa using hsz) ?_ ?_ ?_
      · have := unl_set h0 ops.size
        rw [if_pos hilt] at this
        omega
      · intro j p hj hl e he hb
        by_cases hji : j = i
        · subst hji
          have : p = r.o := by rw [ho] at hj; simpa using hj.symm
          subst this
          exact getD_set_true (hpre e (by simpa using he) hb)
        · rw [hset j hji] at hl
          exact getD_set_true (hdc j p hj hl e he hb)
      · refine hr'.eqv ((r.app_n S).trans ((exec_n _ rs 0 s0).trans (exec_n _ rs 0 s0).symm)) (fun t => ?_) fun x => ?_
        · by_cases hd : r.o.dst = some t
          · refine (exec_put_tmp rs 0 s0 hri (by simpa using hseti) hd (fun j q hj hq hdq => ?_) S).symm
            simp only [Nat.zero_add]
            rw [hset j (by omega)]
            cases hl : listed.getD j false with
            | false => rfl
            | true =>
              have := hhigh j q hj hq hl
              simp only [apartR, Bool.and_eq_true, disj_iff] at this
              exact absurd (List.mem_append_left _ (by simp [dstL, hdq])) (this.1.1.1 t (by simp [dstL, hd]))
          · rw [r.app_tmp_other hd]
            refine exec_tmp rs 0 s0 s0 rfl fun j q hq hdq => ?_
            simp only [Nat.zero_add]
            rw [hset j]
            rintro rfl
            rw [hri] at hq
            obtain rfl : r = q := by simpa using hq
            exact hd hdq
        · by_cases hd : x ∈ r.ups
          · refine (exec_put_root rs 0 s0 hri (by simpa using hseti) hd (fun j q hj hq hdq => ?_) S).symm
            simp only [Nat.zero_add]
            rw [hset j (by omega)]
            cases hl : listed.getD j false with
            | false => rfl
            | true =>
              have := hhigh j q hj hq hl
              simp only [apartR, Bool.and_eq_true, disj_iff] at this
              exact absurd (List.mem_append_right _ hdq) (this.1.2 x hd)
          · rw [r.app_root_other hd]
            refine exec_root rs 0 s0 s0 rfl fun j q hq hdq => ?_
            simp only [Nat.zero_add]
            rw [hset j]
            rintro rfl
            rw [hri] at hq
            obtain rfl : r = q := by simpa using hq
            exact hd hdq
    cases hd : r.d with
    | some e =>
      have happ : r.app S = S.app r.o.dst e := by simp [Rec.app, hd]
      refine wpOp_of (e := e) hT ho (S.cut_leO ops.toList r.o) hr (vguard_mono hgS ?_ ?_)
      · rintro ⟨e', h1, h2, h3⟩
        rw [hd] at h1
        obtain rfl : e = e' := by simpa using h1
        exact ⟨h2, h3, fun a' w' hr' => hnext a' w' (happ ▸ hr')⟩
      · intro h; rw [hd] at h; cases h
    | none =>
      have happ : r.app S = S.skip r.o.dst := by simp [Rec.app, hd]
      refine wpOp_of (e := ⟨.pv .nil, []⟩) hT ho (S.cut_leO ops.toList r.o) hr (vguard_mono hgS ?_ ?_)
      · rintro ⟨e', h1, _⟩
        rw [hd] at h1; cases h1
      · exact fun _ a' w' hr' => hnext a' w' (happ ▸ hr')
end Go.Vm

/- The code of a body. -/
set_option linter.unusedVariables false
set_option linter.unusedSimpArgs false
namespace Go.Vm
open Go Go.RowKit

structure POk (P : Program) (T : Tab) : Prop where
  tab : TabOk P T
  mixed : P.follows .mixedOrders = true
  names : ∀ (f : Nat) (fn : Func), P.funcs[f]? = some fn → (fn.name == "runtime.NumGoroutine") = false

inductive X where
  | nrm
  | ext (id : Nat)
  | ret
def X.to : X → Exit
  | .nrm => .normal
  | .ext id => .exit id
  | .ret => .ret

inductive Drw (p : Prop) (K : Prop) : Prop
  | mk (h : p) (k : K) : Drw p K
def vreg (P : Program) (T : Tab) (ops : List Oper) (draw : Bool) (s : St) (K : St → Prop) : Prop :=
  match draw with
  | false => vops P T ops ops s K
  | true => vopsD P T ops ops s [] fun rs s' => Drw (drawOk ops rs = true) (K s')
/-- Back at the loop's head. -/
inductive Bck {ι : Type} (I : ι → Prop) (S : ι → St) (μ : ι → Nat) (i : ι) (s : St) : Prop
  | mk (j : ι) (hj : I j) (hs : Sub s (S j)) (hm : μ j < μ i) : Bck I S μ i s
inductive Lop (body : St → (X → St → Prop) → Prop) (s : St) (Q : X → St → Prop) : Prop
  | mk (ι : Type) (I : ι → Prop) (S : ι → St) (μ : ι → Nat) (i : ι) (hi : I i) (hs : Sub s (S i))
      (h : ∀ i, I i → body (S i) fun x s' => match x with | .nrm => Bck I S μ i s' | x => Q x s') : Lop body s Q
def vwp (P : Program) (T : Tab) : Code → St → (X → St → Prop) → Prop
  | .skip, s, Q => Q .nrm s
  | .region _ ops draw, s, Q => vreg P T ops.toList draw s fun s' => Q .nrm s'
  | .seq a b, s, Q => vwp P T a s fun x s' => match x with | .nrm => vwp P T b s' Q | x => Q x s'
  | .cond c a b, s, Q => match ev s c with
    | some (.pv (.w (.bool t))) => brP t (vwp P T a s Q) (vwp P T b s Q)
    | _ => False
  | .block id c, s, Q => vwp P T c s fun x s' => match x with | .ext i => (match Nat.beq i id with | true => Q .nrm s' | false => Q (.ext i) s') | x => Q x s'
  | .loop c, s, Q => Lop (fun s Q => vwp P T c s Q) s Q
  | .exit id, s, Q => Q (.ext id) s
  | .ret, s, Q => Q .ret s
  | _, _, _ => False

section
variable {P : Program} {T : Tab} {c : Ctx P}
theorem Rels.drew {s : St} {a : Act} {w : World} (h : Rels c s a w) : Rels c s a w.drew := by
  obtain ⟨col, lk, h⟩ := h
  exact ⟨col, lk, h.drew⟩
theorem vreg_sound (hP : POk P T) {id : Nat} {ops : Array Oper} {draw : Bool} {s : St} {K : St → Prop} {Q : Exit → Act → World → Prop} {a : Act} {w : World} (h : vreg P T ops.toList draw s K) (hr : Rels c s a w)
    (hQ : ∀ s' a' w', K s' → Rels c s' a' w' → Q .normal a' w') : (Code.region id ops draw).wp P Q a w := by
  cases draw with
  | false =>
    refine wp_region ?_
    rw [List.range_eq_range', ← Array.length_toList]
    exact vops_wpOps hP.tab ops.toList 0 s a w (by simp) h hr hQ
  | true =>
    obtain ⟨rs, s', h1, h2, h3, h4⟩ := vopsD_tr ops.toList s s [] rfl h
    simp only [List.nil_append] at h1 h3 h4
    refine wp_region_any hP.mixed (draw_any hP.tab h1 h2 h3 (fun a w hr => hQ s' a w h4 hr) _ _ _ _ (by simp) ?_ ?_ ?_)
    · have : ∀ n (l : Array Bool), unl n l ≤ n := by
        intro n l
        induction n with
        | zero => simp [unl]
        | succ n ih => simp only [unl]; split <;> omega
      exact this _ _
    · intro j o hj hl
      simp [Array.getD_eq_getD_getElem?, Array.getElem?_replicate] at hl
      split at hl <;> simp at hl
    · rw [exec_none rs 0 s fun j _ => by simp [Array.getD_eq_getD_getElem?, Array.getElem?_replicate]; split <;> simp]
      exact hr.drew
theorem vwp_sound (hP : POk P T) : ∀ (code : Code) {s : St} {K : X → St → Prop} {Q : Exit → Act → World → Prop} {a : Act} {w : World}, vwp P T code s K → Rels c s a w →
    (∀ x s' a' w', K x s' → Rels c s' a' w' → Q x.to a' w') → code.wp P Q a w
  | .skip, s, K, Q, a, w, h, hr, hQ => wp_skip (hQ .nrm s a w h hr)
  | .region id ops draw, s, K, Q, a, w, h, hr, hQ => vreg_sound hP h hr fun s' a' w' hk hr' => hQ .nrm s' a' w' hk hr'
  | .seq x y, s, K, Q, a, w, h, hr, hQ => wp_seq (vwp_sound hP x h hr fun e s' a' w' hk hr' => by
      cases e with
      | nrm => exact vwp_sound hP y hk hr' hQ
      | ext id => exact hQ (.ext id) s' a' w' hk hr'
      | ret => exact hQ .ret s' a' w' hk hr')
  | .cond cc x y, s, K, Q, a, w, h, hr, hQ => by
    simp only [vwp] at h
    split at h
    · rename_i t ht
      obtain ⟨col, lk, hr0⟩ := hr
      have hb := VRep.word (ev_rep hr0 ht)
      cases t with
      | true => exact wp_cond_true hb (vwp_sound hP x h ⟨col, lk, hr0⟩ hQ)
      | false => exact wp_cond_false hb (vwp_sound hP y h ⟨col, lk, hr0⟩ hQ)
    · exact h.elim
  | .block id x, s, K, Q, a, w, h, hr, hQ => wp_block (vwp_sound hP x h hr fun e s' a' w' hk hr' => by
      cases e with
      | nrm => exact hQ .nrm s' a' w' hk hr'
      | ext i =>
        simp only [X.to, Exit.inBlock]
        simp only at hk
        split at hk
        · rename_i hb
          rw [if_pos (Nat.eq_of_beq_eq_true hb)]
          exact hQ .nrm s' a' w' hk hr'
        · rename_i hb
          rw [if_neg (Nat.ne_of_beq_eq_false hb)]
          exact hQ (.ext i) s' a' w' hk hr'
      | ret => exact hQ .ret s' a' w' hk hr')
  | .loop x, s, K, Q, a, w, h, hr, hQ => by
    obtain ⟨ι, I, S, μ, i0, hi0, hs0, hbody⟩ := h
    -- the index is carried along: a loop by rounds
    have key : ∀ n i a w, μ i = n → I i → Rels c (S i) a w → ∀ (b : Frame) (k : List Item) (cs : List Frame),
        ∃ e a' w', Q e a' w' ∧ Arrives P (lone (b.at a (.code x :: .inLoop x :: k)) cs w) b k cs e a' w' := by
      intro n
      induction n using Nat.strongRecOn with
      | _ n ih =>
        intro i a w hn hI hr b k cs
        have hx := vwp_sound (Q := fun e a' w' => match e with | .normal => ∃ j, I j ∧ Rels c (S j) a' w' ∧ μ j < μ i | e => Q e a' w') hP x (hbody i hI) hr fun e s' a' w' hk hr' => by
          cases e with
          | nrm =>
            obtain ⟨j, hj, hsub, hlt⟩ := hk
            exact ⟨j, hj, hr'.sub hsub, hlt⟩
          | ext id => exact hQ (.ext id) s' a' w' hk hr'
          | ret => exact hQ .ret s' a' w' hk hr'
        obtain ⟨e, a₁, w₁, hq, harr⟩ := hx b (.inLoop x :: k) cs
        cases e with
        | normal =>
          obtain ⟨j, hj, hrj, hlt⟩ := hq
          obtain ⟨e₂, a₂, w₂, hq₂, harr₂⟩ := ih (μ j) (hn ▸ hlt) j a₁ w₁ rfl hj hrj b k cs
          exact ⟨e₂, a₂, w₂, hq₂, .of_steps (Steps.trans harr (.one step_inLoop)) harr₂⟩
        | exit id => exact ⟨_, a₁, w₁, hq, .pass (x := .inLoop x) rfl (fun _ _ => .inl (by simp)) harr⟩
        | goto l => exact ⟨_, a₁, w₁, hq, .pass (x := .inLoop x) rfl (fun _ _ => .inl (by simp)) harr⟩
        | ret => exact ⟨_, a₁, w₁, hq, .pass (x := .inLoop x) rfl (fun _ _ => .inl (by simp)) harr⟩
        | panic ch => exact ⟨_, a₁, w₁, hq, .pass (x := .inLoop x) rfl (fun _ _ => .inl (by simp)) harr⟩
        | outgrown => exact ⟨_, a₁, w₁, hq, .pass (x := .inLoop x) rfl (fun _ _ => .inl (by simp)) harr⟩
    intro b k cs
    obtain ⟨e, a', w', hq, harr⟩ := key _ i0 a w rfl hi0 (hr.sub hs0) b k cs
    exact ⟨e, a', w', hq, .of_steps (.one step_loop) harr⟩
  | .exit id, s, K, Q, a, w, h, hr, hQ => wp_exit (hQ (.ext id) s a w h hr)
  | .ret, s, K, Q, a, w, h, hr, hQ => wp_ret (hQ .ret s a w h hr)
  | .rangeFunc .., _, _, _, _, _, h, _, _ => h.elim
  | .scope .., _, _, _, _, _, h, _, _ => h.elim
  | .label .., _, _, _, _, _, h, _, _ => h.elim
  | .goto .., _, _, _, _, _, h, _, _ => h.elim
  | .refuse .., _, _, _, _, _, h, _, _ => h.elim
end
end Go.Vm

/- A body that is walked gives its contract. -/
set_option linter.unusedVariables false
set_option linter.unusedSimpArgs false
namespace Go.Vm
open Go Go.RowKit

inductive Ret (ps qs : List PV) : Prop
  | mk (h : retPs ps qs) : Ret ps qs
def retV (T : Tab) (s : St) (rs : List ResultVar) (res : List PV) : Prop :=
  match resVs T s rs with
  | some vs => match pvsOf s.roots vs with
    | some (ps, _) => Ret ps res
    | none => False
  | none => False
def argT : Nat → List PV → List (Nat × V)
  | _, [] => []
  | i, p :: ps => (i, .pv p) :: argT (i + 1) ps

def resF (tmps : Array Value) : ResultVar → Sem Value
  | .tmp t => pure (tmps.getD t undef)
  | .cell a t => do loadVar t (← asAddr (tmps.getD a undef))
theorem mapM_as {P : Program} {w : World} {f g : ResultVar → Sem Value} {l : List ResultVar} {ys : List Value} (hf : ∀ x, f x = g x) (h : (l.mapM g).run P w = .ok ys w) : (l.mapM f).run P w = .ok ys w := by
  rw [funext hf]; exact h
theorem results_run {P : Program} {fn : Func} {tmps : Array Value} {w : World} {ys : List Value} (h : (fn.results.toList.mapM (resF tmps)).run P w = .ok ys w) : (results fn tmps).run P w = .ok (resVal ys) w := by
  have hr : fn.results = fn.results.toList.toArray := by simp
  unfold results
  rw [hr, List.mapM_toArray]
  simp only [Sem.run_bind, Sem.run_map]
  rw [mapM_as (g := resF tmps) (fun x => by cases x <;> rfl) h]
  simp only [Result.andThen_ok, Sem.run_pure]
  congr 1
  rcases ys with _ | ⟨u, _ | ⟨v, l⟩⟩ <;> rfl
theorem bx_load {P : Program} {T : Tab} {c : Ctx P} {s : St} {a : Act} {w : World} {col : Col} {lk : Lk} {t r off n e : Nat} {p q : PV} {v : V} {y : Value} (hT : TabOk P T) (h : Rel c s a w col lk) (hX : VRep w col lk s.roots (.bx r off) y) (hlr : lookup s.roots r = some (some (n, e, .ptr p))) (hn : n ≤ 1)
    (hq : getO (fits T t) p off = some q) (hu : unlink s.roots q = some v) : ∃ b z, y = .pointer (some ⟨b, off, none⟩) ∧ (loadVar t ⟨b, off, none⟩).run P w = .ok z w ∧ VRep w col lk s.roots v z := by
  obtain ⟨b, hlk, hy, _⟩ := hX.bx_rt h hlr
  obtain ⟨d, hrep, hcs, _, _⟩ := h.bx_cells hlr hn hlk
  obtain ⟨x1, y1, z1, pos', rfl, hx1, hrq, hfit⟩ := getO_rep p hq hrep
  have hmid : CellsAt w b off y1 := by
    have := hcs.mid
    simpa [hx1] using this
  refine ⟨b, _, hy, load_cells hT hrq hmid hfit, ?_⟩
  unfold unlink at hu
  split at hu
  · rename_i r2
    simp only [Rep] at hrq
    obtain ⟨y2, h2, rfl, h3⟩ := hrq
    split at hu
    · rename_i h4
      simp only [Option.some.injEq] at hu
      subst hu
      simp only [VRep, onRow, h4, toVal]
      exact h2
    · rename_i n2 e2 p2 h4
      simp only [Option.some.injEq] at hu
      subst hu
      obtain ⟨v5, h5, h6, _⟩ := h.rt _ _ _ _ h4
      rw [h2] at h5
      obtain rfl : y2 = v5 := by simpa using h5
      simp only [Rep] at h6
      obtain ⟨b6, f6, d6, h7, _, _, h8⟩ := h6
      obtain rfl : y2 = _ := by simpa using h7
      simp only [VRep, onBx, h4, toVal]
      obtain rfl := h8.1
      exact ⟨b6, h2, rfl⟩
    · cases hu
  · split at hu
    · rename_i hnl
      simp only [Option.some.injEq] at hu
      subst hu
      exact pv_of_rep hnl hrq
    · cases hu
theorem lookup_argT {w : World} {col : Col} : ∀ {ps : List PV} {xs : List Value} {i t : Nat} {v : V}, ArgsRep w col ps xs → lookup (argT i ps) t = some v → ∃ j y, t = i + j ∧ xs[j]? = some y ∧ ∀ lk rs, VRep w col lk rs v y
  | [], _, _, _, _, _, h => by simp [argT, lookup] at h
  | p :: ps, xs, i, t, v, ha, h => by
    simp only [ArgsRep] at ha
    obtain ⟨y, zs, rfl, ⟨cs, h1, h2⟩, h3⟩ := ha
    simp only [argT, lookup_cons] at h
    by_cases e : i = t
    · subst e
      simp only [if_true, Option.some.injEq] at h
      subst h
      exact ⟨0, y, rfl, rfl, fun lk rs => by simp only [VRep]; exact ⟨cs, h1, h2⟩⟩
    · simp only [e, if_false] at h
      obtain ⟨j, y', rfl, h4, h5⟩ := lookup_argT h3 h
      exact ⟨j + 1, y', by omega, by simpa using h4, h5⟩
theorem ArgsRep.len {w : World} {col : Col} : ∀ {ps : List PV} {xs : List Value}, ArgsRep w col ps xs → xs.length = ps.length
  | [], _, h => by simp only [ArgsRep] at h; simp [h]
  | p :: ps, _, h => by
    simp only [ArgsRep] at h
    obtain ⟨y, zs, rfl, _, h⟩ := h
    simp [ArgsRep.len h]
theorem pvsOf_ret {P0 : Program} {c : Ctx P0} {s : St} {a : Act} {w : World} {col : Col} {lk : Lk} (h : Rel c s a w col lk) {cs : List Nat} : ∀ (vs : List V) {ys : List Value} {ps qs : List PV} {ds : List Nat}, VRepL w col lk s.roots vs ys → pvsOf s.roots vs = some (ps, ds) → retPs ps qs → (∀ d ∈ ds, d ∈ cs) → ArgsRep w (colF cs col) qs ys
  | [], ys, ps, qs, ds, hv, hp, hq, hs => by
    simp only [pvsOf, Option.some.injEq, Prod.mk.injEq] at hp
    obtain ⟨rfl, rfl⟩ := hp
    cases qs with
    | nil => simpa only [VRepL, ArgsRep] using hv
    | cons => simp [retPs] at hq
  | v :: vs, ys, ps, qs, ds, hv, hp, hq, hs => by
    simp only [pvsOf] at hp
    split at hp
    · rename_i p ds1 hp1
      split at hp
      · rename_i ps' ds2 hp2
        simp only [Option.some.injEq, Prod.mk.injEq] at hp
        obtain ⟨rfl, rfl⟩ := hp
        cases qs with
        | nil => simp [retPs] at hq
        | cons q qs =>
          simp only [retPs] at hq
          simp only [VRepL] at hv
          obtain ⟨y, zs, rfl, h1, h2⟩ := hv
          obtain ⟨cc, h3, rfl⟩ := pvOf_rep h v h1 hp1 fun d hd => hs d (by simp [hd])
          obtain ⟨h4, h5⟩ := retP_rep p q hq.1 h3
          simp only [ArgsRep]
          exact ⟨_, zs, rfl, ⟨cc, h4, h5⟩, pvsOf_ret h vs h2 hp2 hq.2 fun d hd => hs d (by simp [hd])⟩
      · cases hp
    · cases hp
theorem resVs_ok {P : Program} {T : Tab} {c : Ctx P} {s : St} {a : Act} {w : World} {col : Col} {lk : Lk} (hT : TabOk P T) (hr : Rel c s a w col lk) : ∀ {rs : List ResultVar} {vs : List V}, resVs T s rs = some vs →
    ∃ ys : List Value, (rs.mapM (resF a.tmps)).run P w = .ok ys w ∧ VRepL w col lk s.roots vs ys
  | [], vs, h => by simp only [resVs, Option.some.injEq] at h; subst h; exact ⟨[], rfl, by simp [VRepL]⟩
  | .tmp t :: rs, vs, h => by
    simp only [resVs] at h
    split at h
    · rename_i v vs' h1 h2
      simp only [Option.some.injEq] at h
      subst h
      obtain ⟨ys, h3, h4⟩ := resVs_ok hT hr h2
      refine ⟨_ :: ys, ?_, by simp only [VRepL]; exact ⟨_, _, rfl, (hr.tm t v h1).2, h4⟩⟩
      rw [List.mapM_cons]
      simp only [resF, Sem.run_bind, Sem.run_pure, Result.andThen_ok, h3]
    · cases h
  | .cell t ty :: rs, vs, h => by
    simp only [resVs] at h
    split at h
    · rename_i r h1
      split at h
      · rename_i n e p h2
        split at h
        · rename_i q hn hq
          split at h
          · rename_i v vs' hu h3
            simp only [Option.some.injEq] at h
            subst h
            obtain ⟨ys, h4, h5⟩ := resVs_ok hT hr h3
            obtain ⟨b, z, h6, h7, h8⟩ := bx_load hT hr (hr.tm t _ h1).2 h2 (Nat.le_of_ble_eq_true hn) hq hu
            refine ⟨z :: ys, ?_, by simp only [VRepL]; exact ⟨_, _, rfl, h8, h5⟩⟩
            rw [List.mapM_cons]
            simp only [resF, h6, asAddr, Sem.run_bind, Sem.run_pure, Result.andThen_ok, h7, h4]
          · cases h
        · cases h
      · cases h
    · cases h

/-- A body that is walked gives its contract. -/
theorem callV_of {P : Program} {T : Tab} {f : FuncId} {fn : Func} {code : Code} {args res : List PV} (hP : POk P T) (hf : P.funcs[f]? = some fn) (hb : fn.body = some code) (hn : Nat.ble args.length fn.ntmps = true)
    (h : vwp P T code ⟨fn.ntmps, argT 0 args, []⟩ fun x s => match x with | .ext _ => False | _ => retV T s fn.results.toList res) : CallV P f args res := by
  refine ⟨⟨fn, hf, by rw [hb]; rfl, hP.names f fn hf⟩, fun xs w col0 hold hlive hgl hargs => ?_⟩
  refine calls_of_wp hf hb ?_
  have hlen := hargs.len
  have hle := Nat.le_of_ble_eq_true hn
  have hrel : Rel (P := P) ⟨w, col0, lk0, hgl⟩ ⟨fn.ntmps, argT 0 args, []⟩ { tmps := xs.toArray ++ Array.replicate (fn.ntmps - xs.toArray.size) undef, defers := [] } w col0 lk0 := by
    refine ⟨⟨rfl, rfl, rfl, Nat.le_refl _, fun b _ _ => ⟨rfl, rfl⟩, hlive⟩, by simp [hlen]; omega, fun t v ht => ?_, fun r n e p hp => by simp [lookup] at hp, fun b r q hb h1 => ?_, fun r v hv => by simp [lk0] at hv, rfl, rfl, fun r v hv => by simp [lk0] at hv⟩
    · obtain ⟨j, y, rfl, h1, h2⟩ := lookup_argT hargs ht
      have hj : j < xs.length := (List.getElem?_eq_some_iff.1 h1).1
      refine ⟨by simp only; omega, ?_⟩
      have : (xs.toArray ++ Array.replicate (fn.ntmps - xs.toArray.size) undef).getD (0 + j) undef = y := by
        rw [Nat.zero_add, Array.getD_eq_getD_getElem?, Array.getElem?_append_left (by simpa using hj)]
        simp [h1]
      rw [this]
      exact h2 _ _
    · rcases hold b with h | h
      · rw [h] at hb; cases hb
      · rw [h] at hb
        obtain ⟨rfl, _⟩ : 0 = r ∧ [] = q := by simpa using hb
        exact absurd rfl h1
  refine vwp_sound hP code h ⟨col0, lk0, hrel⟩ fun x s a w' hx hr => ?_
  obtain ⟨col, lk, hr⟩ := hr
  have main : retV T s fn.results.toList res → a.defers = [] ∧ ∃ v, (results fn a.tmps).run P w' = .ok v w' ∧ ∃ y col', Ending.returned v = .returned y ∧ ResRep w' col' res y ∧ Inv (P := P) ⟨w, col0, lk0, hgl⟩ w' col' := by
    intro hv
    unfold retV at hv
    split at hv
    · rename_i vs hvs
      split at hv
      · rename_i ps cs hps
        obtain ⟨ys, h1, h2⟩ := resVs_ok hP.tab hr hvs
        exact ⟨hr.df, _, results_run h1, _, colF cs col, rfl, ⟨_, pvsOf_ret hr vs h2 hps hv.1 (fun _ h => h), rfl⟩, hr.inv.frz⟩
      · exact hv.elim
    · exact hv.elim
  cases x with
  | nrm => exact main hx
  | ret => exact main hx
  | ext id => exact hx.elim
/- ### With what is owned handed in and back -/
inductive RetG (s : St) (vs res : List V) (rr : List (Nat × Root)) : Prop
  | mk (m : Ren) (inj : injM m = true) (rt : subR s m m rr) (av : cvVs s m (fun _ => True) vs res) : RetG s vs res rr
def retG (T : Tab) (s : St) (rs : List ResultVar) (res : List V) (rr : List (Nat × Root)) : Prop :=
  match resVs T s rs with
  | some vs => RetG s vs res rr
  | none => False
theorem lookup_idxT {w : World} {col : Col} {lk : Lk} {rs : List (Nat × Root)} : ∀ {vs : List V} {xs : List Value} {i t : Nat} {v : V}, VRepL w col lk rs vs xs → lookup (idxT i vs) t = some v → ∃ j y, t = i + j ∧ xs[j]? = some y ∧ VRep w col lk rs v y
  | [], _, _, _, _, _, h => by simp [idxT, lookup] at h
  | u :: vs, xs, i, t, v, ha, h => by
    simp only [VRepL] at ha
    obtain ⟨y, zs, rfl, h1, h3⟩ := ha
    simp only [idxT, lookup_cons] at h
    by_cases e : i = t
    · subst e
      simp only [if_true, Option.some.injEq] at h
      subst h
      exact ⟨0, y, rfl, rfl, h1⟩
    · simp only [e, if_false] at h
      obtain ⟨j, y', rfl, h4, h5⟩ := lookup_idxT h3 h
      exact ⟨j + 1, y', by omega, by simpa using h4, h5⟩
theorem VRepL.len {w : World} {col : Col} {lk : Lk} {rs : List (Nat × Root)} : ∀ {vs : List V} {xs : List Value}, VRepL w col lk rs vs xs → xs.length = vs.length
  | [], _, h => by simp only [VRepL] at h; simp [h]
  | p :: ps, _, h => by
    simp only [VRepL] at h
    obtain ⟨y, zs, rfl, _, h⟩ := h
    simp [VRepL.len h]
theorem callG_of {P : Program} {T : Tab} {f : FuncId} {fn : Func} {code : Code} {args res : List V} {ar rr : List (Nat × Root)} (hP : POk P T) (hf : P.funcs[f]? = some fn) (hb : fn.body = some code) (hn : Nat.ble args.length fn.ntmps = true)
    (h : vwp P T code ⟨fn.ntmps, idxT 0 args, ar⟩ fun x s => match x with | .ext _ => False | _ => retG T s fn.results.toList res rr) : CallG P f args ar res rr := by
  refine ⟨⟨fn, hf, by rw [hb]; rfl, hP.names f fn hf⟩, fun xs w col0 lkI hgl hR hargs => ?_⟩
  refine calls_of_wp hf hb ?_
  have hlen := hargs.len
  have hle := Nat.le_of_ble_eq_true hn
  have hrel : Rel (P := P) ⟨w, col0, lkI, hgl⟩ ⟨fn.ntmps, idxT 0 args, ar⟩ { tmps := xs.toArray ++ Array.replicate (fn.ntmps - xs.toArray.size) undef, defers := [] } w col0 lkI := by
    refine ⟨hR.inv, by simp [hlen]; omega, fun t v ht => ?_, hR.rt, hR.cl, hR.ln, hR.z, rfl, hR.pr⟩
    obtain ⟨j, y, rfl, h1, h2⟩ := lookup_idxT hargs ht
    have hj : j < xs.length := (List.getElem?_eq_some_iff.1 h1).1
    refine ⟨by simp only; omega, ?_⟩
    have : (xs.toArray ++ Array.replicate (fn.ntmps - xs.toArray.size) undef).getD (0 + j) undef = y := by
      rw [Nat.zero_add, Array.getD_eq_getD_getElem?, Array.getElem?_append_left (by simpa using hj)]
      simp [h1]
    rw [this]
    exact h2
  refine vwp_sound hP code h ⟨col0, lkI, hrel⟩ fun x s a w' hx hr => ?_
  obtain ⟨col, lk, hr⟩ := hr
  have main : retG T s fn.results.toList res rr → a.defers = [] ∧ ∃ v, (results fn a.tmps).run P w' = .ok v w' ∧ ∃ y ys col' lk', Ending.returned v = .returned y ∧ y = resVal ys ∧ Rel (P := P) ⟨w, col0, lkI, hgl⟩ ⟨0, [], rr⟩ ⟨#[], []⟩ w' col' lk' ∧ VRepL w' col' lk' rr res ys := by
    intro hv
    unfold retG at hv
    split at hv
    · rename_i vs hvs
      obtain ⟨m, hi, hrt, hav⟩ := hv
      obtain ⟨ys, h1, h2⟩ := resVs_ok hP.tab hr hvs
      have hs : SubM m s ⟨s.n, [], rr⟩ := ⟨rfl, hi, hrt, trivial⟩
      have h3 := hr.sub hs
      have h4 := cvVs_rep hr hs (colS_R hi) vs res hav h2
      exact ⟨hr.df, _, results_run h1, _, ys, colR m col, lkR m lk, rfl, rfl, ⟨h3.inv, rfl, fun t v ht => by simp [lookup] at ht, h3.rt, h3.cl, h3.ln, h3.z, rfl, h3.pr⟩, h4⟩
    · exact hv.elim
  cases x with
  | nrm => exact main hx
  | ret => exact main hx
  | ext id => exact hx.elim
end Go.Vm

/- The table of types, made out of the program; what else must hold of a program. -/
set_option linter.unusedVariables false
set_option linter.unusedSimpArgs false
namespace Go.Vm
open Go Go.RowKit

def cellsP (P : Program) (t : Nat) : Nat := ((P.info? t).map (·.size)).getD 0
def offsB (P : Program) : Nat → List Field → Bool
  | _, [] => true
  | off, f :: fs => Nat.beq f.offset off && offsB P (off + cellsP P f.type) fs
def tdOf (P : Program) (t : Nat) : TD :=
  match P.underlying t with
  | some (.int k) => .int k
  | some .bool => .bool
  | some .string => .str
  | some (.slice e) => .slice e
  | some (.struct F) => match offsB P 0 F.toList with | true => .struct (F.toList.map (·.type)) | false => .other
  | some (.array n e) => .arr n e
  | some (.pointer e) => .ptr e
  | some _ => .one
  | none => .other
def tabOf (P : Program) (t : Nat) : TI :=
  match P.info? t with
  | some i => ⟨tdOf P t, i.size, i.bytes⟩
  | none => ⟨.other, 0, 0⟩
theorem offsB_ok {P : Program} : ∀ {fs : List Field} {off : Nat}, offsB P off fs = true → fieldsOk (tabOf P) off (fs.map (·.type)) fs
  | [], _, _ => trivial
  | f :: fs, off, h => by
    simp only [offsB, Bool.and_eq_true, beqT, decide_eq_true_eq] at h
    refine ⟨rfl, h.1, ?_⟩
    have : (tabOf P f.type).cells = cellsP P f.type := by
      unfold tabOf cellsP
      cases P.info? f.type <;> rfl
    rw [this]
    exact offsB_ok h.2
theorem tabOf_ok (P : Program) (t : Nat) : ((tabOf P t).td.isOther = false → ∃ i, P.info? t = some i ∧ i.size = (tabOf P t).cells ∧ i.bytes = (tabOf P t).bytes) ∧ tdOk P (tabOf P) t (tabOf P t).td := by
  constructor
  · intro h
    unfold tabOf at h ⊢
    cases hi : P.info? t with
    | none => rw [hi] at h; simp [TD.isOther] at h
    | some i => exact ⟨i, rfl, rfl, rfl⟩
  · have : (tabOf P t).td = match P.info? t with | some i => tdOf P t | none => .other := by unfold tabOf; cases P.info? t <;> rfl
    rw [this]
    cases hi : P.info? t with
    | none => trivial
    | some i =>
      simp only
      unfold tdOf
      cases hu : P.underlying t with
      | none => trivial
      | some d =>
        cases d with
        | struct F =>
          cases ho : offsB P 0 F.toList with
          | false => simp only [ho, tdOk]
          | true => simp only [ho, tdOk]; exact ⟨F, hu, offsB_ok ho⟩
        | array n e => simp only [tdOk]; exact hu
        | slice e => simp only [tdOk]; exact hu
        | int e => simp only [tdOk]; exact hu
        | pointer e => simp only [tdOk]; exact hu
        | bool => simp only [tdOk]; exact hu
        | string => simp only [tdOk]; exact hu
        | _ => simp only [tdOk]; exact ⟨_, hu, (by intro F h; cases h), (by intro n e h; cases h)⟩
def namesB (P : Program) : Bool := P.funcs.toList.all fun fn => !(fn.name == "runtime.NumGoroutine")
theorem namesB_ok {P : Program} (h : namesB P = true) (f : Nat) (fn : Func) (hf : P.funcs[f]? = some fn) : (fn.name == "runtime.NumGoroutine") = false := by
  unfold namesB at h
  rw [List.all_eq_true] at h
  have := h fn (by rw [Array.mem_toList_iff]; exact Array.mem_of_getElem? hf)
  simpa using this
def tabT (l : List TI) : Tab := fun t => l.getD t ⟨.other, 0, 0⟩
def inB (n : Nat) : TD → Bool
  | .struct ts => ts.all fun t => Nat.blt t n
  | _ => true
theorem fieldsOk_of {T T' : Tab} {n : Nat} (hT : ∀ t, t < n → T' t = T t) : ∀ {fs : List Field} {ts : List Nat} {off : Nat}, (∀ t ∈ ts, t < n) → fieldsOk T off ts fs → fieldsOk T' off ts fs
  | [], [], _, _, _ => trivial
  | f :: fs, t :: ts, off, hn, h => by
    simp only [fieldsOk] at h ⊢
    refine ⟨h.1, h.2.1, ?_⟩
    rw [hT t (hn t (by simp))]
    exact fieldsOk_of hT (fun t ht => hn t (by simp [ht])) h.2.2
  | [], _ :: _, _, _, h => by simp [fieldsOk] at h
  | _ :: _, [], _, _, h => by simp [fieldsOk] at h
def sameV : Value → Value → Bool
  | .int k n, .int k' n' => decide (k = k') && decide (n = n')
  | .bool b, .bool b' => b == b'
  | .string s, .string s' => Nat.beq s.size 0 && Nat.beq s'.size 0
  | .slice none 0 0, .slice none 0 0 => true
  | .pointer none, .pointer none => true
  | _, _ => false
def sameVs : List Value → List Value → Bool
  | [], [] => true
  | u :: us, v :: vs => sameV u v && sameVs us vs
  | _, _ => false
theorem empty_of {s : ByteArray} (h : s.size = 0) : s = ByteArray.empty := by
  obtain ⟨⟨l⟩⟩ := s
  have : l = [] := List.eq_nil_of_length_eq_zero h
  subst this
  rfl
theorem sameV_ok {u v : Value} (h : sameV u v = true) : u = v := by
  unfold sameV at h
  split at h
  · simp only [Bool.and_eq_true, decide_eq_true_eq] at h; rw [h.1, h.2]
  · simp only [beq_iff_eq] at h; rw [h]
  · simp only [Bool.and_eq_true, beqT, decide_eq_true_eq] at h; rw [empty_of h.1, empty_of h.2]
  · rfl
  · rfl
  · cases h
theorem sameVs_ok : ∀ {us vs : List Value}, sameVs us vs = true → us = vs
  | [], [], _ => rfl
  | u :: us, v :: vs, h => by
    simp only [sameVs, Bool.and_eq_true] at h
    rw [sameV_ok h.1, sameVs_ok h.2]
  | [], _ :: _, h => by simp [sameVs] at h
  | _ :: _, [], h => by simp [sameVs] at h
def zokB (P : Program) (T : Tab) (t : Nat) : Bool := match zeroP T 9 t with
  | none => true
  | some p => match P.info? t with
    | some i => match i.zero with
      | some z => sameVs z.cells.toList (flatP p)
      | none => false
    | none => false
/-- What '==' of structs asks. -/
def eqiB (P : Program) (T : Tab) (t : Nat) : Bool := match (T t).td with
  | .struct ts => !(allInt T ts) || (!(P.stoodInHeld t) && !(P.eqGuardType P.depth t) && (match P.underlying t with | some (.struct F) => F.toList.all fun f => !(f.name == "_") | _ => true))
  | _ => true
theorem eqiB_ok {P : Program} {T : Tab} {t : Nat} (h : eqiB P T t = true) (ts : List Nat) (ht : (T t).td = .struct ts) (ha : allInt T ts = true) :
    P.stoodInHeld t = false ∧ P.eqGuardType P.depth t = false ∧ ∀ F, P.underlying t = some (.struct F) → ∀ f ∈ F.toList, (f.name == "_") = false := by
  unfold eqiB at h
  rw [ht] at h
  simp only [ha, Bool.not_true, Bool.false_or, Bool.and_eq_true, Bool.not_eq_true'] at h
  refine ⟨h.1.1, h.1.2, fun F hF f hf => ?_⟩
  have h2 := h.2
  rw [hF] at h2
  simp only [List.all_eq_true] at h2
  have := h2 f hf
  simpa using this
theorem pok_of {P : Program} {l : List TI} (hl : (List.range l.length).map (tabOf P) = l) (hf : (l.all fun i => inB l.length i.td) = true) (hz : ((List.range l.length).all fun t => zokB P (tabT l) t) = true) (he : ((List.range l.length).all fun t => eqiB P (tabT l) t) = true) (hm : P.follows .mixedOrders = true) (hn : namesB P = true) : POk P (tabT l) := by
  refine ⟨fun t => ?_, hm, namesB_ok hn⟩
  have key : ∀ t, t < l.length → tabT l t = tabOf P t := by
    intro t ht
    have : l[t]? = some (tabOf P t) := by
      have h := congrArg (fun m : List TI => m[t]?) hl
      simp only [List.getElem?_map, List.getElem?_range ht, Option.map_some] at h
      exact h.symm
    simp [tabT, List.getD_eq_getElem?_getD, this]
  by_cases ht : t < l.length
  · have h := tabOf_ok P t
    constructor
    · intro p hp
      have h1 := List.all_eq_true.1 hz t (by simpa using ht)
      unfold zokB at h1
      rw [hp] at h1
      simp only at h1
      split at h1
      · rename_i i hi
        split at h1
        · rename_i z hzz; exact ⟨i, z, hi, hzz, sameVs_ok h1⟩
        · cases h1
      · cases h1
    · rw [key t ht]; exact h.1
    · have hd := h.2
      have hmem : tabT l t ∈ l := by
        have : tabT l t = l[t] := by simp [tabT, List.getD_eq_getElem?_getD, ht]
        rw [this]; exact List.getElem_mem ht
      have hb := List.all_eq_true.1 hf _ hmem
      rw [← key t ht] at hd
      cases htd : (tabT l t).td with
      | struct ts =>
        rw [htd] at hd hb
        simp only [tdOk] at hd ⊢
        obtain ⟨F, h1, h2⟩ := hd
        refine ⟨F, h1, fieldsOk_of key (fun u hu => ?_) h2⟩
        simp only [inB, List.all_eq_true] at hb
        exact Nat.le_of_ble_eq_true (hb u hu)
      | _ => rw [htd] at hd; exact hd
    · exact eqiB_ok (List.all_eq_true.1 he t (by simpa using ht))
  · have : tabT l t = ⟨.other, 0, 0⟩ := by simp [tabT, List.getD_eq_getElem?_getD, ht]
    constructor
    · intro p hp; simp only [zeroP, this] at hp; cases hp
    · rw [this]; intro h; simp [TD.isOther] at h
    · rw [this]; trivial
    · intro ts hts; rw [this] at hts; cases hts
end Go.Vm

/- Words for walks. -/
set_option linter.unusedVariables false
namespace Go.Vm
open Go Go.RowKit
def I (z : Int) : PV := .w (.int .i64 z)
def B (b : Bool) : PV := .w (.bool b)
def Y (c : UInt8) : PV := .w (.int .u8 c.toNat)
def S (s : ByteArray) : PV := .w (.string s)
def ints (l : List Int) : PV := .sl 1 (l.map I)
/-- An element of a list. -/
def at' {α : Type} [Inhabited α] (l : List α) (i : Nat) : α := l.getD i default
theorem at_eq {α : Type} [Inhabited α] {l : List α} {i : Nat} (h : i < l.length) : at' l i = l[i] := by simp [at', h]
theorem i64 {z : Int} (h : -9223372036854775808 ≤ z ∧ z ≤ 9223372036854775807) : IntKind.i64.wrap z = z := Go.IntWalk.i64_in z h
section
variable {p : Prop} {A C : Prop}
theorem Tst.dec [Decidable p] (h1 : p → A) (h2 : ¬ p → C) : Tst (decide p) A C := by
  by_cases h : p
  · exact .yes (decide_eq_true h) (h1 h)
  · exact .no (decide_eq_false h) (h2 h)
theorem Tst.ndec [Decidable p] (h1 : ¬ p → A) (h2 : p → C) : Tst (!decide p) A C := by
  by_cases h : p
  · exact .no (by simp [h]) (h2 h)
  · exact .yes (by simp [h]) (h1 h)
theorem Tst.any {b : Bool} (h1 : b = true → A) (h2 : b = false → C) : Tst b A C := by
  cases b
  · exact .no rfl (h2 rfl)
  · exact .yes rfl (h1 rfl)
theorem brP_any {b : Bool} (h1 : b = true → A) (h2 : b = false → C) : brP b A C := by
  cases b
  · exact h2 rfl
  · exact h1 rfl
theorem brP_dec [Decidable p] (h1 : p → A) (h2 : ¬ p → C) : brP (decide p) A C := by
  by_cases h : p
  · rw [decide_eq_true h]; exact h1 h
  · rw [decide_eq_false h]; exact h2 h
end
section
variable {k : IntKind} {e : Int} {K : Int → Prop} {ob : Prop}
theorem Num.i64 (h : -9223372036854775808 ≤ e ∧ e ≤ 9223372036854775807) (hk : K e) : Num True .i64 (IntKind.i64.wrap e) K := .mk trivial e (Vm.i64 h) hk
theorem Num.eq {z : Int} (h : ob) (he : e = z) (hk : K z) : Num ob k e K := .mk h z he hk
theorem Num.any (hk : K e) : Num True k e K := .mk trivial e rfl hk
theorem Num.len {α β : Type} {f : α → β} {l : List α} (hk : K l.length) : Num True k ((l.map f).length : Int) K := .mk trivial _ (by rw [List.length_map]) hk
end
section
variable {α : Type} [Inhabited α] {f : α → PV} {l : List α} {ob : Prop} {K : PV → Prop}
theorem Elt.cast {i : Nat} (h0 : ob) (h : i < l.length) (hk : K (f (at' l i))) : Elt ob (l.map f) (Int.toNat (Nat.cast i)) K :=
  .mk h0 _ (by simp [at', h]) hk
theorem Elt.int {n : Int} (h0 : ob) (h : 0 ≤ n ∧ n < l.length) (hk : K (f (at' l n.toNat))) : Elt ob (l.map f) n.toNat K :=
  .mk h0 _ (by have : n.toNat < l.length := by omega
               simp [at', this]) hk
theorem Elt.nat {i : Nat} (h0 : ob) (h : i < l.length) (hk : K (f (at' l i))) : Elt ob (l.map f) i K :=
  .mk h0 _ (by simp [at', h]) hk
end
section
variable {P : Program} {s : St} {o : Oper} {g : FuncId} {vs : List V} {K : Eff → Prop}
theorem Cal.by {ps res : List PV} {cs : List Nat} (h : CallV P g ps res) (hp : pvsOf s.roots vs = some (ps, cs)) (hk : K ⟨resV res, match flat res with | true => [] | false => frz s.roots cs⟩) : Cal P s o g vs K := .mk ps cs res h hp hk
theorem Cal.bool {ps : List PV} {cs : List Nat} {p : Prop} [Decidable p] (h : CallV P g ps [B (decide p)]) (hp : pvsOf s.roots vs = some (ps, cs)) (h1 : p → K ⟨resV [B true], []⟩) (h2 : ¬ p → K ⟨resV [B false], []⟩) : Cal P s o g vs K := by
  refine .mk ps cs _ h hp ?_
  by_cases hp : p
  · rw [decide_eq_true hp]; exact h1 hp
  · rw [decide_eq_false hp]; exact h2 hp
theorem Cal.own {args res : List V} {ar rr : List (Nat × Root)} (m : Ren) (fz : List Nat) (h : CallG P g args ar res rr) (hp : PassOk s m fz vs args ar)
    (hk : (okR s o m ar rr && nodupK rr && nodupK (backU rr m ++ newU o rr) && livB s.roots fz) = true) (k : K (effG s o m fz res rr)) : Cal P s o g vs K := .gen m fz args ar res rr h hp hk k
end
theorem Alt.one {p q : Prop} (h : p) : Alt p q := .l h
theorem Alt.two {p q : Prop} (h : q) : Alt p q := .r h
theorem Byt.of {xs : List PV} {K : ByteArray → Prop} (b : ByteArray) (h : xs = b.data.toList.map Yb) (hk : K b) : Byt xs K := .mk b h hk
theorem Lop.of {body : St → (X → St → Prop) → Prop} {s : St} {Q : X → St → Prop} {ι : Type} (I : ι → Prop) (S : ι → St) (μ : ι → Nat) (i : ι) (hi : I i) (hs : Sub s (S i))
    (h : ∀ i, I i → body (S i) fun x s' => match x with | .nrm => Bck I S μ i s' | x => Q x s') : Lop body s Q := ⟨ι, I, S, μ, i, hi, hs, h⟩
theorem Bck.at {ι : Type} {I : ι → Prop} {S : ι → St} {μ : ι → Nat} {i : ι} {s' : St} (j : ι) (hs : Sub s' (S j)) (hj : I j) (hm : μ j < μ i) : Bck I S μ i s' := ⟨j, hj, hs, hm⟩
/-- Several variables at once. -/
def un2 {α β γ : Type _} (f : α → β → γ) : α × β → γ := fun p => f p.1 p.2
def un3 {α β γ δ : Type _} (f : α → β → γ → δ) : α × β × γ → δ := fun p => f p.1 p.2.1 p.2.2
def un4 {α β γ δ ε : Type _} (f : α → β → γ → δ → ε) : α × β × γ × δ → ε := fun p => f p.1 p.2.1 p.2.2.1 p.2.2.2
def un5 {α β γ δ ε ζ : Type _} (f : α → β → γ → δ → ε → ζ) : α × β × γ × δ × ε → ζ := fun p => f p.1 p.2.1 p.2.2.1 p.2.2.2.1 p.2.2.2.2
section
variable {body : St → (X → St → Prop) → Prop} {s s' : St} {Q : X → St → Prop} {α β γ δ ε : Type}
theorem Lop.of2 (I : α → β → Prop) (S : α → β → St) (μ : α → β → Nat) (a : α) (b : β) (hi : I a b) (hs : Sub s (S a b))
    (h : ∀ a b, I a b → body (S a b) fun x s' => match x with | .nrm => Bck (un2 I) (un2 S) (un2 μ) (a, b) s' | x => Q x s') : Lop body s Q :=
  ⟨α × β, un2 I, un2 S, un2 μ, (a, b), hi, hs, fun p hp => h p.1 p.2 hp⟩
theorem Bck.at2 {I : α → β → Prop} {S : α → β → St} {μ : α → β → Nat} {a : α} {b : β} (a' : α) (b' : β) (hs : Sub s' (S a' b')) (hj : I a' b') (hm : μ a' b' < μ a b) : Bck (un2 I) (un2 S) (un2 μ) (a, b) s' := ⟨(a', b'), hj, hs, hm⟩
theorem Lop.of3 (I : α → β → γ → Prop) (S : α → β → γ → St) (μ : α → β → γ → Nat) (a : α) (b : β) (c : γ) (hi : I a b c) (hs : Sub s (S a b c))
    (h : ∀ a b c, I a b c → body (S a b c) fun x s' => match x with | .nrm => Bck (un3 I) (un3 S) (un3 μ) (a, b, c) s' | x => Q x s') : Lop body s Q :=
  ⟨α × β × γ, un3 I, un3 S, un3 μ, (a, b, c), hi, hs, fun p hp => h p.1 p.2.1 p.2.2 hp⟩
theorem Bck.at3 {I : α → β → γ → Prop} {S : α → β → γ → St} {μ : α → β → γ → Nat} {a : α} {b : β} {c : γ} (a' : α) (b' : β) (c' : γ) (hs : Sub s' (S a' b' c')) (hj : I a' b' c') (hm : μ a' b' c' < μ a b c) : Bck (un3 I) (un3 S) (un3 μ) (a, b, c) s' := ⟨(a', b', c'), hj, hs, hm⟩
theorem Lop.of4 (I : α → β → γ → δ → Prop) (S : α → β → γ → δ → St) (μ : α → β → γ → δ → Nat) (a : α) (b : β) (c : γ) (d : δ) (hi : I a b c d) (hs : Sub s (S a b c d))
    (h : ∀ a b c d, I a b c d → body (S a b c d) fun x s' => match x with | .nrm => Bck (un4 I) (un4 S) (un4 μ) (a, b, c, d) s' | x => Q x s') : Lop body s Q :=
  ⟨α × β × γ × δ, un4 I, un4 S, un4 μ, (a, b, c, d), hi, hs, fun p hp => h p.1 p.2.1 p.2.2.1 p.2.2.2 hp⟩
theorem Bck.at4 {I : α → β → γ → δ → Prop} {S : α → β → γ → δ → St} {μ : α → β → γ → δ → Nat} {a : α} {b : β} {c : γ} {d : δ} (a' : α) (b' : β) (c' : γ) (d' : δ) (hs : Sub s' (S a' b' c' d')) (hj : I a' b' c' d') (hm : μ a' b' c' d' < μ a b c d) : Bck (un4 I) (un4 S) (un4 μ) (a, b, c, d) s' := ⟨(a', b', c', d'), hj, hs, hm⟩
theorem Lop.of5 (I : α → β → γ → δ → ε → Prop) (S : α → β → γ → δ → ε → St) (μ : α → β → γ → δ → ε → Nat) (a : α) (b : β) (c : γ) (d : δ) (e : ε) (hi : I a b c d e) (hs : Sub s (S a b c d e))
    (h : ∀ a b c d e, I a b c d e → body (S a b c d e) fun x s' => match x with | .nrm => Bck (un5 I) (un5 S) (un5 μ) (a, b, c, d, e) s' | x => Q x s') : Lop body s Q :=
  ⟨α × β × γ × δ × ε, un5 I, un5 S, un5 μ, (a, b, c, d, e), hi, hs, fun p hp => h p.1 p.2.1 p.2.2.1 p.2.2.2.1 p.2.2.2.2 hp⟩
theorem Bck.at5 {I : α → β → γ → δ → ε → Prop} {S : α → β → γ → δ → ε → St} {μ : α → β → γ → δ → ε → Nat} {a : α} {b : β} {c : γ} {d : δ} {e : ε} (a' : α) (b' : β) (c' : γ) (d' : δ) (e' : ε) (hs : Sub s' (S a' b' c' d' e')) (hj : I a' b' c' d' e') (hm : μ a' b' c' d' e' < μ a b c d e) : Bck (un5 I) (un5 S) (un5 μ) (a, b, c, d, e) s' := ⟨(a', b', c', d', e'), hj, hs, hm⟩
end
mutual
theorem retP_refl : ∀ p : PV, retP p p
  | .nil => by simp [retP]
  | .agg ps => by simp only [retP]; exact retPs_refl ps
  | .w _ => by simp [retP]
  | .sl _ _ => by simp [retP]
  | .ptr _ => by simp [retP]
  | .fn _ _ => by simp [retP]
  | .lnk _ => by simp [retP]
theorem retPs_refl : ∀ ps : List PV, retPs ps ps
  | [] => by simp [retPs]
  | p :: ps => by simp only [retPs]; exact ⟨retP_refl p, retPs_refl ps⟩
end
theorem Ret.of {ps qs : List PV} (h : ps = qs) : Ret ps qs := ⟨h ▸ retPs_refl ps⟩
theorem Ret.bool {b c : Bool} (h : b = c) : Ret [.w (.bool b)] [B c] := .of (by rw [h]; rfl)
theorem Ret.int {b c : Int} (h : b = c) : Ret [.w (.int .i64 b)] [I c] := .of (by rw [h]; rfl)
theorem Ret.str {b c : ByteArray} (h : b = c) : Ret [.w (.string b)] [S c] := .of (by rw [h]; rfl)
theorem Row.eq {ob : Prop} {xs ys : List PV} {K : List PV → Prop} (hy : xs = ys) (h : ob) (hk : K ys) : Row ob xs K := .mk h ys hy hk
theorem Row.is {ob : Prop} {xs : List PV} {K : List PV → Prop} (h : ob) (hk : K xs) : Row ob xs K := .mk h xs rfl hk
/-- A row that is filled from its beginning. -/
def fillP {α : Type} (f : α → PV) (z : PV) (l : List α) (i : Nat) : List PV := (l.take i).map f ++ List.replicate (l.length - i) z
section
variable {α : Type} {f : α → PV} {z : PV} {l : List α} {i : Nat}
theorem fillP_len (h : i ≤ l.length) : (fillP f z l i).length = l.length := by simp [fillP]; omega
theorem fillP_all (h : l.length ≤ i) : fillP f z l i = l.map f := by rw [fillP, List.take_of_length_le h, Nat.sub_eq_zero_of_le h]; simp
theorem fillP_step [Inhabited α] (h : i < l.length) : (fillP f z l i).set i (f (at' l i)) = fillP f z l (i + 1) := by
  rw [at_eq h, fillP, fillP, List.set_append_right _ _ (by simp; exact Nat.min_le_left _ _), List.length_map, List.length_take, Nat.min_eq_left (Nat.le_of_lt h), Nat.sub_self, show l.length - i = (l.length - (i + 1)) + 1 by omega, List.replicate_succ, List.set_cons_zero,
    List.take_succ_eq_append_getElem h, List.map_append, List.append_assoc]
  rfl
end
theorem drop_at {α : Type} [Inhabited α] {l : List α} {i : Nat} (h : i < l.length) : l.drop i = at' l i :: l.drop (i + 1) := by rw [List.drop_eq_getElem_cons h, at_eq h]
theorem at_mem {α : Type} [Inhabited α] {l : List α} {i : Nat} (h : i < l.length) : at' l i ∈ l := by rw [at_eq h]; exact List.getElem_mem h
theorem Ret.sl {k : Nat} {xs ys : List PV} (h : xs = ys) : Ret [.sl k xs] [.sl k ys] := .of (by rw [h])
theorem Owe.by {p K : Prop} (h : p) (hk : K) : Owe p K := .mk h hk
theorem take_next {α : Type} [Inhabited α] {l : List α} {i : Nat} (h : i < l.length) : l.take (i + 1) = l.take i ++ [at' l i] := by
  rw [List.take_succ_eq_append_getElem h, at_eq h]
section
variable {α : Type} {f : α → PV} {xs ys zs : List α} {b : Nat} {K : List PV → Prop}
theorem room {n m : Nat} (h : n ≤ 1048576) (hb : b ≤ 1048576) : n ≤ maxLen ∧ n * b ≤ 140737488355328 := by
  have := Nat.mul_le_mul h hb
  simp [maxLen]; omega
theorem Row.app (he : xs ++ ys = zs) (h : zs.length ≤ 1048576) (hb : b ≤ 1048576) (hk : K (zs.map f)) :
    Row ((xs.map f).length + (ys.map f).length ≤ maxLen ∧ ((xs.map f).length + (ys.map f).length) * b ≤ 140737488355328) (xs.map f ++ ys.map f) K := by
  subst he
  rw [List.length_append] at h
  exact .mk (by rw [List.length_map, List.length_map]; exact room (m := 0) h hb) _ List.map_append.symm hk
theorem Row.push {x : α} (he : xs ++ [x] = zs) (h : zs.length ≤ 1048576) (hb : b ≤ 1048576) (hk : K (zs.map f)) :
    Row ((xs.map f).length + [f x].length ≤ maxLen ∧ ((xs.map f).length + [f x].length) * b ≤ 140737488355328) (xs.map f ++ [f x]) K :=
  Row.app (ys := [x]) he h hb hk
theorem Row.new (h : xs.length ≤ 1048576) (hb : b ≤ 1048576) (hk : K (xs.map f)) :
    Row (([] : List PV).length + (xs.map f).length ≤ maxLen ∧ (([] : List PV).length + (xs.map f).length) * b ≤ 140737488355328) ([] ++ xs.map f) K :=
  Row.app (xs := []) rfl h hb hk
theorem Row.cut {k : Int} (hz : xs.take k.toNat = zs) (h : 0 ≤ k ∧ k ≤ xs.length) (hk : K (zs.map f)) :
    Row (0 ≤ (0 : Int) ∧ 0 ≤ k ∧ k ≤ ((xs.map f).length : Int)) (List.drop (Int.toNat 0) (List.take k.toNat (xs.map f))) K := by
  subst hz
  exact .mk ⟨by omega, h.1, by rw [List.length_map]; exact h.2⟩ _ (by rw [List.map_take]; rfl) hk
end
end Go.Vm

/- The library's contracts, as contracts of this logic. -/
set_option linter.unusedVariables false
set_option linter.unusedSimpArgs false
namespace Go.Vm
open Go Go.RowKit
theorem callV_of_below {P : Program} {T : Tab} {f : FuncId} {fn : Func} {args res : List PV} (hP : POk P T) (hf : P.funcs[f]? = some fn) (hb : fn.body.isSome = true)
    (h : ∀ (xs : List Value) (w : World) (col0 : Col), GlobOk P w col0 → ArgsRep w col0 args xs → Calls P f xs.toArray w fun e w' => ∃ y, e = .returned y ∧ ResRep w' col0 res y ∧ Below w.heap.size w w') : CallV P f args res := by
  refine ⟨⟨fn, hf, hb, hP.names f fn hf⟩, fun xs w col0 ho hl gl ha => (h xs w col0 gl ha).mono ?_⟩
  rintro e w' ⟨y, he, hr, hB⟩
  exact ⟨y, col0, he, hr, hB.os, hB.tape, hB.output, hB.size, fun b hb _ => ⟨hB.block b hb, rfl⟩, fun b x hx => Nat.lt_of_lt_of_le (hl b x hx) hB.size⟩
theorem resRep_str {w : World} {col : Col} {s : ByteArray} : ResRep w col [S s] (.string s) :=
  ⟨[.string s], ⟨_, _, rfl, ⟨_, ⟨rfl, rfl⟩, rfl⟩, rfl⟩, rfl⟩
theorem tabIs_of {P : Program} {w : World} {col : Col} (h : GlobOk P w col) (hg : (P.globalNamed "internal/strconv.uint64pow10").isSome = true) : Lib.TabIs P w "internal/strconv.uint64pow10" .u64 Lib.pow10Tab := by
  obtain ⟨g, hg⟩ := Option.isSome_iff_exists.1 hg
  obtain ⟨_, T, fr, hc⟩ := h.tab _ _ g (List.mem_singleton.2 rfl) hg
  simp only [Lib.TabIs, World.var?, hg, Option.bind_some, hc]
theorem repL_strs {w : World} {col : Col} : ∀ {l : List ByteArray} {i : Nat} {d : List Value}, RepL w col lk0 0 0 [] i (l.map S) d → d = l.map Value.string
  | [], _, _, h => by simpa only [List.map_nil, RepL] using h
  | s :: l, i, d, h => by
    simp only [List.map_cons, RepL] at h
    obtain ⟨c, d', rfl, ⟨rfl, _⟩, h2⟩ := h
    rw [repL_strs h2]; rfl
/-- A list of strings, handed in. -/
theorem argsRep_strs {w : World} {col : Col} {l : List ByteArray} {ps : List PV} {xs : List Value} (h : ArgsRep w col (.sl 1 (l.map S) :: ps) xs) :
    ∃ A cap zs, xs = .slice A l.length cap :: zs ∧ ArgsRep w col ps zs ∧ l.length ≤ cap ∧
      (l ≠ [] → ∃ b o, A = some ⟨b, o, none⟩ ∧ b < w.heap.size ∧ ∀ (j : Nat) x, l[j]? = some x → w.cell? ⟨b, o + j, none⟩ = some (.string x)) := by
  obtain ⟨y, zs, rfl, ⟨cs, hr, rfl⟩, hz⟩ := h
  simp only [Rep] at hr
  obtain ⟨v, d, rfl, _, hd, A, cap, rfl, hc, hA⟩ := hr
  have e := repL_strs hd
  subst e
  rw [List.length_map] at hc ⊢
  refine ⟨A, cap, zs, rfl, hz, hc, fun hl => ?_⟩
  obtain ⟨b, o, rfl, _, hat⟩ := hA (by simpa using hl)
  have key : ∀ (j : Nat) x, l[j]? = some x → w.cell? ⟨b, o + j, none⟩ = some (.string x) := fun j x hx => hat j _ (by rw [List.getElem?_map, hx]; rfl)
  refine ⟨b, o, rfl, ?_, key⟩
  rcases l with _ | ⟨x, l⟩
  · exact absurd rfl hl
  · have := key 0 x rfl
    refine Decidable.byContradiction fun hn => ?_
    rw [Nat.add_zero, World.cell?] at this
    simp [Array.getElem?_eq_none (Nat.le_of_not_lt hn)] at this
end Go.Vm

/- From a row's reading of the arguments to contents, and from a contract to the row. -/
set_option linter.unusedVariables false
set_option linter.unusedSimpArgs false
namespace Go.Vm
open Go Go.RowKit

/-- Shapes of data. -/
inductive Sh where
  | int (k : IntKind)
  | bool
  | str
  | sl (k : Nat) (e : Sh)
  | st (fs : List Sh)
mutual
def Sh.ok : Sh → PV → Prop
  | .int k, p => ∃ z, p = .w (.int k z) ∧ (Lit.int k z).wf = true
  | .bool, p => ∃ b, p = .w (.bool b)
  | .str, p => ∃ s : ByteArray, p = .w (.string s) ∧ s.size ≤ maxLen
  | .sl k e, p => ∃ xs, p = .sl k xs ∧ xs.length ≤ maxLen ∧ (∀ x ∈ xs, sz x = k) ∧ ∀ x ∈ xs, e.ok x
  | .st fs, p => ∃ ps, p = .agg ps ∧ Sh.oks fs ps
def Sh.oks : List Sh → List PV → Prop
  | [], ps => ps = []
  | f :: fs, ps => ∃ p qs, ps = p :: qs ∧ f.ok p ∧ Sh.oks fs qs
end
def mapO {α β : Type} (f : α → Option β) : List α → Option (List β)
  | [] => some []
  | x :: xs => match f x, mapO f xs with
    | some y, some ys => some (y :: ys)
    | _, _ => none
def shOf (T : Tab) : Nat → TypeId → Option Sh
  | 0, _ => none
  | n + 1, t => match (T t).td with
    | .int k => some (.int k)
    | .bool => some .bool
    | .str => some .str
    | .slice e => match shOf T n e, (T e).td.isOther with | some s, false => some (.sl (T e).cells s) | _, _ => none
    | .struct ts => match mapO (shOf T n) ts, Nat.beq (T t).cells (sumT T ts) && (ts.all fun u => !(T u).td.isOther) with | some ss, true => some (.st ss) | _, _ => none
    | _ => none
section
variable {H : Type} {enc : TypeId × Value → H} {P : Program} {T : Tab} {w : World} {spare : Nat → Bool} {held : Bool}
theorem cellsOf_eq (hT : TabOk P T) {t : Nat} (h : (T t).td.isOther = false) : P.cellsOf t = (T t).cells := by
  obtain ⟨i, h1, h2, _⟩ := (hT t).info h
  simp [Program.cellsOf, h1, h2]
theorem cells?_get {base : Nat} {a : Addr} {n : Nat} {cs : List Value} (h : w.cells? base a n = some cs) : cs.length = n ∧ ∀ (j : Nat) (v : Value), cs[j]? = some v → w.cell? (a.add j) = some v := by
  unfold World.cells? at h
  split at h
  · refine ⟨by simpa using mapM_some_length h, fun j v hj => ?_⟩
    have hlt : j < n := by have := (List.getElem?_eq_some_iff.1 hj).1; have h2 := mapM_some_length h; simp at h2; omega
    have := mapM_some_get h j j (by simp [hlt])
    rw [this, hj]
  · cases h
theorem addr_plain {a : Addr} {j : Nat} {v : Value} (h : w.cell? (a.add j) = some v) (h0 : ∃ u, w.cell? a = some u) : a = ⟨a.block, a.off, none⟩ := by
  obtain ⟨u, h0⟩ := h0
  obtain ⟨b, o, s⟩ := a
  cases s with
  | none => rfl
  | some x => simp [World.cell?] at h0; split at h0 <;> simp at h0
theorem Rep.none_any {col : Col} {lk : Lk} {r r' : Nat} {pos pos' : List Nat} {p : PV} {cs : List Value} (h : Rep w col lk r 0 pos p cs) : Rep w col lk r' 0 pos' p cs := Rep.move p h
theorem RepL.of_pieces {k : Nat} {col : Col} {lk : Lk} : ∀ (xs : List PV) (ds : List (List Value)) {r : Nat} {pos : List Nat} {i : Nat}, xs.length = ds.length → (∀ (j : Nat) (x : PV) (d : List Value), xs[j]? = some x → ds[j]? = some d → Rep w col lk 0 0 [] x d) → RepL w col lk r 0 pos i xs ds.flatten
  | [], [], _, _, _, _, _ => by simp [RepL]
  | x :: xs, d :: ds, r, pos, i, hl, h => by
    simp only [RepL, List.flatten_cons]
    exact ⟨d, _, rfl, Rep.move x (h 0 x d rfl rfl), RepL.of_pieces (k := k) xs ds (by simpa using hl) fun j y e hy he => h (j + 1) y e (by simpa using hy) (by simpa using he)⟩
  | [], _ :: _, _, _, _, hl, _ => by simp at hl
  | _ :: _, [], _, _, _, hl, _ => by simp at hl
theorem flatten_get {k : Nat} : ∀ {ds : List (List Value)} {j : Nat} {v : Value}, (∀ d ∈ ds, d.length = k) → ds.flatten[j]? = some v → ∃ i d, ds[i]? = some d ∧ i * k ≤ j ∧ d[j - i * k]? = some v
  | [], j, v, _, h => by simp at h
  | d :: ds, j, v, hk, h => by
    rw [List.flatten_cons] at h
    have hd := hk d (by simp)
    by_cases hj : j < d.length
    · rw [List.getElem?_append_left hj] at h
      exact ⟨0, d, rfl, by omega, by simpa using h⟩
    · rw [List.getElem?_append_right (by omega)] at h
      obtain ⟨i, e, h1, h2, h3⟩ := flatten_get (fun d hd => hk d (by simp [hd])) h
      refine ⟨i + 1, e, by simpa using h1, by rw [Nat.succ_mul]; omega, ?_⟩
      rw [Nat.succ_mul, ← h3]
      congr 1
      omega
theorem choose_list {α β : Type} {R : Nat → α → β → Prop} : ∀ (len : Nat), (∀ i, i < len → ∃ d p, R i d p) → ∃ (ds : List α) (ps : List β), ds.length = len ∧ ps.length = len ∧ ∀ (i : Nat) (d : α) (p : β), ds[i]? = some d → ps[i]? = some p → R i d p
  | 0, _ => ⟨[], [], rfl, rfl, by simp⟩
  | l + 1, each => by
    obtain ⟨ds, ps, h1, h2, h3⟩ := choose_list l fun i hi => each i (by omega)
    obtain ⟨d, p, h4⟩ := each l (by omega)
    refine ⟨ds ++ [d], ps ++ [p], by simp [h1], by simp [h2], fun i d' p' hd hp => ?_⟩
    by_cases hi : i < l
    · rw [List.getElem?_append_left (by omega)] at hd hp
      exact h3 i d' p' hd hp
    · have : i = l := by
        have := (List.getElem?_eq_some_iff.1 hd).1
        simp [h1] at this; omega
      subst this
      rw [List.getElem?_append_right (by omega)] at hd hp
      simp [h1] at hd
      simp [h2] at hp
      subst hd
      subst hp
      exact h4
theorem add_add (a : Addr) (x y : Nat) : (a.add x).add y = a.add (x + y) := by
  unfold Addr.add
  by_cases hx : x = 0
  · subst hx; simp
  · by_cases hy : y = 0
    · subst hy; simp [hx]
    · have : ¬ x + y = 0 := by omega
      simp [hx, hy, this, Nat.add_assoc]
/-- The fields of a struct, read one after another. -/
theorem fields_rep (hT : TabOk P T) {n : Nat} {fuel : Nat} (ih : ∀ (t : TypeId) (cs : List Value) (x : DataW H × List MemPlace) (s : Sh), shOf T n t = some s → DataW.trod enc P w 0 spare held fuel t cs = some x → ∃ p, Rep w (fun _ => none) lk0 0 0 [] p cs ∧ s.ok p) :
    ∀ (ts : List Nat) (fs : List Field) (off : Nat) (cs : List Value) (ss : List Sh) (i : Nat), fieldsOk T off ts fs → mapO (shOf T n) ts = some ss → (ts.all fun u => !(T u).td.isOther) = true → off ≤ cs.length → cs.length = off + sumT T ts →
      (∀ (j : Nat) (f : Field), fs[j]? = some f → ∃ x, DataW.trod enc P w 0 spare held fuel f.type ((cs.drop f.offset).take (P.cellsOf f.type)) = some x) →
      ∃ ps, RepL w (fun _ => none) lk0 0 0 [] i ps (cs.drop off) ∧ Sh.oks ss ps
  | [], [], off, cs, ss, i, _, hm, _, _, hl, _ => by
    simp only [mapO, Option.some.injEq] at hm
    subst hm
    simp only [sumT, Nat.add_zero] at hl
    exact ⟨[], by simp [RepL, hl], by simp [Sh.oks]⟩
  | t :: ts, f :: fs, off, cs, ss, i, hf, hm, ho, hle, hl, hx => by
    simp only [fieldsOk] at hf
    obtain ⟨rfl, rfl, hf⟩ := hf
    simp only [mapO] at hm
    split at hm
    · rename_i s ss' h1 h2
      simp only [Option.some.injEq] at hm
      subst hm
      simp only [List.all_cons, Bool.and_eq_true, Bool.not_eq_true'] at ho
      simp only [sumT] at hl
      obtain ⟨x, hx0⟩ := hx 0 f rfl
      rw [cellsOf_eq hT ho.1] at hx0
      obtain ⟨p, hp, hpo⟩ := ih f.type _ x s h1 hx0
      obtain ⟨ps, hps, hpso⟩ := fields_rep hT ih ts fs (f.offset + (T f.type).cells) cs ss' (i + 1) hf h2 ho.2 (by omega) (by omega) (fun j g hg => hx (j + 1) g (by simpa using hg))
      refine ⟨p :: ps, ?_, p, ps, rfl, hpo, hpso⟩
      simp only [RepL]
      refine ⟨_, _, ?_, Rep.move p hp, hps⟩
      rw [← List.drop_drop, List.take_append_drop]
    · cases hm
  | [], _ :: _, _, _, _, _, hf, _, _, _, _, _ => by simp [fieldsOk] at hf
  | _ :: _, [], _, _, _, _, hf, _, _, _, _, _ => by simp [fieldsOk] at hf
theorem trod_rep (hT : TabOk P T) : ∀ (n fuel : Nat) (t : TypeId) (cs : List Value) (x : DataW H × List MemPlace) (s : Sh), shOf T n t = some s → DataW.trod enc P w 0 spare held fuel t cs = some x →
    ∃ p, Rep w (fun _ => none) lk0 0 0 [] p cs ∧ s.ok p
  | 0, _, _, _, _, _, hs, _ => by simp [shOf] at hs
  | n + 1, fuel, t, cs, x, s, hs, h => by
    have htd := (hT t).td
    simp only [shOf] at hs
    split at hs
    · rename_i k hk
      rw [hk] at htd
      simp only [Option.some.injEq] at hs
      subst hs
      obtain ⟨m, rfl, _, hw⟩ := DataW.trod_int htd h
      exact ⟨.w (.int k m), by simp [Rep, Value.oneCell'], m, rfl, hw⟩
    · rename_i hk
      rw [hk] at htd
      simp only [Option.some.injEq] at hs
      subst hs
      obtain ⟨b, rfl, _⟩ := DataW.trod_bool htd h
      exact ⟨.w (.bool b), by simp [Rep, Value.oneCell'], b, rfl⟩
    · rename_i hk
      rw [hk] at htd
      simp only [Option.some.injEq] at hs
      subst hs
      obtain ⟨b, rfl, _, hl⟩ := DataW.trod_string htd h
      exact ⟨.w (.string b), by simp [Rep, Value.oneCell'], b, rfl, hl⟩
    · rename_i e he
      rw [he] at htd
      split at hs
      · rename_i s' hs' ho
        simp only [Option.some.injEq] at hs
        subst hs
        have hce := cellsOf_eq hT ho
        rcases DataW.trod_slice htd h with ⟨rfl, _⟩ | ⟨a, len, cap, elems, rest, m, rfl, rfl, rfl, _, hle, hcm, hlen, hel, _, _⟩
        · refine ⟨.sl (T e).cells [], ?_, [], rfl, Nat.zero_le _, by simp, by simp⟩
          simp only [Rep]
          exact ⟨.slice none 0 0, [], rfl, by simp, by simp [RepL], none, 0, rfl, Nat.le_refl _, fun h => absurd rfl h⟩
        · -- each element, its cells and its content
          have each : ∀ i, i < len → ∃ d p, w.cells? 0 (a.add (i * (T e).cells)) (T e).cells = some d ∧ Rep w (fun _ => none) lk0 0 0 [] p d ∧ s'.ok p := by
            intro i hi
            have h1 := hel i hi
            rw [hce] at h1
            obtain ⟨y, hy⟩ : ∃ y, elems[i]? = some y := ⟨elems[i], by simp [hlen, hi]⟩
            rw [hy, Option.bind_eq_some_iff] at h1
            obtain ⟨d, hd, h2⟩ := h1
            obtain ⟨p, hp, hpo⟩ := trod_rep hT n m e d y s' hs' h2
            exact ⟨d, p, hd, hp, hpo⟩
          obtain ⟨ds, ps, hdl, hpl, hall⟩ : ∃ (ds : List (List Value)) (ps : List PV), ds.length = len ∧ ps.length = len ∧ ∀ (i : Nat) (d : List Value) (p : PV), ds[i]? = some d → ps[i]? = some p → w.cells? 0 (a.add (i * (T e).cells)) (T e).cells = some d ∧ Rep w (fun _ => none) lk0 0 0 [] p d ∧ s'.ok p := choose_list len each
          have hds : ∀ d ∈ ds, d.length = (T e).cells := fun d hd => by
            obtain ⟨i, hi⟩ := List.mem_iff_getElem?.1 hd
            have hlt := (List.getElem?_eq_some_iff.1 hi).1
            obtain ⟨p, hp⟩ : ∃ p, ps[i]? = some p := ⟨ps[i]'(by omega), by simp [hpl, ← hdl, hlt]⟩
            exact (cells?_get (hall i d p hi hp).1).1
          have hpsz : ∀ p ∈ ps, sz p = (T e).cells ∧ s'.ok p := fun p hp => by
            obtain ⟨i, hi⟩ := List.mem_iff_getElem?.1 hp
            have hlt := (List.getElem?_eq_some_iff.1 hi).1
            obtain ⟨d, hd⟩ : ∃ d, ds[i]? = some d := ⟨ds[i]'(by omega), by simp [hdl, ← hpl, hlt]⟩
            have := hall i d p hd hi
            exact ⟨by rw [← Rep.len p this.2.1]; exact hds d (List.mem_of_getElem? hd), this.2.2⟩
          refine ⟨.sl (T e).cells ps, ?_, ps, rfl, by omega, fun p hp => (hpsz p hp).1, fun p hp => (hpsz p hp).2⟩
          simp only [Rep]
          refine ⟨.slice (some a) len cap, ds.flatten, rfl, fun p hp => (hpsz p hp).1, RepL.of_pieces (k := 0) ps ds (by omega) fun j x d hx hd => (hall j d x hd hx).2.1, some a, cap, by rw [hpl], by omega, fun hne => ?_⟩
          have cellAt : ∀ (j : Nat) (v : Value), ds.flatten[j]? = some v → w.cell? (a.add j) = some v := by
            intro j v hj
            obtain ⟨i, d, h1, h2, h3⟩ := flatten_get hds hj
            have hlt := (List.getElem?_eq_some_iff.1 h1).1
            obtain ⟨p, hp⟩ : ∃ p, ps[i]? = some p := ⟨ps[i]'(by omega), by simp [hpl, ← hdl, hlt]⟩
            have h4 := (cells?_get (hall i d p h1 hp).1).2 _ v h3
            rw [add_add] at h4
            rw [show j = i * (T e).cells + (j - i * (T e).cells) by omega]
            exact h4
          obtain ⟨v0, hv0⟩ : ∃ v, ds.flatten[0]? = some v := by
            cases hf : ds.flatten with
            | nil => exact absurd hf hne
            | cons v l => exact ⟨v, rfl⟩
          have h0 := cellAt 0 v0 hv0
          simp only [Addr.add, if_true] at h0
          have hpl2 : a = ⟨a.block, a.off, none⟩ := addr_plain (j := 0) (v := v0) (by simpa [Addr.add] using h0) ⟨v0, h0⟩
          refine ⟨a.block, a.off, by rw [← hpl2], rfl, fun j v hj => ?_⟩
          have := cellAt j v hj
          rw [hpl2, Addr.add_mid] at this
          exact this
      · cases hs
    · rename_i ts hts
      rw [hts] at htd
      split at hs
      · rename_i ss hss hb
        simp only [Option.some.injEq] at hs
        subst hs
        simp only [Bool.and_eq_true, beqT, decide_eq_true_eq] at hb
        obtain ⟨F, hF, hfs⟩ := htd
        obtain ⟨xs, m, rfl, rfl, hlen, hxl, hx⟩ := DataW.trod_struct hF h
        rw [cellsOf_eq hT (by rw [hts]; rfl), hb.1] at hlen
        obtain ⟨ps, h1, h2⟩ := fields_rep hT (fun t cs x s hs h => trod_rep hT n m t cs x s hs h) ts F.toList 0 cs ss 0 hfs hss hb.2 (Nat.zero_le _) (by omega) (fun j f hf => by
          have hj : F[j]? = some f := by simpa using hf
          have hlt : j < F.size := (Array.getElem?_eq_some_iff.1 hj).1
          exact ⟨xs[j]'(by omega), by rw [hx j f hj]; simp [hxl, hlt]⟩)
        exact ⟨.agg ps, by simp only [Rep]; simpa using h1, ps, rfl, h2⟩
      · cases hs
    · cases hs
theorem arg_rep (hT : TabOk P T) {n base : Nat} {t : TypeId} {v : Value} {d : DataW H} {ps : List MemPlace} {s : Sh} (hs : shOf T n t = some s) (hv : Value.okWide P w .any base t v) (h : DataW.Trod enc P w 0 spare held t v d ps) :
    ∃ p, (∃ cs, Rep w (fun _ => none) lk0 0 0 [] p cs ∧ v = toVal p cs) ∧ s.ok p := by
  obtain ⟨fuel, h⟩ := h
  obtain ⟨p, hp, hok⟩ := trod_rep hT n fuel t _ _ s hs h
  refine ⟨p, ⟨_, hp, ?_⟩, hok⟩
  have htd := (hT t).td
  cases n with
  | zero => simp [shOf] at hs
  | succ n =>
    simp only [shOf] at hs
    split at hs
    · rename_i k hk
      rw [hk] at htd
      have htd : P.underlying t = some (.int k) := htd
      simp only [Option.some.injEq] at hs; subst hs
      obtain ⟨z, rfl, _⟩ := hok
      simp only [Value.okWide, htd, Cell.okWide] at hv
      cases v <;> simp_all [Cell.ok, Value.cells, toVal]
    · rename_i hk
      rw [hk] at htd
      have htd : P.underlying t = some .bool := htd
      simp only [Option.some.injEq] at hs; subst hs
      obtain ⟨z, rfl⟩ := hok
      simp only [Value.okWide, htd, Cell.okWide] at hv
      cases v <;> simp_all [Cell.ok, Value.cells, toVal]
    · rename_i hk
      rw [hk] at htd
      have htd : P.underlying t = some .string := htd
      simp only [Option.some.injEq] at hs; subst hs
      obtain ⟨z, rfl, _⟩ := hok
      simp only [Value.okWide, htd, Cell.okWide] at hv
      cases v <;> simp_all [Cell.ok, Value.cells, toVal]
    · rename_i e he
      rw [he] at htd
      have htd : P.underlying t = some (.slice e) := htd
      split at hs
      · simp only [Option.some.injEq] at hs; subst hs
        obtain ⟨xs, rfl, _⟩ := hok
        simp only [Value.okWide, htd, Cell.okWide] at hv
        cases v <;> simp_all [Cell.ok, Value.cells, toVal]
      · cases hs
    · rename_i ts hts
      rw [hts] at htd
      obtain ⟨F, hF, _⟩ := htd
      split at hs
      · simp only [Option.some.injEq] at hs; subst hs
        obtain ⟨xs, rfl, _⟩ := hok
        simp only [Value.okWide, hF] at hv
        obtain ⟨cs, rfl, _⟩ := hv
        simp [Value.cells, toVal]
      · cases hs
    · cases hs
theorem args_rep (hT : TabOk P T) {n base : Nat} : ∀ {ts : List TypeId} {vs : List Value} {ds : List (DataW H)} {ps : List MemPlace} {ss : List Sh}, mapO (shOf T n) ts = some ss → (∀ (j : Nat) (t : TypeId) (v : Value), ts[j]? = some t → vs[j]? = some v → Value.okWide P w .any base t v) →
    DataW.TrodAll enc P w 0 spare held ts vs ds ps → ∃ qs, ArgsRep w (fun _ => none) qs vs ∧ Sh.oks ss qs
  | [], [], [], _, ss, hs, _, _ => by simp only [mapO, Option.some.injEq] at hs; subst hs; exact ⟨[], by simp [ArgsRep], by simp [Sh.oks]⟩
  | t :: ts, v :: vs, d :: ds, ps, ss, hs, hv, h => by
    simp only [mapO] at hs
    split at hs
    · rename_i s ss' h1 h2
      simp only [Option.some.injEq] at hs
      subst hs
      obtain ⟨p1, q1, h3, h4, _⟩ := h
      obtain ⟨p, hp, hpo⟩ := arg_rep hT h1 (hv 0 t v rfl rfl) h3
      obtain ⟨qs, hq, hqo⟩ := args_rep hT h2 (fun j t v ht hv' => hv (j + 1) t v (by simpa using ht) (by simpa using hv')) h4
      exact ⟨p :: qs, by simp only [ArgsRep]; exact ⟨v, vs, rfl, hp, hq⟩, p, qs, rfl, hpo, hqo⟩
    · cases hs
  | [], _ :: _, _, _, _, _, _, h => h.elim
  | [], [], _ :: _, _, _, _, _, h => h.elim
  | _ :: _, [], _, _, _, _, _, h => h.elim
  | _ :: _, _ :: _, [], _, _, _, _, h => h.elim
theorem trodAll_len : ∀ {ts : List TypeId} {vs : List Value} {ds : List (DataW H)} {ps : List MemPlace}, DataW.TrodAll enc P w 0 spare held ts vs ds ps → ds.length = ts.length
  | [], [], [], _, _ => rfl
  | _ :: _, _ :: _, _ :: _, _, h => by obtain ⟨_, _, _, h, _⟩ := h; simp [trodAll_len h]
  | [], _ :: _, _, _, h => h.elim
  | [], [], _ :: _, _, h => h.elim
  | _ :: _, [], _, _, h => h.elim
  | _ :: _, _ :: _, [], _, h => h.elim
theorem trodAll_below {w' : World} (hl : laidOutB P = true) (hb : Below w.heap.size w w') : ∀ {ts : List TypeId} {vs : List Value} {ds : List (DataW H)} {ps : List MemPlace}, (ts.all fun t => P.readableRec t && decide (t < P.types.size)) = true →
    DataW.TrodAll enc P w 0 (fun _ => true) true ts vs ds ps → ∃ qs, DataW.TrodAll enc P w' 0 (fun b => decide (b < w.heap.size)) true ts vs ds qs
  | [], [], [], _, _, h => ⟨[], rfl⟩
  | t :: ts, v :: vs, d :: ds, ps, hr, h => by
    obtain ⟨p, q, h1, h2, rfl⟩ := h
    simp only [List.all_cons, Bool.and_eq_true, decide_eq_true_eq] at hr
    obtain ⟨qs, hq⟩ := trodAll_below hl hb (by simpa using hr.2) h2
    have hlt : ∀ x ∈ p, x.block < w.heap.size := by obtain ⟨m, hm⟩ := h1; exact DataW.trod_lt m _ _ _ hm
    exact ⟨p ++ qs, p, qs, Below.trod hl hr.1.1 hr.1.2 h1 hb hlt, hq, rfl⟩
  | [], _ :: _, _, _, _, h => h.elim
  | [], [], _ :: _, _, _, h => h.elim
  | _ :: _, [], _, _, _, h => h.elim
  | _ :: _, _ :: _, [], _, _, h => h.elim
/-- A law whose contract is proved: what its row's contract asks. -/
theorem law_post (hT : TabOk P T) (hl : laidOutB P = true) {fn : Func} {f : FuncId} {s : ChangeSpec} {shs : List Sh} {rt : TypeId} (hres : fn.resultTypes = #[rt]) (hrt : P.underlying rt = some .bool) (hvars : s.vars = [])
    (hspec : ∀ ds : List (DataW H), ds.length = fn.params.toList.length → s.fn H ds = { results := [.lit (.bool true)], args := ds }) (hsh : mapO (shOf T 9) fn.params.toList = some shs)
    (hread : (fn.params.toList.all fun t => P.readableRec t && decide (t < P.types.size)) = true) (hcall : ∀ ps, Sh.oks shs ps → CallV P f ps [.w (.bool true)])
    {W : World} {base : Nat} {args : Array Value} {ds gs : List (DataW H)} {before : List MemPlace} (hgl : GlobOk P W fun _ => none) (hval : ∀ (j : Nat) t v, fn.params[j]? = some t → args[j]? = some v → Value.okWide P W .any base t v)
    (hW : DataW.Whole enc P fn.params.toList s.vars false W args.toList ds gs before) :
    Calls P f args W fun e W' => ∃ v, e = .returned v ∧ s.post enc P fn false true false false W args v W' := by
  have hW' := hW
  obtain ⟨p, q, hA, hV, _, _, _⟩ := hW
  obtain ⟨qs, hargs, hok⟩ := args_rep hT hsh (fun j t v ht hv => hval j t v (by simpa using ht) (by simpa using hv)) hA
  have hC := (hcall qs hok).2 args.toList W (fun _ => none) (fun _ => .inl rfl) (fun _ _ h => by cases h) hgl hargs
  rw [show args.toList.toArray = args by simp] at hC
  refine hC.mono fun e W' ⟨y, col', he, ⟨ys, hr, hy⟩, hinv⟩ => ?_
  subst he
  have hb : Below W.heap.size W W' := ⟨hinv.os, hinv.tape, hinv.output, hinv.size, fun b hb => (hinv.old b hb (.inl rfl)).1⟩
  obtain rfl : y = .bool true := by
    simp only [ArgsRep] at hr
    obtain ⟨u, zs, rfl, ⟨cs, h1, rfl⟩, rfl⟩ := hr
    simp only [Rep] at h1
    obtain ⟨rfl, _⟩ := h1
    simpa [resVal, toVal] using hy
  have hgs : gs = [] := by
    rw [hvars] at hV
    cases gs with
    | nil => rfl
    | cons => exact hV.elim
  obtain ⟨qs', hA'⟩ := trodAll_below hl hb hread hA
  have hfn := hspec (ds ++ gs) (by rw [hgs]; simpa using trodAll_len hA)
  refine ⟨_, rfl, ds, gs, before, [], qs', [], hW', ?_, ?_, ?_, hb.frame _, fun h => by cases h⟩
  · rw [hfn, hres]
    exact Go.ChangeShapes.trodAll_mk1 (shut_bool hrt _)
  · rw [hfn]
    simpa [hgs] using hA'
  · rw [hfn, hvars]
    exact rfl
end
/-- A program without the tables. -/
theorem glob_none {P : Program} {W : World} {col : Col} (h : laidCells.all (fun x => (P.globalNamed x.1).isNone) = true) : GlobOk P W col := ⟨fun n cs g hm hg => by
  have := List.all_eq_true.1 h _ hm
  simp [hg] at this⟩
theorem ok_list {α : Type} {k : Nat} {e : Sh} {f : α → PV} {Q : α → Prop} {p : PV} (h : ∀ x, e.ok x → ∃ a, x = f a ∧ Q a) (hp : (Sh.sl k e).ok p) : ∃ l : List α, p = .sl k (l.map f) ∧ l.length ≤ maxLen ∧ ∀ a ∈ l, Q a := by
  simp only [Sh.ok] at hp
  obtain ⟨xs, rfl, hl, _, hx⟩ := hp
  have : ∀ xs : List PV, (∀ x ∈ xs, e.ok x) → ∃ l : List α, xs = l.map f ∧ ∀ a ∈ l, Q a := by
    intro xs
    induction xs with
    | nil => exact fun _ => ⟨[], rfl, by simp⟩
    | cons x xs ih =>
      intro hx
      obtain ⟨a, rfl, ha⟩ := h x (hx x (by simp))
      obtain ⟨l, rfl, hq⟩ := ih fun y hy => hx y (by simp [hy])
      exact ⟨a :: l, rfl, by simpa using ⟨ha, hq⟩⟩
  obtain ⟨l, rfl, hq⟩ := this xs hx
  exact ⟨l, rfl, by simpa using hl, hq⟩
end Go.Vm
