/-
  THE LOGIC V, PART e: every operation without new memory.
-/
import Derived.Test.YtchmoleeajkioaaDoorVd
namespace Go.Proofs.YtchmoleeajkioaaDoor.V
open Go Go.RowKit
set_option linter.unusedSimpArgs false
set_option linter.unusedVariables false

section
variable {P : Program} {w : World} {S : Nat → Prop} {ι : Io}

theorem gd_p {c : Prop} {q : QR} (h : (gd c q).p) : c ∧ q.p := h

theorem cls_inv {H : Hp} {v : Value} {fn : Fn} {f c : List AV} (h : VL w S ι H v (.clos fn f c)) : ∃ fs cs, v = .func fn fs cs := by
  cases h with | clos => exact ⟨_, _, rfl⟩

theorem map_some {α β : Type} {f : α → β} {x : Option α} {y : β} (h : x.map f = some y) : ∃ z, x = some z ∧ f z = y := by
  cases x with
  | none => cases h
  | some z => exact ⟨z, rfl, by simpa using h⟩

theorem bind_some {α β : Type} {f : α → Option β} {x : Option α} {y : β} (h : x.bind f = some y) : ∃ z, x = some z ∧ f z = some y := by
  cases x with
  | none => cases h
  | some z => exact ⟨z, rfl, h⟩

theorem opt_vl {st : St} {a : Act} {t : TypeId} {x : Option Operand} {y : Option SA} (h : optArg P t x = some y) (V : SL w S ι st.H a st.s) :
    (∀ u, y.map st.get = some u → ∃ v, x.map a.eval = some v ∧ VL w S ι st.H v u) ∧ (y.map st.get = none → x.map a.eval = none) := by
  cases x with
  | none => simp [optArg] at h; subst h; simp
  | some x =>
    simp only [optArg] at h
    obtain ⟨z, hz, rfl⟩ := map_some h
    refine ⟨fun u hu => ?_, fun hn => by simp at hn⟩
    simp at hu; subst hu
    exact ⟨_, rfl, arg_vl hz V⟩

/-- The list of arguments. -/
theorem args_vl {st : St} {a : Act} (V : SL w S ι st.H a st.s) : ∀ (l : List (Operand × TypeId)) (ys : List SA), l.mapM (fun (x, t) => slimArg P t x) = some ys →
    ys.length = l.length ∧ ∀ j (h : j < ys.length) (h' : j < l.length), VL w S ι st.H (a.eval (l[j]).1) (st.get (ys[j]))
  | [], ys, h => by simp at h; subst h; simp
  | (x, t) :: l, ys, h => by
    simp only [List.mapM_cons, Option.bind_eq_bind, Option.pure_def] at h
    obtain ⟨y, hy, h⟩ := bind_some h
    obtain ⟨ys', hys, h⟩ := bind_some h
    simp at h; subst h
    obtain ⟨h1, h2⟩ := args_vl V l ys' hys
    refine ⟨by simp [h1], fun j hj hj' => ?_⟩
    cases j with
    | zero => exact arg_vl hy V
    | succ j => exact h2 j (by simpa using hj) (by simpa using hj')

theorem args_vl0 {st : St} {a : Act} {t : TypeId} (V : SL w S ι st.H a st.s) : ∀ (l : List Operand) (ys : List SA), l.mapM (slimArg P t) = some ys →
    ys.length = l.length ∧ ∀ j (h : j < ys.length) (h' : j < l.length), VL w S ι st.H (a.eval (l[j])) (st.get (ys[j]))
  | [], ys, h => by simp at h; subst h; simp
  | x :: l, ys, h => by
    simp only [List.mapM_cons, Option.bind_eq_bind, Option.pure_def] at h
    obtain ⟨y, hy, h⟩ := bind_some h
    obtain ⟨ys', hys, h⟩ := bind_some h
    simp at h; subst h
    obtain ⟨h1, h2⟩ := args_vl0 V l ys' hys
    refine ⟨by simp [h1], fun j hj hj' => ?_⟩
    cases j with
    | zero => exact arg_vl hy V
    | succ j => exact h2 j (by simpa using hj) (by simpa using hj')

theorem zeroA_ok {t : TypeId} {z : List AV} (h : zeroA P t = some z) : ∃ i zv, P.info? t = some i ∧ i.zero = some zv ∧ zv.cells.size = z.length ∧ z.all AV.one = true ∧
    ∀ (w : World) (S : Nat → Prop) (ι : Io) (H : Hp) j (hj : j < z.length), VL w S ι H (zv.cells.getD j undef) (z[j]) := by
  unfold zeroA at h
  split at h
  · rename_i zs zv h1 h2
    split at h
    · rename_i hc
      simp at h; subst h
      cases hi : P.info? t with
      | none => simp [hi] at h2
      | some i =>
        simp [hi] at h2
        simp only [Bool.and_eq_true, beq_iff_eq] at hc
        obtain ⟨⟨hc1, hc2⟩, hc3⟩ := hc
        refine ⟨i, zv, rfl, h2, hc1, hc3, fun w S ι H j hj => ?_⟩
        have hj' : j < zv.cells.size := by omega
        have := List.all_eq_true.1 hc2 (zv.cells[j], zs[j]) (by
          rw [List.mem_iff_getElem]
          exact ⟨j, by simp; omega, by simp⟩)
        have e : zv.cells.getD j undef = zv.cells[j] := by simp [Array.getD, hj']
        rw [e]
        exact VL.const this
    · cases h
  · cases h

theorem run_chk {x : Operand} {ρ : Operand → Value} {dst : Option Tmp} {type : TypeId} {pos : String} {after : Array Edge} {guard : Option (Nat × Bool)} {H : Hp} {y : AV} (hx : VL w S ι H (ρ x) y)
    (hp : (match y with
    | .ptr l o => (⟨True, .ptr l o, .no⟩ : QR)
    | .rptr r => ⟨True, .rptr r, .no⟩
    | .optr t sz i j r => ⟨True, .optr t sz i j r, .no⟩
    | .clos (.func f) a b => ⟨True, .clos (.func f) a b, .no⟩
    | _ => bad).p) : (execOp ρ ⟨dst, .nilCheck x, type, pos, after, guard⟩).run P w = .ok (.value (ρ x)) w := by
  simp only [execOp]
  generalize ρ x = v at hx ⊢
  split at hp
  · obtain ⟨rfl, _⟩ := hx.ptr_inv; rfl
  · cases hx with | rptr => rfl
  · cases hx with | optr => rfl
  · cases hx with | clos => rfl
  · exact hp.elim

theorem built_ok {t : TypeId} {fs : Array Field} {z : List AV} {parts : List (Nat × Operand)} {ps : List (Nat × Nat × SA)} {st : St} {a : Act} (V : SL w S ι st.H a st.s) (hu : P.underlying t = some (.struct fs)) (hz : zeroA P t = some z)
    (hps : parts.mapM (fun (x : Nat × Operand) => (fieldOf P fs x.1).bind fun (y : Nat × Nat × TypeId) => (slimArg P y.2.2 x.2).bind fun u => some (y.1, y.2.1, u)) = some ps)
    (hall : (fs.toList.mapM fun f => P.info? f.type).isSome = true)
    (hp : (fillA z (ps.map fun (x : Nat × Nat × SA) => (x.1, x.2.1, st.get x.2.2))).p) :
    (fillA z (ps.map fun (x : Nat × Nat × SA) => (x.1, x.2.1, st.get x.2.2))).al = .no ∧
    ∃ arr, P.built t (parts.map fun (x : Nat × Operand) => (x.1, a.eval x.2)) = some arr ∧ VL w S ι st.H (.agg arr) (fillA z (ps.map fun (x : Nat × Nat × SA) => (x.1, x.2.1, st.get x.2.2))).v := by
  obtain ⟨i, zv, hi, hzv, hsz, _, hvl⟩ := zeroA_ok hz
  have hpl : ∃ places, fs.toList.mapM (fun f => (P.info? f.type).map fun i => (f.offset, i.size)) = some places ∧ ∀ (k off n : Nat) (ft : TypeId), fieldOf P fs k = some (off, n, ft) → places[k]? = some (off, n) := by
    have gen : ∀ (l : List Field), (l.mapM fun f => P.info? f.type).isSome = true → ∃ places, l.mapM (fun f => (P.info? f.type).map fun i => (f.offset, i.size)) = some places ∧
        ∀ (k : Nat) (f : Field), l[k]? = some f → places[k]? = some (f.offset, P.cellsOf f.type) := by
      intro l
      induction l with
      | nil => intro _; exact ⟨[], rfl, by simp⟩
      | cons f l ih =>
        intro h
        simp only [List.mapM_cons, Option.bind_eq_bind, Option.pure_def] at h
        cases hf : P.info? f.type with
        | none => simp [hf] at h
        | some j =>
          cases hr : l.mapM fun f => P.info? f.type with
          | none => simp [hf, hr] at h
          | some r =>
            obtain ⟨pl, h1, h2⟩ := ih (by rw [hr]; rfl)
            refine ⟨(f.offset, j.size) :: pl, by simp [List.mapM_cons, hf, h1], fun k g hk => ?_⟩
            cases k with
            | zero => simp at hk; subst hk; simp [Program.cellsOf, hf]
            | succ k => simpa using h2 k g (by simpa using hk)
    obtain ⟨pl, h1, h2⟩ := gen fs.toList hall
    refine ⟨pl, h1, fun k off n ft hk => ?_⟩
    obtain ⟨f, g1, rfl, rfl, g2, _⟩ := field_of hk
    rw [← g2]
    exact h2 k f (by simpa using g1)
  obtain ⟨places, hpl1, hpl2⟩ := hpl
  have hrel : ∀ (parts : List (Nat × Operand)) (ps : List (Nat × Nat × SA)), parts.mapM (fun (x : Nat × Operand) => (fieldOf P fs x.1).bind fun (y : Nat × Nat × TypeId) => (slimArg P y.2.2 x.2).bind fun u => some (y.1, y.2.1, u)) = some ps →
      parts.length = ps.length ∧ ∀ j (h : j < ps.length) (h' : j < parts.length), places[(parts[j]).1]? = some ((ps[j]).1, (ps[j]).2.1) ∧ VL w S ι st.H (a.eval (parts[j]).2) (st.get (ps[j]).2.2) := by
    intro parts
    induction parts with
    | nil => intro ps h; simp at h; subst h; simp
    | cons x parts ih =>
      intro ps h
      simp only [List.mapM_cons, Option.bind_eq_bind, Option.pure_def] at h
      obtain ⟨y, hy, h⟩ := bind_some h
      obtain ⟨ps', hps', h⟩ := bind_some h
      simp at h; subst h
      obtain ⟨g1, g2⟩ := ih _ hps'
      refine ⟨by simp [g1], fun j h h' => ?_⟩
      cases j with
      | zero =>
        obtain ⟨⟨off, n, ft⟩, hf, hy⟩ := bind_some hy
        obtain ⟨u, hu', hy⟩ := bind_some hy
        simp at hy; subst hy
        exact ⟨hpl2 _ _ _ _ hf, arg_vl hu' V⟩
      | succ j => exact g2 j (by simpa using h) (by simpa using h')
  obtain ⟨g1, g2⟩ := hrel _ _ hps
  have := fill_ok (w := w) (S := S) (ι := ι) (H := st.H) (place := fun (k : Nat) => places[k]?) (ps.map fun (x : Nat × Nat × SA) => (x.1, x.2.1, st.get x.2.2)) (parts.map fun (x : Nat × Operand) => (x.1, a.eval x.2)) zv.cells z
    (by simp [g1]) (fun j h h' => by simpa using g2 j (by simpa using h) (by simpa using h')) hsz (hvl w S ι st.H) hp
  obtain ⟨h1, arr, h2, h3⟩ := this
  refine ⟨h1, arr, ?_, h3⟩
  simp only [Program.built, hi, hu, hzv, hpl1]
  have e : (fun (k : Nat) => places.toArray[k]?) = fun (k : Nat) => places[k]? := by funext k; simp
  rw [e]; exact h2

theorem v_of {ρ : Operand → Value} {o : Oper} {sm : Sem Value} {r : Value} (h : execOp ρ o = (do pure (Next.value (← sm)))) (hr : sm.run P w = .ok r w) : (execOp ρ o).run P w = .ok (.value r) w := by
  rw [h]; simp [hr]

set_option maxHeartbeats 1000000 in
/-- An operation that makes nothing new gives its value in the world that it gets. -/
theorem quiet0 {st : St} {a : Act} {o : Oper} {op : SOp} (hs : slimOp P o = some op) (R : HR w S ι st.H) (V : SL w S ι st.H a st.s) {d : Nat} (hp : (qf st d op).p) (hal : (qf st d op).al = .no) :
    ∃ v, (execOp a.eval o).run P w = .ok (.value v) w ∧ VL w S ι st.H v (qf st d op).v := by
  obtain ⟨dst, oop, type, pos, after, guard⟩ := o
  cases oop <;> simp only [slimOp, Option.bind_eq_bind, Option.pure_def] at hs
  case move x =>
    obtain ⟨y, hy, rfl⟩ := map_some hs
    exact ⟨_, rfl, arg_vl hy V⟩
  case assign x =>
    obtain ⟨y, hy, rfl⟩ := map_some hs
    exact ⟨_, rfl, arg_vl hy V⟩
  case pick c x y =>
    obtain ⟨c', hc, hs⟩ := bind_some hs
    obtain ⟨x', hx, hs⟩ := bind_some hs
    obtain ⟨y', hy, hs⟩ := bind_some hs
    simp at hs; subst hs
    have vc := arg_vl hc V
    simp only [qf] at hp ⊢
    split at hp
    · rename_i e
      rw [e] at vc
      exact ⟨a.eval x, by simp [execOp, vc.bool_inv, asBool], by simp only [e]; exact arg_vl hx V⟩
    · rename_i e
      rw [e] at vc
      exact ⟨a.eval y, by simp [execOp, vc.bool_inv, asBool], by simp only [e]; exact arg_vl hy V⟩
    · exact hp.elim
  case binOp bop xT x y yT =>
    obtain ⟨x', hx, hs⟩ := bind_some hs
    obtain ⟨y', hy, hs⟩ := bind_some hs
    have vx := arg_vl hx V
    have vy := arg_vl hy V
    have guard0 : ∀ u v, cellB u = true ∧ u ≠ .nilIface → eqGuard bop xT x y u v = pure () := by
      intro u v ⟨hu, hn⟩
      unfold eqGuard
      cases u <;> cases v <;> cases bop <;> first | rfl | (simp [cellB] at hu; done) | exact absurd rfl hn
    split at hs
    · rename_i k hk
      have intcase : ∀ {q : QR}, (match st.get x', st.get y' with | .d (.int k1 a), .d (.int k2 b) => gd (k1 = k ∧ k2 = k) (arI bop k a b) | _, _ => bad) = q → q.p → ∃ v, (execOp a.eval ⟨dst, .binOp bop xT x y yT, type, pos, after, guard⟩).run P w = .ok (.value v) w ∧ VL w S ι st.H v q.v := by
        intro q hq hqp
        split at hq
        · rename_i k1 n1 k2 n2 e1 e2
          subst hq
          obtain ⟨⟨rfl, rfl⟩, hqp⟩ := gd_p hqp
          rw [e1] at vx; rw [e2] at vy
          obtain ⟨_, r, hr, hv⟩ := arI_ok (P := P) (w := w) (S := S) (ι := ι) (H := st.H) (t := xT) hqp
          refine ⟨r, ?_, hv⟩
          simp [execOp, vx.int_inv, vy.int_inv, guard0 (.int k2 n1) _ ⟨rfl, by simp⟩, hr]
        · subst hq; exact hqp.elim
      have shcase : ∀ {q : QR}, (bop = .shl ∨ bop = .shr) → (match st.get x', st.get y' with | .d (.int k1 a), .d (.int _ b) => gd (k1 = k) (shI bop k a b) | _, _ => bad) = q → q.p → ∃ v, (execOp a.eval ⟨dst, .binOp bop xT x y yT, type, pos, after, guard⟩).run P w = .ok (.value v) w ∧ VL w S ι st.H v q.v := by
        intro q _ hq hqp
        split at hq
        · rename_i k1 n1 k2 n2 e1 e2
          subst hq
          obtain ⟨rfl, hqp⟩ := gd_p hqp
          rw [e1] at vx; rw [e2] at vy
          obtain ⟨_, r, hr, hv⟩ := shI_ok (P := P) (w := w) (S := S) (ι := ι) (H := st.H) (t := xT) (yk := k2) hqp
          refine ⟨r, ?_, hv⟩
          simp [execOp, vx.int_inv, vy.int_inv, guard0 (.int k1 n1) _ ⟨rfl, by simp⟩, hr]
        · subst hq; exact hqp.elim
      cases bop <;> simp only [Option.some.injEq] at hs <;> subst hs <;> first
        | exact shcase (.inl rfl) rfl hp
        | exact shcase (.inr rfl) rfl hp
        | exact intcase rfl hp
    · simp at hs; subst hs
      simp only [qf] at hp ⊢
      split at hp
      · rename_i s1 s2 e1 e2
        rw [e1] at vx; rw [e2] at vy
        obtain ⟨_, r, hr, hv⟩ := stI_ok (P := P) (w := w) (S := S) (ι := ι) (H := st.H) (t := xT) hp
        refine ⟨r, ?_, by first | exact hv | (simp only [e1, e2]; exact hv)⟩
        simp [execOp, vx.str_inv, vy.str_inv, guard0 (.string _) _ ⟨rfl, by simp⟩, hr]
      · exact hp.elim
    · rename_i hk
      have go : ∀ (b1 b2 : Bool), st.get x' = .d (.bool b1) → st.get y' = .d (.bool b2) → (bop = .eql ∨ bop = .neq) →
          (execOp a.eval ⟨dst, .binOp bop xT x y yT, type, pos, after, guard⟩).run P w = .ok (.value (.bool (if bop = .neq then b1 != b2 else b1 == b2))) w := by
        intro b1 b2 e1 e2 ho
        rw [e1] at vx; rw [e2] at vy
        rcases ho with rfl | rfl
        · simp [execOp, vx.bool_inv, vy.bool_inv, guard0 (.bool b1) _ ⟨rfl, by simp⟩, run_eql_bool w xT b1 b2 hk]
        · simp [execOp, vx.bool_inv, vy.bool_inv, guard0 (.bool b1) _ ⟨rfl, by simp⟩, run_neq_bool w xT b1 b2 hk]; cases b1 <;> cases b2 <;> rfl
      split at hs
      · simp at hs; subst hs
        simp only [qf] at hp ⊢
        split at hp
        · rename_i b1 b2 e1 e2
          exact ⟨_, go _ _ e1 e2 (.inl rfl), by simp only [e1, e2]; exact VL.bool _⟩
        · exact hp.elim
      · simp at hs; subst hs
        simp only [qf] at hp ⊢
        split at hp
        · rename_i b1 b2 e1 e2
          exact ⟨_, go _ _ e1 e2 (.inr rfl), by simp only [e1, e2]; exact VL.bool _⟩
        · exact hp.elim
      · cases hs
    · rename_i fs hk
      split at hs
      · rename_i ks hks
        split at hs
        · cases hs
        · rename_i hno
          simp only [Bool.or_eq_true, not_or, Bool.not_eq_true] at hno
          have go : ∀ (l1 l2 : List AV) (r : Bool), st.get x' = .agg l1 → st.get y' = .agg l2 → cellsEq ks l1 l2 = some r → (bop = .eql ∨ bop = .neq) →
              (execOp a.eval ⟨dst, .binOp bop xT x y yT, type, pos, after, guard⟩).run P w = .ok (.value (.bool (if bop = .neq then !r else r))) w := by
            intro l1 l2 r e1 e2 hc ho
            rw [e1] at vx; rw [e2] at vy
            have h1 := abin_ok (P := P) ho hk hks hno.1 vx vy hc
            obtain ⟨xs, hxs⟩ : ∃ xs, a.eval x = .agg xs := by
              generalize a.eval x = v at vx
              cases vx; exact ⟨_, rfl⟩
            obtain ⟨ys, hys⟩ : ∃ ys, a.eval y = .agg ys := by
              generalize a.eval y = v at vy
              cases vy; exact ⟨_, rfl⟩
            have h2 := run_eqGuard_agg (P := P) w bop xT x y xs ys hno.2
            rw [hxs, hys] at h1
            simp [execOp, hxs, hys, h2, h1]
          split at hs
          · simp at hs; subst hs
            simp only [qf] at hp ⊢
            split at hp
            · rename_i l1 l2 e1 e2
              split at hp
              · rename_i r hr
                exact ⟨_, go _ _ _ e1 e2 hr (.inl rfl), by simp only [e1, e2, hr]; exact VL.bool _⟩
              · exact hp.elim
            · exact hp.elim
          · simp at hs; subst hs
            simp only [qf] at hp ⊢
            split at hp
            · rename_i l1 l2 e1 e2
              split at hp
              · rename_i r hr
                exact ⟨_, go _ _ _ e1 e2 hr (.inr rfl), by simp only [e1, e2, hr]; exact VL.bool _⟩
              · exact hp.elim
            · exact hp.elim
          · cases hs
      · cases hs
    · split at hs <;> first | (cases hs; done) | (simp at hs; subst hs; exact hp.elim)
    · cases hs
  case unOp uop xT x =>
    obtain ⟨x', hx, hs⟩ := bind_some hs
    have vx := arg_vl hx V
    split at hs
    · rename_i k hk
      simp at hs; subst hs
      simp only [qf] at hp ⊢
      split at hp
      · rename_i k1 n e
        obtain ⟨rfl, hp⟩ := gd_p hp
        rw [e] at vx
        refine ⟨.int k1 (k1.wrap (0 - n)), by simp [execOp, vx.int_inv, Op.unary, Op.intArith], ?_⟩
        exact fit_vl hp
      · exact hp.elim
    · rename_i k hk
      simp at hs; subst hs
      simp only [qf] at hp ⊢
      split at hp
      · rename_i k1 n e
        obtain ⟨rfl, hp⟩ := gd_p hp
        rw [e] at vx
        exact ⟨.int k1 (bitsI .xor k1 (if k1.signed then -1 else k1.max) n), by simp only [execOp, vx.int_inv, Op.unary]; rfl, VL.int _ _⟩
      · exact hp.elim
    · simp at hs; subst hs
      simp only [qf] at hp ⊢
      split at hp
      · rename_i b e
        rw [e] at vx
        exact ⟨.bool (!b), by simp [execOp, vx.bool_inv, Op.unary], VL.bool _⟩
      · exact hp.elim
    · cases hs
  case convert src dst' x =>
    obtain ⟨x', hx, hs⟩ := bind_some hs
    have vx := arg_vl hx V
    split at hs
    · rename_i k0 k h0 hk
      simp at hs; subst hs
      simp only [qf] at hp ⊢
      split at hp
      · rename_i k1 n e
        rw [e] at vx
        exact ⟨.int k (k.wrap n), by simp [execOp, vx.int_inv, convert, run_underlying h0, run_underlying hk, Conv.intToInt], VL.int _ _⟩
      · exact hp.elim
    · rename_i h0 hk
      simp at hs; subst hs
      simp only [qf] at hp ⊢
      split at hp
      · rename_i l e
        rw [e] at vx
        exact ⟨.string ⟨l.toArray⟩, by simp [execOp, vx.str_inv, convert, run_underlying h0, run_underlying hk], VL.str _⟩
      · exact hp.elim
    · rename_i e h0 hk
      split at hs
      · simp at hs; subst hs
        simp only [qf] at hp hal
        split at hal
        · cases hal
        · rename_i hne
          split at hp
          · exact absurd ‹_› (hne _)
          · exact hp.elim
      · cases hs
    · rename_i e h0 hk
      split at hs
      · rename_i hu
        simp at hs; subst hs
        simp only [qf] at hp ⊢
        have he : P.underlying e = some (.int .u8) := by
          unfold isU8 at hu
          split at hu
          · assumption
          · cases hu
        obtain ⟨_, r, hr, hv⟩ := b2s_ok (P := P) h0 he hk vx hp
        exact ⟨r, by simp [execOp, hr], hv⟩
      · cases hs
    · split at hs <;> first | (cases hs; done) | (simp at hs; subst hs; exact hp.elim)
    · cases hs
  case nilCheck x =>
    obtain ⟨y, hy, rfl⟩ := map_some hs
    have vy := arg_vl hy V
    simp only [qf] at hp ⊢
    refine ⟨a.eval x, run_chk vy hp, ?_⟩
    split at hp <;> first | (rename_i e; rw [e] at vy; simpa only [e] using vy) | exact hp.elim
  case fieldAddr sT x i =>
    obtain ⟨x', hx, hs⟩ := bind_some hs
    have vx := arg_vl hx V
    split at hs
    · rename_i fs hu
      obtain ⟨⟨off, n, ft⟩, hf, rfl⟩ := map_some hs
      obtain ⟨_, r, hr, hv⟩ := fad_ok (P := P) hu hf vx hp
      exact ⟨r, by simp [execOp, hr], hv⟩
    · cases hs
  case field sT x i =>
    obtain ⟨x', hx, hs⟩ := bind_some hs
    have vx := arg_vl hx V
    split at hs
    · rename_i fs hu
      obtain ⟨⟨off, n, ft⟩, hf, hs⟩ := bind_some hs
      obtain ⟨sh, hsh, hs⟩ := bind_some hs
      simp at hs; subst hs
      obtain ⟨_, r, hr, hv⟩ := fld_ok (P := P) hu hf hsh vx hp
      exact ⟨r, by simp [execOp, hr], hv⟩
    · cases hs
  case load t x =>
    obtain ⟨sh, hsh, hs⟩ := bind_some hs
    obtain ⟨x', hx, hs⟩ := bind_some hs
    simp at hs; subst hs
    have vx := arg_vl hx V
    obtain ⟨_, r, hr, hv⟩ := ld_ok (P := P) hsh R vx hp
    exact ⟨r, by simp [execOp, hr], hv⟩
  case store t x y =>
    obtain ⟨x', hx, hs⟩ := bind_some hs
    obtain ⟨y', hy, hs⟩ := bind_some hs
    simp at hs; subst hs
    exact hp.elim
  case alloc t =>
    obtain ⟨z, hz, rfl⟩ := map_some hs
    cases hal
  case box t x =>
    obtain ⟨x', hx, hs⟩ := bind_some hs
    simp at hs; subst hs
    cases hal
  case build t ps =>
    split at hs
    · rename_i fs hu
      obtain ⟨z, hz, hs⟩ := bind_some hs
      obtain ⟨ps', hps, hs⟩ := bind_some hs
      split at hs
      · rename_i hall
        simp at hs; subst hs
        simp only [qf] at hp ⊢
        obtain ⟨_, arr, h1, h2⟩ := built_ok V hu hz hps hall hp
        refine ⟨.agg arr, ?_, h2⟩
        have h3 := run_build (P := P) w t (ps.map fun (i, x) => (i, a.eval x)) arr (by simpa using h1)
        simp only [execOp, Sem.run_bind, h3, Result.andThen_ok]; rfl
      · cases hs
    · cases hs
  case buildSlice t n ps =>
    split at hs
    · rename_i e hu
      obtain ⟨z, hz, hs⟩ := bind_some hs
      obtain ⟨zd, hzd, hs⟩ := bind_some hs
      obtain ⟨ps', hps, hs⟩ := bind_some hs
      split at hs
      · simp at hs; subst hs
        simp only [qf] at hp hal
        split at hal
        · cases hal
        · rename_i hne
          split at hp
          · rename_i r hr; rw [hr] at hne; cases hne
          · exact hp.elim
      · cases hs
    · cases hs
  case indexAddr t x i =>
    split at hs
    · rename_i e hu
      obtain ⟨z, hz, hs⟩ := bind_some hs
      obtain ⟨zd, hzd, hs⟩ := bind_some hs
      split at hs
      · rename_i hsz
        obtain ⟨x', hx, hs⟩ := bind_some hs
        obtain ⟨i', hi, hs⟩ := bind_some hs
        simp at hs; subst hs
        obtain ⟨_, r, hr, hv⟩ := iad_ok (P := P) hu hsz.1 hsz.2 (arg_vl hx V) (arg_vl hi V) hp
        exact ⟨r, by simp [execOp, hr], hv⟩
      · cases hs
    · cases hs
  case index t x i =>
    split at hs
    · rename_i hu
      obtain ⟨x', hx, hs⟩ := bind_some hs
      obtain ⟨i', hi, hs⟩ := bind_some hs
      simp at hs; subst hs
      obtain ⟨_, r, hr, hv⟩ := ist_ok (P := P) hu (arg_vl hx V) (arg_vl hi V) hp
      exact ⟨r, by simp [execOp, hr], hv⟩
    · cases hs
  case slice t x lo hi mx =>
    split at hs
    · rename_i e hu
      split at hs
      · cases hs
      · rename_i h0
        obtain ⟨x', hx, hs⟩ := bind_some hs
        obtain ⟨lo', hlo, hs⟩ := bind_some hs
        obtain ⟨hi', hhi, hs⟩ := bind_some hs
        simp at hs; subst hs
        obtain ⟨g1, g2⟩ := opt_vl hlo V
        obtain ⟨g3, g4⟩ := opt_vl hhi V
        obtain ⟨_, r, hr, hv⟩ := sli_ok (P := P) hu rfl h0 (arg_vl hx V) g1 g2 g3 g4 hp
        exact ⟨r, by simp [execOp, hr], hv⟩
    · rename_i hu
      obtain ⟨x', hx, hs⟩ := bind_some hs
      obtain ⟨lo', hlo, hs⟩ := bind_some hs
      obtain ⟨hi', hhi, hs⟩ := bind_some hs
      simp at hs; subst hs
      obtain ⟨g1, g2⟩ := opt_vl hlo V
      obtain ⟨g3, g4⟩ := opt_vl hhi V
      obtain ⟨_, r, hr, hv⟩ := sst_ok (P := P) hu (arg_vl hx V) g1 g2 g3 g4 hp
      exact ⟨r, by simp [execOp, hr], hv⟩
    · split at hs
      · split at hs
        · cases hs
        · obtain ⟨x', hx, hs⟩ := bind_some hs
          obtain ⟨lo', hlo, hs⟩ := bind_some hs
          obtain ⟨hi', hhi, hs⟩ := bind_some hs
          obtain ⟨mx', hmx, hs⟩ := bind_some hs
          simp at hs; subst hs
          exact hp.elim
      · cases hs
    · cases hs
  case extract x j =>
    obtain ⟨y, hy, rfl⟩ := map_some hs
    obtain ⟨_, r, hr, hv⟩ := ext_ok (P := P) (arg_vl hy V) hp
    exact ⟨r, by simp [execOp, hr], hv⟩
  case makeSlice t l c =>
    split at hs
    · obtain ⟨z, hz, hs⟩ := bind_some hs
      obtain ⟨zd, hzd, hs⟩ := bind_some hs
      split at hs
      · obtain ⟨l', hl, hs⟩ := bind_some hs
        obtain ⟨c', hc, hs⟩ := bind_some hs
        simp at hs; subst hs
        simp only [qf] at hp hal
        split at hal
        · cases hal
        · rename_i hne
          split at hp
          · exact absurd ‹_› (hne _ _ _ _ ‹_›)
          · exact hp.elim
      · cases hs
    · cases hs
  case makeFunc fn fs cs =>
    obtain ⟨fs', hf, hs⟩ := bind_some hs
    obtain ⟨cs', hc, hs⟩ := bind_some hs
    simp at hs; subst hs
    obtain ⟨g1, g2⟩ := args_vl0 V _ _ hf
    obtain ⟨g3, g4⟩ := args_vl0 V _ _ hc
    refine ⟨.func fn (fs.map a.eval) (cs.map a.eval), by simp [execOp, Instr.makeFunc], ?_⟩
    have := VL.clos (w := w) (S := S) (ι := ι) (H := st.H) (fn := fn) (fs := fs.toList.map a.eval) (cs := cs.toList.map a.eval) (fa := fs'.map st.get) (ca := cs'.map st.get)
      (by simp [g1]) (fun j h => by
        have h' : j < fs.toList.length := by simp at h; omega
        have h'' : j < fs.size := by simpa using h'
        have := g2 j (by simpa using h) h'
        simpa [List.getD, h''] using this)
      (by simp [g3]) (fun j h => by
        have h' : j < cs.toList.length := by simp at h; omega
        have h'' : j < cs.size := by simpa using h'
        have := g4 j (by simpa using h) h'
        simpa [List.getD, h''] using this)
    have e1 : (fs.toList.map a.eval).toArray = fs.map a.eval := by apply Array.ext'; simp
    have e2 : (cs.toList.map a.eval).toArray = cs.map a.eval := by apply Array.ext'; simp
    rw [e1, e2] at this
    exact this
  case call c =>
    obtain ⟨callee, args, argTypes⟩ := c
    have ha : ∀ {l : List Operand}, args.toList = l → args = l.toArray := fun h => by rw [← h]
    have ht : ∀ {l : List TypeId}, argTypes.toList = l → argTypes = l.toArray := fun h => by rw [← h]
    split at hs
    · rename_i b hb
      split at hs
      · rename_i x t hx' ht'
        have e1 := ha hx'; have e2 := ht ht'
        simp only at hb; subst e1; subst e2; subst hb
        split at hs
        · rename_i e hu
          obtain ⟨y, hy, rfl⟩ := map_some hs
          obtain ⟨_, r, hr, hv⟩ := len_ok (P := P) (ty := type) hu (arg_vl hy V) hp
          exact ⟨r, by simp [execOp, resolve, invoke, builtin, hr], hv⟩
        · rename_i hu
          obtain ⟨y, hy, rfl⟩ := map_some hs
          obtain ⟨_, r, hr, hv⟩ := sln_ok (P := P) (ty := type) hu (arg_vl hy V) hp
          exact ⟨r, by simp [execOp, resolve, invoke, builtin, hr], hv⟩
        · cases hs
      · split at hs
        · split at hs
          · obtain ⟨x', hx, hs⟩ := bind_some hs
            obtain ⟨y', hy, hs⟩ := bind_some hs
            simp at hs; subst hs
            exact hp.elim
          · cases hs
        · split at hs
          · obtain ⟨x', hx, hs⟩ := bind_some hs
            obtain ⟨y', hy, hs⟩ := bind_some hs
            simp at hs; subst hs
            exact hp.elim
          · cases hs
        · cases hs
      · split at hs
        · obtain ⟨x', hx, hs⟩ := bind_some hs
          obtain ⟨y', hy, hs⟩ := bind_some hs
          simp at hs; subst hs
          exact hp.elim
        · cases hs
      · rename_i x y t u hx' ht'
        have e1 := ha hx'; have e2 := ht ht'
        simp only at hb; subst e1; subst e2; subst hb
        obtain ⟨x', hx, hs⟩ := bind_some hs
        obtain ⟨y', hy, hs⟩ := bind_some hs
        simp at hs; subst hs
        have vx := arg_vl hx V
        have vy := arg_vl hy V
        simp only [qf] at hp ⊢
        split at hp
        · rename_i k1 n1 k2 n2 g1 g2
          rw [g1] at vx; rw [g2] at vy
          exact ⟨.int k1 (if n2 > n1 then n2 else n1), by simp [execOp, resolve, invoke, builtin, vx.int_inv, vy.int_inv, Builtin.max_, Builtin.max2], VL.int _ _⟩
        · exact hp.elim
      · rename_i x y t u hx' ht'
        have e1 := ha hx'; have e2 := ht ht'
        simp only at hb; subst e1; subst e2; subst hb
        obtain ⟨x', hx, hs⟩ := bind_some hs
        obtain ⟨y', hy, hs⟩ := bind_some hs
        simp at hs; subst hs
        have vx := arg_vl hx V
        have vy := arg_vl hy V
        simp only [qf] at hp ⊢
        split at hp
        · rename_i k1 n1 k2 n2 g1 g2
          rw [g1] at vx; rw [g2] at vy
          exact ⟨.int k1 (if n2 < n1 then n2 else n1), by simp [execOp, resolve, invoke, builtin, vx.int_inv, vy.int_inv, Builtin.min_, Builtin.min2], VL.int _ _⟩
        · exact hp.elim
      · cases hs
    · obtain ⟨xs, _, hs⟩ := bind_some hs
      simp at hs; subst hs
      exact hp.elim
    · obtain ⟨xs, _, hs⟩ := bind_some hs
      simp at hs; subst hs
      exact hp.elim
    · cases hs
  all_goals cases hs

end
end Go.Proofs.YtchmoleeajkioaaDoor.V
