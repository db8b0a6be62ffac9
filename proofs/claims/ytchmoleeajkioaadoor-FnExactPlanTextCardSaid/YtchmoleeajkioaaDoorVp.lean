/-
  THE LOGIC V, PART p: code, and functions.
-/
import Derived.Test.YtchmoleeajkioaaDoorVo
namespace Go.Proofs.YtchmoleeajkioaaDoor.V
open Go Go.RowKit
set_option linter.unusedSimpArgs false
set_option linter.unusedVariables false

inductive Ex where
  | norm
  | ret
  | exit (id : Nat)

def thenQ (K : St → Prop) (Q : Ex → St → Prop) : Ex → St → Prop
  | .norm, st => K st
  | .ret, st => Q .ret st
  | .exit id, st => Q (.exit id) st

def blkQ (id : Nat) (Q : Ex → St → Prop) : Ex → St → Prop
  | .norm, st => Q .norm st
  | .ret, st => Q .ret st
  | .exit id', st => if id' = id then Q .norm st else Q (.exit id') st

def brk (x : AV) (p q : Prop) : Prop := match x with
  | .d (.bool c) => (c = true → p) ∧ (c = false → q)
  | _ => False

def loopQ (I : Nat → St → Prop) (n : Nat) (Q : Ex → St → Prop) : Ex → St → Prop
  | .norm, st => ∃ m st', m < n ∧ Weak st st' ∧ I m st'
  | .ret, st => Q .ret st
  | .exit id, st => Q (.exit id) st

def run (P : Program) (loud : Nat → Bool) : SC → (Ex → St → Prop) → St → Prop
  | .skip, Q, st => Q .norm st
  | .rg ops, Q, st => runs P loud ops (Q .norm) st
  | .rgd t, Q, st => runT P loud t (Q .norm) st
  | .seq a b, Q, st => run P loud a (thenQ (run P loud b Q) Q) st
  | .cond c a b, Q, st => brk (st.get c) (run P loud a Q st) (run P loud b Q st)
  | .blk id a, Q, st => run P loud a (blkQ id Q) st
  | .loop a, Q, st => ∃ I : Nat → St → Prop, (∃ n st', Weak st st' ∧ I n st') ∧ ∀ n st, I n st → run P loud a (loopQ I n Q) st
  | .exit id, Q, st => Q (.exit id) st
  | .ret, Q, st => Q .ret st
  | .bad, _, _ => False
  | .weak a, Q, st => ∃ st', Weak st st' ∧ run P loud a Q st'

section
variable {P : Program} {w : World} {S : Nat → Prop} {ι : Io} {H : Hp} {loud : Nat → Bool} {N : Nat} {w0 : World} {S0 : Nat → Prop} {ι0 : Io} {H0 : Hp} {ops : Array Oper}

/-- What is said of an ending. -/
def Qs (N : Nat) (w0 : World) (S0 : Nat → Prop) (ι0 : Io) (H0 : Hp) (Q : Ex → St → Prop) : Exit → Act → World → Prop
  | .normal, a, w => ∃ st S ι, Q .norm st ∧ Rep N w0 S0 ι0 H0 w S ι st a
  | .ret, a, w => ∃ st S ι, Q .ret st ∧ Rep N w0 S0 ι0 H0 w S ι st a
  | .exit id, a, w => ∃ st S ι, Q (.exit id) st ∧ Rep N w0 S0 ι0 H0 w S ι st a
  | _, _, _ => False

theorem Weak.rep {st st' : St} {a : Act} (hbig : ∀ l, H0.bx l ≠ none → 1000000 ≤ l) (W : Weak st st') (Rp : Rep N w0 S0 ι0 H0 w S ι st a) : ∃ S' ι', Rep N w0 S0 ι0 H0 w S' ι' st' a := by
  obtain ⟨φ, T⟩ := W
  obtain ⟨S', ι', h1, h2, _, h4⟩ := T.go w S ι Rp.hr
  exact ⟨S', ι', h1, fun i => h4 _ i (Rp.sl i), Rp.size, Rp.defers, Rp.fr.trans Rp.hr h2 (fun l hl _ => Rp.par l hl), fun l hl => T.live l (hbig l hl) (Rp.par l hl)⟩

theorem wp_loop' {c : Code} {Q : Exit → Act → World → Prop} {a : Act} (J : Nat → Act → World → Prop) (h0 : ∃ n, J n a w) (round : ∀ n a w, J n a w → c.wp P (Exit.then (fun a' w' => ∃ m, m < n ∧ J m a' w') Q) a w) : (Code.loop c).wp P Q a w := by
  intro b k cs
  have key : ∀ n a w, J n a w → ∃ e a' w', Q e a' w' ∧ Arrives P (lone (b.at a (.code c :: .inLoop c :: k)) cs w) b k cs e a' w' := by
    intro n
    induction n using Nat.strongRecOn with
    | _ n ih =>
      intro a w hJ
      obtain ⟨e, a₁, w₁, hq, harr⟩ := round n a w hJ b (.inLoop c :: k) cs
      cases e with
      | normal =>
        obtain ⟨m, hlt, hJ₁⟩ := hq
        obtain ⟨e₂, a₂, w₂, hq₂, harr₂⟩ := ih m hlt a₁ w₁ hJ₁
        exact ⟨e₂, a₂, w₂, hq₂, .of_steps (Steps.trans harr (.one step_inLoop)) harr₂⟩
      | exit id => exact ⟨_, a₁, w₁, hq, .pass (x := .inLoop c) rfl (fun _ _ => .inl (by simp)) harr⟩
      | goto l => exact ⟨_, a₁, w₁, hq, .pass (x := .inLoop c) rfl (fun _ _ => .inl (by simp)) harr⟩
      | ret => exact ⟨_, a₁, w₁, hq, .pass (x := .inLoop c) rfl (fun _ _ => .inl (by simp)) harr⟩
      | panic ch => exact ⟨_, a₁, w₁, hq, .pass (x := .inLoop c) rfl (fun _ _ => .inl (by simp)) harr⟩
      | outgrown => exact ⟨_, a₁, w₁, hq, .pass (x := .inLoop c) rfl (fun _ _ => .inl (by simp)) harr⟩
  obtain ⟨n, hJ⟩ := h0
  obtain ⟨e, a', w', hq, harr⟩ := key n a w hJ
  exact ⟨e, a', w', hq, .of_steps (.one step_loop) harr⟩

inductive SlimR (P : Program) (loud : Nat → Bool) (N : Nat) : Code → SC → Prop
  | skip : SlimR P loud N .skip .skip
  | rg {id : Nat} {ops : Array Oper} {so : List SO} (h : ops.toList.mapM (slimOper P N ops) = some so) : SlimR P loud N (.region id ops false) (.rg so)
  | rgd {id : Nat} {ops : Array Oper} {so : List SO} {t : DT} (h : ops.toList.mapM (slimOper P N ops) = some so) (hn : Region.noSelect ops = true) (ht : tree loud ops so ops.size (Array.replicate ops.size false) = some t) : SlimR P loud N (.region id ops true) (.rgd t)
  | seq {a b : Code} {a' b' : SC} (h1 : slim P loud N a = some a') (h2 : slim P loud N b = some b') : SlimR P loud N (.seq a b) (.seq a' b')
  | cond {x : Operand} {x' : SA} {a b : Code} {a' b' : SC} (hx : slimArg P 0 x = some x') (h1 : slim P loud N a = some a') (h2 : slim P loud N b = some b') : SlimR P loud N (.cond x a b) (.cond x' a' b')
  | blk {id : Nat} {a : Code} {a' : SC} (h : slim P loud N a = some a') : SlimR P loud N (.block id a) (.blk id a')
  | loop {a : Code} {a' : SC} (h : slim P loud N a = some a') : SlimR P loud N (.loop a) (.loop a')
  | exit {id : Nat} : SlimR P loud N (.exit id) (.exit id)
  | ret : SlimR P loud N .ret .ret
  | bad {c : Code} : SlimR P loud N c .bad

theorem slim_rel {c : Code} {sc : SC} (hs : slim P loud N c = some sc) : SlimR P loud N c sc := by
  cases c <;> simp only [slim, Option.bind_eq_bind, Option.pure_def] at hs
  case skip => cases hs; exact .skip
  case region id ops draw =>
    obtain ⟨so, hso, hs⟩ := bind_some hs
    cases draw with
    | true =>
      simp only [if_true] at hs
      split at hs
      · rename_i hns
        obtain ⟨t', ht, hs'⟩ := map_some hs
        cases hs'
        exact .rgd hso hns ht
      · cases hs
    | false => simp at hs; subst hs; exact .rg hso
  case seq a b =>
    obtain ⟨x', hx, hs⟩ := bind_some hs
    obtain ⟨y', hy, hs⟩ := bind_some hs
    cases hs; exact .seq hx hy
  case cond x a b =>
    obtain ⟨x', hx, hs⟩ := bind_some hs
    obtain ⟨p', hp, hs⟩ := bind_some hs
    obtain ⟨q', hq, hs⟩ := bind_some hs
    cases hs; exact .cond hx hp hq
  case block id a =>
    obtain ⟨x', hx, hs⟩ := bind_some hs
    cases hs; exact .blk hx
  case loop a =>
    obtain ⟨x', hx, hs⟩ := bind_some hs
    cases hs; exact .loop hx
  case exit id => cases hs; exact .exit
  case ret => cases hs; exact .ret
  all_goals (cases hs; exact .bad)

theorem sc_ok (hm : P.follows .mixedOrders = true) (hbig : ∀ l, H0.bx l ≠ none → 1000000 ≤ l) : ∀ (sc : SC) (c : Code) (Q : Ex → St → Prop) (st : St) (a : Act) (w : World) (S : Nat → Prop) (ι : Io), SlimR P loud N c sc.strip → run P loud sc Q st →
    Rep N w0 S0 ι0 H0 w S ι st a → c.wp P (Qs N w0 S0 ι0 H0 Q) a w := by
  intro sc
  induction sc with
  | weak x ih =>
    intro c Q st a w S ι hs h Rp
    obtain ⟨st', W, h⟩ := h
    obtain ⟨S', ι', Rp'⟩ := W.rep hbig Rp
    exact ih c Q st' a w S' ι' hs h Rp'
  | bad =>
    intro c Q st a w S ι hs h Rp
    exact h.elim
  | skip =>
    intro c Q st a w S ι hs h Rp
    cases hs
    exact wp_skip ⟨st, S, ι, h, Rp⟩
  | exit id =>
    intro c Q st a w S ι hs h Rp
    cases hs
    exact wp_exit ⟨st, S, ι, h, Rp⟩
  | ret =>
    intro c Q st a w S ι hs h Rp
    cases hs
    exact wp_ret ⟨st, S, ι, h, Rp⟩
  | rg os =>
    intro c Q st a w S ι hs h Rp
    cases hs with
    | rg hso => exact region_ok hso h Rp fun st a w S ι hK Rp' => ⟨st, S, ι, hK, Rp'⟩
  | rgd t =>
    intro c Q st a w S ι hs h Rp
    cases hs with
    | rgd hso hns ht => exact regionD_ok hm hso hns ht h Rp (fun st a w S ι hK Rp' => ⟨st, S, ι, hK, Rp'⟩) (fun _ _ _ h => h)
  | seq x y ihx ihy =>
    intro c Q st a w S ι hs h Rp
    simp only [SC.strip] at hs
    cases hs with
    | seq hx hy =>
      refine wp_seq (wp_mono (ihx _ _ st a w S ι (slim_rel hx) h Rp) fun e a' w' he => ?_)
      cases e with
      | normal =>
        obtain ⟨st', S', ι', hK, Rp'⟩ := he
        exact ihy _ Q st' a' w' S' ι' (slim_rel hy) hK Rp'
      | ret => exact he
      | exit id => exact he
      | goto l => exact he.elim
      | panic c => exact he.elim
      | outgrown => exact he.elim
  | cond x p q ihp ihq =>
    intro c Q st a w S ι hs h Rp
    simp only [SC.strip] at hs
    cases hs with
    | cond hx hp hq =>
      simp only [run, brk] at h
      split at h
      · rename_i b hb
        have hv := arg_vl hx Rp.sl
        rw [hb] at hv
        exact wp_cond_split hv.bool_inv (fun e => ihp _ Q st a w S ι (slim_rel hp) (h.1 e) Rp) (fun e => ihq _ Q st a w S ι (slim_rel hq) (h.2 e) Rp)
      · exact h.elim
  | blk id x ih =>
    intro c Q st a w S ι hs h Rp
    simp only [SC.strip] at hs
    cases hs with
    | blk hx =>
      refine wp_block (wp_mono (ih _ _ st a w S ι (slim_rel hx) h Rp) fun e a' w' he => ?_)
      cases e with
      | normal => exact he
      | ret => exact he
      | exit id' =>
        obtain ⟨st', S', ι', hK, Rp'⟩ := he
        simp only [Exit.inBlock]
        simp only [blkQ] at hK
        split
        · rename_i e; rw [if_pos e] at hK; exact ⟨st', S', ι', hK, Rp'⟩
        · rename_i e; rw [if_neg e] at hK; exact ⟨st', S', ι', hK, Rp'⟩
      | goto l => exact he.elim
      | panic c => exact he.elim
      | outgrown => exact he.elim
  | loop x ih =>
    intro c Q st a w S ι hs h Rp
    simp only [SC.strip] at hs
    cases hs with
    | loop hx =>
      obtain ⟨I, ⟨n, st', W, hI⟩, hround⟩ := h
      obtain ⟨S', ι', Rp'⟩ := W.rep hbig Rp
      refine wp_loop' (fun n a w => ∃ st S ι, I n st ∧ Rep N w0 S0 ι0 H0 w S ι st a) ⟨n, st', S', ι', hI, Rp'⟩ fun n a w hJ => ?_
      obtain ⟨st1, S1, ι1, hI1, Rp1⟩ := hJ
      refine wp_mono (ih _ _ st1 a w S1 ι1 (slim_rel hx) (hround n st1 hI1) Rp1) fun e a' w' he => ?_
      cases e with
      | normal =>
        obtain ⟨st2, S2, ι2, ⟨m, st3, hlt, W3, hI3⟩, Rp2⟩ := he
        obtain ⟨S3, ι3, Rp3⟩ := W3.rep hbig Rp2
        exact ⟨m, hlt, st3, S3, ι3, hI3, Rp3⟩
      | ret => exact he
      | exit id => exact he
      | goto l => exact he.elim
      | panic c => exact he.elim
      | outgrown => exact he.elim

/-! ### Functions -/

/-- What a function does: from a heap of which H tells, and arguments, to a result and a heap of which Q tells. -/
def FnE (P : Program) (f : FuncId) (args : List AV) (H : Hp) (Q : AV → Hp → Prop) : Prop :=
  Known P f ∧ ∀ (w : World) (S : Nat → Prop) (ι : Io) (vs : List Value), HR w S ι H → vs.length = args.length → (∀ j (h : j < args.length), VL w S ι H (vs.getD j undef) (args[j])) →
    Calls P f vs.toArray w fun e w' => ∃ v S' ι' res H', Q res H' ∧ e = .returned v ∧ HR w' S' ι' H' ∧ Fr w S ι H w' S' ι' H' ∧ VL w' S' ι' H' v res

def FnAt (P : Program) (f : FuncId) (args : List AV) (H : Hp) (res : AV) (H' : Hp) : Prop := FnE P f args H fun r h => r = res ∧ h = H'

theorem FnE.mono {f : FuncId} {args : List AV} {H : Hp} {Q Q' : AV → Hp → Prop} (h : FnE P f args H Q) (hQ : ∀ r h, Q r h → Q' r h) : FnE P f args H Q' :=
  ⟨h.1, fun w S ι vs R hl hv => Calls.mono (h.2 w S ι vs R hl hv) fun _ _ ⟨v, S', ι', res, H', h1, h2⟩ => ⟨v, S', ι', res, H', hQ _ _ h1, h2⟩⟩

/-- A result: a slot, or the box that a slot points to. -/
inductive RV where
  | t (n : Nat)
  | c (n : Nat) (sh : Option Nat)

def rvOf (P : Program) : ResultVar → Option RV
  | .tmp t => some (.t t)
  | .cell a t => (shapeOf P t).map (.c a)

def RV.q (st : St) : RV → QR
  | .t n => ⟨True, st.s n, .no⟩
  | .c n sh => ldF st.bx sh (st.s n)

def resA (rs : List RV) (st : St) : AV := match rs with
  | [r] => (r.q st).v
  | rs => .tup (rs.map fun r => (r.q st).v)

def resP (st : St) : List RV → Prop
  | [] => True
  | r :: rs => (r.q st).p ∧ resP st rs

/-- The result lies in a slot of its own. -/
def St.fin (rs : List RV) (st : St) : St := ⟨upd st.s 1000000 (resA rs st), st.bx, st.tg⟩

def endQ (rs : List RV) (Q : AV → Hp → Prop) (st : St) : Prop := resP st rs ∧ ∃ st', Weak (st.fin rs) st' ∧ Q (st'.s 1000000) st'.H

def fnQ (rs : List RV) (Q : AV → Hp → Prop) : Ex → St → Prop
  | .norm, st => endQ rs Q st
  | .ret, st => endQ rs Q st
  | .exit _, _ => False

def St.ini (args : List AV) (H : Hp) : St := ⟨fun i => args.getD i .any, H.bx, H.tg⟩

theorem run_rv {st : St} {a : Act} {r : ResultVar} {x : RV} (hx : rvOf P r = some x) (R : HR w S ι st.H) (V : SL w S ι st.H a st.s) (hp : (x.q st).p) :
    ∃ v, ((match r with | .tmp t => pure (a.tmps.getD t undef) | .cell b t => do loadVar t (← asAddr (a.tmps.getD b undef)) : Sem Value)).run P w = .ok v w ∧ VL w S ι st.H v (x.q st).v := by
  cases r with
  | tmp t =>
    simp only [rvOf, Option.some.injEq] at hx
    subst hx
    exact ⟨_, rfl, V t⟩
  | cell b t =>
    simp only [rvOf] at hx
    obtain ⟨sh, hsh, rfl⟩ := map_some hx
    have vb := V b
    obtain ⟨_, u, hu, hv⟩ := ld_ok (P := P) hsh R vb hp
    refine ⟨u, ?_, hv⟩
    have hp' : ∃ q, a.tmps.getD b undef = .pointer (some q) := by
      simp only [RV.q] at hp
      generalize a.tmps.getD b undef = v at vb
      cases hs : st.s b with
      | ptr l o => rw [hs] at vb; obtain ⟨e, _⟩ := vb.ptr_inv; exact ⟨_, e⟩
      | rptr row => rw [hs] at vb; cases vb; exact ⟨_, rfl⟩
      | optr t sz i j row => rw [hs] at vb; cases vb; exact ⟨_, rfl⟩
      | _ => rw [hs] at hp; exact hp.elim
    obtain ⟨q, hq⟩ := hp'
    show (do loadVar t (← asAddr (a.tmps.getD b undef)) : Sem Value).run P w = _
    rw [hq] at hu ⊢
    simpa [Instr.loadAt, Instr.sureAddr, asAddr] using hu

theorem run_rvs {st : St} {a : Act} (f : ResultVar → Sem Value) (hf : ∀ r, f r = (match r with | .tmp t => pure (a.tmps.getD t undef) | .cell b t => do loadVar t (← asAddr (a.tmps.getD b undef)))) (R : HR w S ι st.H) (V : SL w S ι st.H a st.s) :
    ∀ (l : List ResultVar) (rs : List RV), l.mapM (rvOf P) = some rs → resP st rs →
      ∃ vs, (l.mapM f).run P w = .ok vs w ∧ vs.length = rs.length ∧ ∀ j (h : j < rs.length), VL w S ι st.H (vs.getD j undef) ((rs[j]).q st).v
  | [], rs, h, _ => by
    simp at h; subst h
    exact ⟨[], rfl, rfl, fun j hj => by simp at hj⟩
  | r :: l, rs, h, hp => by
    simp only [List.mapM_cons, Option.bind_eq_bind, Option.pure_def] at h
    obtain ⟨x, hx, h⟩ := bind_some h
    obtain ⟨xs, hxs, h⟩ := bind_some h
    simp at h; subst h
    obtain ⟨v, h1, h2⟩ := run_rv hx R V hp.1
    obtain ⟨vs, h3, h4, h5⟩ := run_rvs f hf R V l xs hxs hp.2
    refine ⟨v :: vs, ?_, by simp [h4], fun j hj => ?_⟩
    · simp only [List.mapM_cons, Sem.run_bind, hf r, h1, h3, Result.andThen_ok, Sem.run_pure]
    · cases j with
      | zero => exact h2
      | succ j => exact h5 j (by simpa using hj)

theorem run_results {fn : Func} {rs : List RV} (hr : fn.results.toList.mapM (rvOf P) = some rs) {st : St} {a : Act} (R : HR w S ι st.H) (V : SL w S ι st.H a st.s) (hp : resP st rs) :
    ∃ v, (results fn a.tmps).run P w = .ok v w ∧ VL w S ι st.H v (resA rs st) := by
  have key : ∀ (f : ResultVar → Sem Value), (∀ r, f r = (match r with | .tmp t => pure (a.tmps.getD t undef) | .cell b t => do loadVar t (← asAddr (a.tmps.getD b undef)))) →
      ∃ v, (do let vs ← fn.results.mapM f; pure (if h : vs.size = 1 then vs[0] else .tuple vs) : Sem Value).run P w = .ok v w ∧ VL w S ι st.H v (resA rs st) := by
    intro f hf
    obtain ⟨vs, h1, h2, h3⟩ := run_rvs (a := a) f hf R V _ _ hr hp
    refine ⟨if h : vs.toArray.size = 1 then vs.toArray[0] else .tuple vs.toArray, ?_, ?_⟩
    · rw [Array.mapM_eq_mapM_toList, ← bind_pure_comp]
      simp only [Sem.run_bind]
      rw [h1]
      simp only [Result.andThen_ok, Sem.run_pure]
    · match rs, vs, h2 with
      | [], [], _ => exact .tup (vs := []) rfl (fun j hj => by simp at hj)
      | [r], [v], _ => simpa [resA] using h3 0 (by simp)
      | r1 :: r2 :: rs, v1 :: v2 :: vs, h2 =>
        have : ¬ ((v1 :: v2 :: vs).toArray.size = 1) := by simp
        rw [dif_neg this]
        simp only [resA]
        refine .tup (by simpa using h2) (fun j hj => ?_)
        rw [List.length_map] at hj
        have := h3 j hj
        rw [List.getElem_map]
        exact this
  exact key _ (fun r => by cases r <;> rfl)

theorem fn_okE {f : FuncId} {fn : Func} {c : Code} {sc : SC} {args : List AV} {Q : AV → Hp → Prop} {rs : List RV} (hf : P.funcs[f]? = some fn) (hb : fn.body = some c) (hname : fn.name ≠ "runtime.NumGoroutine")
    (hm : P.follows .mixedOrders = true) (hs : slim P loud fn.ntmps c = some sc.strip) (hn : args.length ≤ fn.ntmps) (hr : fn.results.toList.mapM (rvOf P) = some rs) (hbig : ∀ l, H.bx l ≠ none → 1000000 ≤ l)
    (h : run P loud sc (fnQ rs Q) (St.ini args H)) : FnE P f args H Q := by
  refine ⟨⟨fn, c, hf, hb, hname⟩, fun w S ι vs R hl hv => calls_of_wp hf hb ?_⟩
  have Rp : Rep fn.ntmps w S ι H w S ι (St.ini args H) { tmps := vs.toArray ++ Array.replicate (fn.ntmps - vs.toArray.size) undef, defers := [] } :=
    { hr := R
      sl := fun i => by
        by_cases hi : i < args.length
        · have e1 : (vs.toArray ++ Array.replicate (fn.ntmps - vs.toArray.size) undef).getD i undef = vs.getD i undef := by
            simp only [Array.getD_eq_getD_getElem?, List.getD]
            rw [Array.getElem?_append_left (by simp; omega)]
            simp
          have e2 : (St.ini args H).s i = args[i] := by simp [St.ini, List.getD, hi]
          simp only [e1, e2]
          exact hv i hi
        · have : (St.ini args H).s i = .any := by simp [St.ini, List.getD, Nat.le_of_not_lt hi]
          rw [this]; exact .any _
      size := by simp; omega
      defers := rfl
      fr := Fr.refl _ _ _ _
      par := fun l hl => hl }
  refine wp_mono (sc_ok hm hbig sc c _ _ _ w S ι (slim_rel hs) h Rp) fun e a' w' he => ?_
  have done : (∃ st S1 ι1, endQ rs Q st ∧ Rep fn.ntmps w S ι H w' S1 ι1 st a') →
      a'.defers = [] ∧ ∃ v, (results fn a'.tmps).run P w' = .ok v w' ∧ ∃ v' S' ι' res H', Q res H' ∧ Ending.returned v = .returned v' ∧ HR w' S' ι' H' ∧ Fr w S ι H w' S' ι' H' ∧ VL w' S' ι' H' v' res := by
    rintro ⟨st, S1, ι1, ⟨hp, st', ⟨φ, T⟩, hQ⟩, Rp1⟩
    obtain ⟨v, h1, h2⟩ := run_results hr Rp1.hr Rp1.sl hp
    obtain ⟨S2, ι2, R2, F2, _, L2⟩ := T.go w' S1 ι1 Rp1.hr
    have h3 := L2 v 1000000 (by simpa [St.fin, upd_same] using h2)
    exact ⟨Rp1.defers, v, h1, v, S2, ι2, _, _, hQ, rfl, R2, Rp1.fr.trans Rp1.hr F2 (fun l hl _ => Rp1.par l hl), h3⟩
  cases e with
  | normal => exact done he
  | ret => exact done he
  | exit id =>
    obtain ⟨st, S, ι, h, _⟩ := he
    exact h.elim
  | goto l => exact he.elim
  | panic c => exact he.elim
  | outgrown => exact he.elim

theorem fn_ok' {f : FuncId} {fn : Func} {sc : SC} {args : List AV} {Q : AV → Hp → Prop} (rs : List RV) (hf : P.funcs[f]? = some fn) (hk : fn.body.bind (slim P loud fn.ntmps) = some sc.strip) (hname : fn.name ≠ "runtime.NumGoroutine")
    (hm : P.follows .mixedOrders = true) (hn : args.length ≤ fn.ntmps) (hr : fn.results.toList.mapM (rvOf P) = some rs) (hbig : ∀ l, H.bx l ≠ none → 1000000 ≤ l)
    (h : run P loud sc (fnQ rs Q) (St.ini args H)) : FnE P f args H Q := by
  obtain ⟨c, hb, hs⟩ := bind_some hk
  exact fn_okE hf hb hname hm hs hn hr hbig h

/-- No heap is told of. -/
def Hp.none : Hp := ⟨fun _ => .none, fun _ => .none⟩

end
end Go.Proofs.YtchmoleeajkioaaDoor.V
