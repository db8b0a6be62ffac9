/-
  From the readings of a row to what the logic V is told, and back: over any program.
-/
import Derived.Test.YtchmoleeajkioaaDoorTa
import Derived.WalkKit
import Derived.ProofKit
import Derived.OpenShut
import Derived.Carry
import Derived.Deep.DeepHandedRow
namespace Go.Proofs.YtchmoleeajkioaaDoor.V
open Go Go.RowKit Go.ChangeShapes Go.WideShapes
set_option linter.unusedSimpArgs false
set_option linter.unusedVariables false
noncomputable section

def allS (w : World) : Nat → Prop := fun b => b < w.heap.size
/-- Cells that read as ds. -/
def RdL (w : World) (cs : List Value) (ds : List DV) : Prop := cs.length = ds.length ∧ ∀ j (h : j < ds.length), Rd w (allS w) (cs.getD j undef) (ds[j])
def Small (l : List Nat) : Prop := ∀ n ∈ l, n ≤ reachBytes

/-- Whatever reads as data at the type t reads as some x. -/
def Reads (P : Program) (t : TypeId) {α : Type} (en : α → List DV) (φ : α → Prop) : Prop :=
  ∀ (H : Type) (enc : TypeId × Value → H) (w : World) (sp : Nat → Bool) (hd : Bool) (fuel : Nat) (cs : List Value) (d : DataW H) (p : List MemPlace),
    DataW.trod enc P w 0 sp hd fuel t cs = some (d, p) → Small (d.weights P t) → ∃ x, φ x ∧ RdL w cs (en x)

theorem rdl_one {w : World} {v : Value} {d : DV} (h : Rd w (allS w) v d) : RdL w [v] [d] := ⟨rfl, fun j hj => by
  have : j = 0 := by simpa using hj
  subst this; exact h⟩

section
variable {P : Program} {t : TypeId}
theorem reads_int {k : IntKind} (hu : P.underlying t = some (.int k)) : Reads P t (fun n : Int => [.int k n]) (fun n => (Lit.int k n).wf = true) := by
  intro H enc w sp hd fuel cs d p h _
  obtain ⟨n, rfl, _, hw⟩ := DataW.trod_int hu h
  exact ⟨n, hw, rdl_one (.int k n)⟩
theorem reads_bool (hu : P.underlying t = some .bool) : Reads P t (fun b : Bool => [.bool b]) (fun _ => True) := by
  intro H enc w sp hd fuel cs d p h _
  obtain ⟨b, rfl, _⟩ := DataW.trod_bool hu h
  exact ⟨b, trivial, rdl_one (.bool b)⟩
theorem reads_str (hu : P.underlying t = some .string) : Reads P t (fun s : Txt => [.str s]) (fun s => s.length ≤ 140737488355328) := by
  intro H enc w sp hd fuel cs d p h hs
  obtain ⟨s, rfl, hx, _⟩ := DataW.trod_string hu h
  obtain ⟨rfl, rfl⟩ := Prod.mk.inj hx
  refine ⟨s.data.toList, ?_, rdl_one (.str _)⟩
  have := hs s.data.toList.length (by simp [DataW.weights])
  simp only [reachBytes] at this
  omega

theorem weights_all {H : Type} {e : TypeId} : ∀ {l : List (DataW H)} {d : DataW H}, d ∈ l → ∀ n ∈ d.weights P e, n ∈ DataW.weightsAll P e l
  | x :: l, d, hd, n, hn => by
    simp only [DataW.weightsAll, List.mem_append]
    rcases List.mem_cons.1 hd with rfl | hd
    · exact .inl hn
    · exact .inr (weights_all hd n hn)
theorem weights_each {H : Type} : ∀ {ts : List TypeId} {l : List (DataW H)} {k : Nat} {t : TypeId} {d : DataW H}, ts[k]? = some t → l[k]? = some d → ∀ n ∈ d.weights P t, n ∈ DataW.weightsEach P ts l
  | [], _, _, _, _, h, _, _, _ => by simp at h
  | _ :: _, [], _, _, _, _, h, _, _ => by simp at h
  | t0 :: ts, d0 :: l, 0, t, d, h, h', n, hn => by
    simp only [List.getElem?_cons_zero, Option.some.injEq] at h h'
    subst h; subst h'
    simp only [DataW.weightsEach, List.mem_append]
    exact .inl hn
  | t0 :: ts, d0 :: l, k + 1, t, d, h, h', n, hn => by
    simp only [List.getElem?_cons_succ] at h h'
    simp only [DataW.weightsEach, List.mem_append]
    exact .inr (weights_each h h' n hn)

theorem add_plain {b o : Nat} {n : Nat} : (⟨b, o, none⟩ : Addr).add n = ⟨b, o + n, none⟩ := by
  unfold Addr.add
  split
  · rename_i h; subst h; rfl
  · rfl

theorem reads_slice {α : Type} [Inhabited α] {e : TypeId} {sz : Nat} {en : α → List DV} {φ : α → Prop} (hu : P.underlying t = some (.slice e)) (hc : P.cellsOf e = sz) (hb : 0 < P.bytesOf e) (h0 : 0 < sz)
    (hen : ∀ x, (en x).length = sz) (h : Reads P e en φ) : Reads P t (fun l : List α => [.sl sz (l.map en)]) (fun l => l.length ≤ 140737488355328 ∧ ∀ y ∈ l, φ y) := by
  intro H enc w sp hd fuel cs d p ht hs
  rcases DataW.trod_slice hu ht with ⟨rfl, _⟩ | ⟨a, len, cap, elems, rest, n, rfl, rfl, hx, hba, hlc, hcm, hel, hget, _, _⟩
  · exact ⟨[], ⟨by simp, by simp⟩, rdl_one (.nil none 0 sz)⟩
  · obtain ⟨rfl, rfl⟩ := Prod.mk.inj hx
    rw [hc] at hget
    simp only [DataW.weights, hu] at hs
    have key : ∀ i, i < len → ∃ x, φ x ∧ ∃ cs', w.cells? 0 (a.add (i * sz)) sz = some cs' ∧ RdL w cs' (en x) := fun i hi => by
      have h1 := hget i hi
      rw [List.getElem?_eq_getElem (by omega)] at h1
      obtain ⟨cs', h2, h3⟩ := Option.bind_eq_some_iff.1 h1
      obtain ⟨x, hx1, hx2⟩ := h H enc w sp hd n cs' elems[i].1 elems[i].2 h3 (fun m hm => hs m (by
        refine List.mem_cons_of_mem _ (List.mem_append_left _ (weights_all (d := elems[i].1) ?_ m hm))
        exact List.mem_map_of_mem (List.getElem_mem _)))
      exact ⟨x, hx1, cs', h2, hx2⟩
    let X : Nat → α := fun i => if hi : i < len then (key i hi).choose else default
    have hX : ∀ i, i < len → φ (X i) ∧ ∃ cs', w.cells? 0 (a.add (i * sz)) sz = some cs' ∧ RdL w cs' (en (X i)) := fun i hi => by
      simp only [X, dif_pos hi]
      exact (key i hi).choose_spec
    let C : Nat → List Value := fun i => if hi : i < len then (hX i hi).2.choose else []
    have hC : ∀ i, i < len → w.cells? 0 (a.add (i * sz)) sz = some (C i) ∧ RdL w (C i) (en (X i)) := fun i hi => by
      simp only [C, dif_pos hi]
      exact (hX i hi).2.choose_spec
    refine ⟨(List.range len).map X, ⟨?_, fun y hy => ?_⟩, rdl_one ?_⟩
    · have h1 := hs _ (List.mem_cons_self ..)
      simp only [List.length_map, reachBytes] at h1 ⊢
      have h2 : (elems.length + rest.length) * 1 ≤ (elems.length + rest.length) * P.bytesOf e := Nat.mul_le_mul_left _ hb
      simp only [List.length_range]
      omega
    · obtain ⟨i, hi, rfl⟩ := List.mem_map.1 hy
      exact (hX i (List.mem_range.1 hi)).1
    · by_cases hl : len = 0
      · subst hl; exact .nil _ _ _
      · obtain ⟨b, o, sp'⟩ := a
        have hfirst := World.cells?_some (hC 0 (by omega)).1
        have h1 := hfirst.2.2 0 h0
        have e0 : ((⟨b, o, sp'⟩ : Addr).add (0 * sz)).add 0 = ⟨b, o, sp'⟩ := by simp [Addr.add]
        rw [e0, List.getElem?_eq_getElem (by omega)] at h1
        have hsp : sp' = none := by
          cases sp' with
          | none => rfl
          | some q =>
            simp only [World.cell?] at h1
            split at h1 <;> simp at h1
        subst hsp
        have hlt : b < w.heap.size := by
          apply Classical.byContradiction
          intro hn
          have : w.heap[b]? = none := Array.getElem?_eq_none (by omega)
          simp only [World.cell?, this] at h1
          cases h1
        have hr : ((List.range len).map X).length = len := by simp
        have hlen : (((List.range len).map X).map en).length = len := by simp
        have goal := @Rd.sl w (allS w) b o cap sz (((List.range len).map X).map en) (fun i j => (C i).getD j undef) (by rw [hlen]; exact hlc) hlt (fun r hr => by
            obtain ⟨x, _, rfl⟩ := List.mem_map.1 hr
            exact hen x)
          (fun i j hi hj => by
            rw [hlen] at hi
            obtain ⟨_, h2, h3⟩ := World.cells?_some (hC i hi).1
            have h4 := h3 j hj
            rw [add_plain, add_plain, List.getElem?_eq_getElem (by omega)] at h4
            rw [h4, List.getD, List.getElem?_eq_getElem (by omega)]; rfl)
          (fun i j hi hj => by
            rw [hlen] at hi
            have := (hC i hi).2.2
            simp only [List.getElem_map, List.getElem_range] at hj ⊢
            exact this j hj)
        rw [hlen] at goal
        exact goal

/-- A struct's fields: types, places. -/
def stF (P : Program) (t : TypeId) : List (TypeId × Nat) := match P.underlying t with
  | some (.struct fs) => fs.toList.map fun f => (f.type, f.offset)
  | _ => []
theorem st_cell {α : Type} {e : α → DV} {φ : α → Prop} {H : Type} {enc : TypeId × Value → H} {w : World} {sp : Nat → Bool} {hd : Bool} {fuel : Nat} {cs : List Value} {d : DataW H} {p : List MemPlace}
    (ht : DataW.trod enc P w 0 sp hd fuel t cs = some (d, p)) (hs : Small (d.weights P t)) {k off : Nat} {ty : TypeId} (hk : (stF P t)[k]? = some (ty, off)) (hc : P.cellsOf ty = 1) (hoff : off < P.cellsOf t)
    (hr : Reads P ty (fun x => [e x]) φ) : cs.length = P.cellsOf t ∧ ∃ x, φ x ∧ Rd w (allS w) (cs.getD off undef) (e x) := by
  unfold stF at hk
  split at hk
  · rename_i fs hu
    obtain ⟨xs, n, rfl, hx, hl, hlen, hf⟩ := DataW.trod_struct hu ht
    obtain ⟨rfl, rfl⟩ := Prod.mk.inj hx
    refine ⟨hl, ?_⟩
    rw [List.getElem?_map, Option.map_eq_some_iff] at hk
    obtain ⟨f, hf1, hf2⟩ := hk
    obtain ⟨rfl, rfl⟩ := Prod.mk.inj hf2
    have hks : k < fs.size := by
      have := (List.getElem?_eq_some_iff.1 hf1).1
      simpa using this
    have h1 := hf k f (by simpa using hf1)
    rw [List.getElem?_eq_getElem (by omega)] at h1
    obtain ⟨x, hx1, hx2⟩ := hr H enc w sp hd n _ xs[k].1 xs[k].2 h1 (fun m hm => hs m (by
      simp only [DataW.weights, hu]
      refine weights_each (k := k) (t := f.type) (d := xs[k].1) ?_ ?_ m hm
      · rw [List.getElem?_map, hf1]; rfl
      · rw [List.getElem?_map, List.getElem?_eq_getElem (by omega)]; rfl))
    refine ⟨x, hx1, ?_⟩
    have := hx2.2 0 (by simp)
    rw [hc] at this
    rw [List.getD, List.getElem?_eq_getElem (by omega)]
    simpa [List.getD, List.getElem?_drop, List.getElem?_eq_getElem (show f.offset < cs.length by omega)] using this
  · simp at hk
end

/-! ### Arguments, the call, what is left -/
/-- The heap of which nothing is told but that all blocks stay. -/
abbrev H0 : Hp := Hp.mk3 none none none
def ι0 : Io := ⟨fun _ => 0, fun _ => none⟩
theorem hr0 (w : World) : HR w (allS w) ι0 H0 :=
  { stable := fun b hb => ⟨hb, fun h => by
      rcases h with ⟨l, h, _⟩ | ⟨t, _, h, _⟩
      · exact h (by simp [H0, Hp.mk3])
      · exact h (by simp [H0, Hp.mk3])⟩
    boxes := fun l c h => by simp [H0, Hp.mk3] at h
    rows := fun t a b h => by simp [H0, Hp.mk3] at h
    injB := fun l m h => by exact absurd (by simp [H0, Hp.mk3]) h
    injT := fun t u b p q h => by exact absurd (by simp [H0, Hp.mk3]) h
    injBT := fun l t b p h => by exact absurd (by simp [H0, Hp.mk3]) h }

theorem fr_below {w w' : World} {S' : Nat → Prop} {ι' : Io} {H' : Hp} (F : Fr w (allS w) ι0 H0 w' S' ι' H') : Below w.heap.size w w' :=
  ⟨F.os, F.tape, F.output, F.size, fun k hk => F.keep k hk (((hr0 w).stable k hk).2)⟩

/-- A law's call. -/
theorem law_calls {P : Program} {f : FuncId} {xs : List AV} (h : Fn P f xs none (bv true) none none none) (W : World) (vs : List Value) (hl : vs.length = xs.length)
    (hv : ∀ j (h : j < xs.length), VL W (allS W) ι0 H0 (vs.getD j undef) (xs[j])) : Calls P f vs.toArray W fun e W' => e = .returned (.bool true) ∧ Below W.heap.size W W' := by
  refine Calls.mono (h.2 W (allS W) ι0 vs (hr0 W) hl hv) fun e W' => ?_
  rintro ⟨v, S', ι', res, H', ⟨rfl, rfl⟩, rfl, _, F, hvl⟩
  refine ⟨?_, fr_below F⟩
  cases hvl with
  | d h => cases h; rfl

theorem vl_slice {w : World} {v : Value} {d : DV} (h : RdL w [v] [d]) : VL w (allS w) ι0 H0 v (.d d) := .d (h.2 0 (by simp))
theorem vl_agg {w : World} {cs : Array Value} {ds : List DV} (h : RdL w cs.toList ds) : VL w (allS w) ι0 H0 (.agg cs) (.agg (ds.map .d)) := by
  have : (Value.agg cs) = .agg cs.toList.toArray := by simp
  rw [this]
  exact .agg (by simpa using h.1) (fun j hj => by
    simp only [List.getElem_map]
    exact .d (h.2 j (by simpa using hj)))

theorem trodAll_below {H : Type} {enc : TypeId × Value → H} {P : Program} (hl : laidOutB P = true) {W W' : World} (hb : Below W.heap.size W W') :
    ∀ {ts : List TypeId} {vs : List Value} {ds : List (DataW H)} {ps : List MemPlace}, (∀ t ∈ ts, P.readableRec t = true ∧ t < P.types.size) → (∀ p ∈ ps, p.block < W.heap.size) →
      DataW.TrodAll enc P W 0 (fun _ => true) true ts vs ds ps → DataW.TrodAll enc P W' 0 (fun b => decide (b < W.heap.size)) true ts vs ds ps
  | [], vs, ds, ps, _, _, h => by
    obtain ⟨rfl, rfl, rfl⟩ := trodAll_nil h
    exact trodAll_mk0
  | t :: ts, vs, ds, ps, hts, hps, h => by
    obtain ⟨v, vs', d, ds', p, q, rfl, rfl, rfl, h1, h2⟩ := trodAll_cons h
    have ht := hts t (by simp)
    exact trodAll_cons_mk (Below.trod hl ht.1 ht.2 h1 hb (fun x hx => hps x (by simp [hx]))) (trodAll_below hl hb (fun t h => hts t (by simp [h])) (fun x hx => hps x (by simp [hx])) h2)

/-- What is left behind a law that answered 'true' and turned nothing. -/
theorem post_law {H : Type} {enc : TypeId × Value → H} {P : Program} {f : Func} {s : ChangeSpec} {W W' : World} {args : Array Value} {ds gs : List (DataW H)} {before : List MemPlace}
    (hW : DataW.Whole enc P f.params.toList s.vars false W args.toList ds gs before) (hvars : s.vars = []) (hfn : s.fn H (ds ++ gs) = { results := [.lit (.bool true)], args := ds }) {tb : TypeId}
    (hr : f.resultTypes = #[tb]) (hbt : P.underlying tb = some .bool) (hl : laidOutB P = true) (hp : ∀ t ∈ f.params.toList, P.readableRec t = true ∧ t < P.types.size) (hb : Below W.heap.size W W') :
    s.post enc P f false true false false W args (.bool true) W' := by
  have hlt := hW.lt
  have hW' := hW
  obtain ⟨p, q, hA, hV, rfl, _, _⟩ := hW
  rw [hvars] at hV
  obtain ⟨rfl, rfl⟩ := trodVars_none hV
  refine ⟨ds, [], p ++ [], [], p, [], hW', ?_, ?_, ?_, hb.frame _, fun h => by cases h⟩
  · rw [hfn, hr]
    exact trodAll_cons_mk (shut_bool hbt true) trodAll_mk0
  · rw [hfn]
    exact trodAll_below hl hb hp (fun x hx => hlt x (by simp [hx])) hA
  · rw [hfn, hvars]; rfl

theorem open_struct {H : Type} {enc : TypeId × Value → H} {P : Program} {W : World} {base : Nat} {t : TypeId} {v : Value} {d : DataW H} {p : List MemPlace} {α : Type} {en : α → List DV} {φ : α → Prop} {fs : List (TypeId × Nat)}
    (hst : stF P t = fs) (hne : fs ≠ []) (hval : Value.okWide P W .any base t v) (h : DataW.Trod enc P W 0 (fun _ => true) true t v d p) (hs : Small (d.weights P t)) (hr : Reads P t en φ) :
    ∃ x, φ x ∧ VL W (allS W) ι0 H0 v (.agg ((en x).map .d)) := by
  obtain ⟨fuel, hf⟩ := h
  obtain ⟨x, hx, hy⟩ := hr H enc W _ _ fuel _ d p hf hs
  unfold stF at hst
  split at hst
  · rename_i fs' hu
    simp only [Value.okWide, hu] at hval
    obtain ⟨cs, rfl, _⟩ := hval
    exact ⟨x, hx, vl_agg hy⟩
  · exact absurd hst.symm hne
theorem open_sl {H : Type} {enc : TypeId × Value → H} {P : Program} {W : World} {base : Nat} {t e : TypeId} {v : Value} {d : DataW H} {p : List MemPlace} {α : Type} {en : α → DV} {φ : α → Prop}
    (hu : P.underlying t = some (.slice e)) (hval : Value.okWide P W .any base t v) (h : DataW.Trod enc P W 0 (fun _ => true) true t v d p) (hs : Small (d.weights P t)) (hr : Reads P t (fun x => [en x]) φ) :
    ∃ x, φ x ∧ VL W (allS W) ι0 H0 v (.d (en x)) := by
  obtain ⟨fuel, hf⟩ := h
  obtain ⟨x, hx, hy⟩ := hr H enc W _ _ fuel _ d p hf hs
  obtain ⟨a, len, cap, rfl⟩ := okWide_slice hu hval
  exact ⟨x, hx, vl_slice hy⟩
theorem small_split {H : Type} {P : Program} {t : TypeId} {ts : List TypeId} {d : DataW H} {ds : List (DataW H)} (h : (DataW.weightsEach P (t :: ts) (d :: ds)).all (· ≤ reachBytes) = true) :
    Small (d.weights P t) ∧ (DataW.weightsEach P ts ds).all (· ≤ reachBytes) = true := by
  simp only [DataW.weightsEach, List.all_append, Bool.and_eq_true] at h
  exact ⟨fun n hn => by simpa using List.all_eq_true.1 h.1 n hn, h.2⟩
end
end Go.Proofs.YtchmoleeajkioaaDoor.V
