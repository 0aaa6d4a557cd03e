/- A calculus of values over the model, part 27: what comes in, of whatever kind, as plain values. It speaks of any program. -/
import Derived.Test.YtgpddckjpokclaaVc26
import Derived.WalkKit
import Derived.ProofKit
import Derived.OpenShut
import Derived.ChangeOld
import Derived.Below
import Derived.Carry
import Derived.SizedLaws
import Derived.Deep.Slices
namespace Go.Proofs.Ytgpddckjpokclaa.Vc
open Go Go.RowKit Go.ChangeShapes Go.WideShapes
set_option linter.unusedVariables false
set_option linter.unusedSimpArgs false

/-- A value that a machine can hold. -/
def Ty.wf : (t : Ty) → t.den → Prop
  | .int k, x => (Lit.int k x).wf = true
  | .bool, _ => True
  | .str, s => ByteArray.size s ≤ maxLen
  | .sl t, xs => List.length xs ≤ maxLen ∧ ∀ x ∈ (xs : List t.den), t.wf x
  | .pair a b, x => a.wf x.1 ∧ b.wf x.2

/-- A struct's fields have the kinds that its kind tells. -/
def strB (P : Program) (T : Tab) : List Field → Nat → Ty → Bool
  | [], _, _ => false
  | f :: r, off, ty => match T f.type with
    | some j => Nat.beq f.offset off && (match r, ty with
      | [], t => decide (j.ty = t)
      | r, .pair a b => decide (j.ty = a) && strB P T r (off + a.lv) b
      | _, _ => false)
    | none => false

def recB (P : Program) (T : Tab) (t : TypeId) (i : TI) : Bool := match i.ty, P.underlying t with
  | .pair _ _, some (.struct fs) => strB P T fs.toList 0 i.ty
  | .pair _ _, _ => false
  | _, _ => true

def RecOk (P : Program) (T : Tab) : Prop := ∀ t i, T t = some i → recB P T t i = true

theorem recOk_of {P : Program} (l : List (Nat × TI)) (h : (l.all fun x => recB P (lookT l) x.1 x.2) = true) : RecOk P (lookT l) :=
  fun t i hi => List.all_eq_true.1 h (t, i) (lookT_mem hi)

/-- All that lies there. -/
def allE (w : World) : Env := ⟨fun b => b < w.heap.size, fun _ => none⟩

section
variable {P : Program} {T : Tab} {w : World} {H : Type} {enc : TypeId × Value → H}

theorem cellsOf_lv (hT : TabOk P T) {t : TypeId} {i : TI} (hi : T t = some i) : P.cellsOf t = i.ty.lv := by
  obtain ⟨info, h1, h2, _⟩ := (hT t i hi).info
  simp [Program.cellsOf, h1, h2]

theorem open_fields (hT : TabOk P T) {n : Nat} {sp : Nat → Bool} {cs : List Value} (ih : ∀ (t : TypeId) (i : TI) (cs : List Value) (y : DataW H × List MemPlace), T t = some i → DataW.trod enc P w 0 sp true n t cs = some y →
      cs.length = i.ty.lv ∧ ∃ x : i.ty.den, i.ty.wf x ∧ ∀ r p, Rep w (allE w) r i.ty x .fz p (fun j => cs[j]?)) :
    ∀ (fs : List Field) (off : Nat) (ty : Ty), strB P T fs off ty = true → (∀ f ∈ fs, ∃ y, DataW.trod enc P w 0 sp true n f.type ((cs.drop f.offset).take (P.cellsOf f.type)) = some y) →
      ∃ x : ty.den, ty.wf x ∧ ∀ r p, Rep w (allE w) r ty x .fz p (fun j => cs[off + j]?)
  | [], off, ty, h, _ => by simp [strB] at h
  | f :: r, off, ty, h, hf => by
    unfold strB at h
    split at h
    · rename_i j hj
      simp only [Bool.and_eq_true] at h
      have ho := Nat.eq_of_beq_eq_true h.1
      obtain ⟨y, hy⟩ := hf f List.mem_cons_self
      obtain ⟨hl, x, hx, hr⟩ := ih f.type j _ y hj hy
      have hlv := cellsOf_lv hT hj
      have hg : ∀ k v, k < j.ty.lv → (fun i => ((cs.drop f.offset).take (P.cellsOf f.type))[i]?) k = some v → cs[off + k]? = some v := by
        intro k v hk hv
        simp only [List.getElem?_take, hlv, hk, if_true, List.getElem?_drop, ho] at hv
        exact hv
      replace h := h.2
      split at h
      · have ht : j.ty = ty := by simpa using h
        subst ht
        exact ⟨x, hx, fun r p => Rep.fz (fun b hb => ⟨hb, rfl⟩) j.ty x hg (hr r p)⟩
      · rename_i r' a b hr'
        simp only [Bool.and_eq_true] at h
        have ht : j.ty = a := by simpa using h.1
        subst ht
        obtain ⟨z, hz, hrz⟩ := open_fields hT ih r (off + j.ty.lv) b h.2 (fun f hf' => hf f (List.mem_cons_of_mem _ hf'))
        refine ⟨(x, z), ⟨hx, hz⟩, fun r p => ⟨Rep.fz (fun b hb => ⟨hb, rfl⟩) j.ty x hg (hr r p), ?_⟩⟩
        refine Rep.fz (fun b hb => ⟨hb, rfl⟩) b z (fun k v _ hv => ?_) (hrz r p)
        show cs[off + (k + j.ty.lv)]? = some v
        rw [show off + (k + j.ty.lv) = off + j.ty.lv + k by omega]
        exact hv
      · simp at h
    · simp at h

/-- What comes in, as a plain value. -/
theorem open_any (hT : TabOk P T) (hR : RecOk P T) (sp : Nat → Bool) : ∀ (n : Nat) (t : TypeId) (i : TI) (cs : List Value) (y : DataW H × List MemPlace), T t = some i → DataW.trod enc P w 0 sp true n t cs = some y →
    cs.length = i.ty.lv ∧ ∃ x : i.ty.den, i.ty.wf x ∧ ∀ r p, Rep w (allE w) r i.ty x .fz p (fun j => cs[j]?) := by
  intro n
  induction n with
  | zero => intro t i cs y _ h; simp [DataW.trod] at h
  | succ n ih =>
    intro t i cs y hi h
    have hu := (hT t i hi).under
    have hrec := hR t i hi
    obtain ⟨ty, el, offs, szs⟩ := i
    simp only at hu hrec ⊢
    cases ty with
    | int k =>
      obtain ⟨z, rfl, _, hz⟩ := DataW.trod_int hu h
      exact ⟨rfl, z, hz, fun r p => rfl⟩
    | bool =>
      obtain ⟨z, rfl, _⟩ := DataW.trod_bool hu h
      exact ⟨rfl, z, trivial, fun r p => rfl⟩
    | str =>
      obtain ⟨z, rfl, _, hz⟩ := DataW.trod_string hu h
      exact ⟨rfl, z, hz, fun r p => rfl⟩
    | sl e =>
      obtain ⟨hu, ej, hej, hee⟩ := hu
      rcases DataW.trod_slice hu h with ⟨rfl, _⟩ | ⟨a, len, cap, elems, rest, m, hm, rfl, _, _, hlc, hcm, hel, hat, _, _⟩
      · refine ⟨rfl, [], ⟨Nat.zero_le _, by simp⟩, fun r p => ⟨_, rfl, .inl ⟨rfl, .inl ⟨rfl, none, 0, rfl⟩⟩⟩⟩
      · simp only [Nat.add_right_cancel_iff] at hm
        subst hm
        have hlv := cellsOf_lv hT hej
        rw [hee] at hlv
        have hpos := lv_pos e
        have hsp0 : 0 < len → a.spot = none := by
          intro h0
          have h1 := hat 0 h0
          rw [List.getElem?_eq_getElem (by omega), Nat.zero_mul] at h1
          have ha : a.add 0 = a := by simp [Addr.add]
          rw [ha] at h1
          cases hc : w.cells? 0 a (P.cellsOf el) with
          | none => rw [hc] at h1; simp at h1
          | some cs' =>
            obtain ⟨_, hl2, hcell⟩ := World.cells?_some hc
            rw [hlv] at hl2 hcell
            have h2 := hcell 0 hpos
            rw [List.getElem?_eq_getElem (by omega), ha] at h2
            exact World.cell?_spot h2
        have key : ∀ i, i < len → ∃ x : e.den, e.wf x ∧ ∀ r p, a.block < w.heap.size ∧ Rep w (allE w) r e x .fz p (fun j => cellAt w a.block (a.off + i * e.lv + j)) := by
          intro i hi
          have hsp := hsp0 (by omega)
          obtain ⟨b, o, s⟩ := a
          simp only at hsp
          subst hsp
          have h1 := hat i hi
          rw [List.getElem?_eq_getElem (by omega), hlv, add_at] at h1
          cases hc : w.cells? 0 ⟨b, o + i * e.lv, none⟩ e.lv with
          | none => rw [hc] at h1; simp at h1
          | some cs' =>
            rw [hc] at h1
            simp only [Option.bind_some] at h1
            obtain ⟨_, x, hx, hr⟩ := ih el ej cs' _ hej h1
            subst hee
            obtain ⟨_, hl2, hcell⟩ := World.cells?_some hc
            have h0 := hcell 0 hpos
            rw [List.getElem?_eq_getElem (by omega)] at h0
            simp only [add_at] at hcell h0
            have hb : b < w.heap.size := by
              rcases Nat.lt_or_ge b w.heap.size with h' | h'
              · exact h'
              · simp [World.cell?, Array.getElem?_eq_none h'] at h0
            refine ⟨x, hx, fun r p => ⟨hb, Rep.fz (fun b hb => ⟨hb, rfl⟩) ej.ty x (fun j v hj hv => ?_) (hr r p)⟩⟩
            have := hcell j hj
            simp only [cellAt]
            rw [this]
            exact hv
        refine ⟨rfl, (List.range len).map (fun i => if hi : i < len then (key i hi).choose else e.dflt), ⟨by simp; omega, fun x hx => ?_⟩, fun r p => ⟨_, rfl, .inl ⟨rfl, ?_⟩⟩⟩
        · simp only [List.mem_map, List.mem_range] at hx
          obtain ⟨i, hi, rfl⟩ := hx
          rw [dif_pos hi]
          exact (key i hi).choose_spec.1
        · rcases Nat.eq_zero_or_pos len with h0 | h0
          · subst h0
            exact .inl ⟨rfl, some a, cap, rfl⟩
          · have hsp := hsp0 h0
            obtain ⟨hb, _⟩ := (key 0 h0).choose_spec.2 r p
            refine .inr ⟨a.block, a.off, cap, ?_, by simpa using hlc, hb, fun i hi => ?_⟩
            · obtain ⟨b, o, s⟩ := a
              simp only at hsp
              subst hsp
              simp
            · simp only [List.length_map, List.length_range] at hi
              simp only [List.getElem_map, List.getElem_range, dif_pos hi]
              exact ((key i hi).choose_spec.2 r _).2
    | pair a b =>
      obtain ⟨fs, hu, _⟩ := hu
      obtain ⟨xs, m, hm, _, hl, hfl, hf⟩ := DataW.trod_struct hu h
      simp only [Nat.add_right_cancel_iff] at hm
      subst hm
      have hlv := cellsOf_lv hT hi
      simp only [recB, hu] at hrec
      obtain ⟨x, hx, hr⟩ := open_fields hT ih fs.toList 0 (.pair a b) hrec (fun f hf' => by
        obtain ⟨k, hk, rfl⟩ := List.getElem_of_mem hf'
        simp only [Array.length_toList] at hk
        have h1 := hf k fs[k] (by simp [hk])
        rw [List.getElem?_eq_getElem (by omega)] at h1
        exact ⟨_, by simpa using h1⟩)
      exact ⟨by rw [hl, hlv], x, hx, fun r p => by simpa using hr r p⟩

theorem leafs_all {E : Env} {μ : Nat → Value} {H : Heap} {r : Root} {t : Ty} {x : t.den} {p : Nat → Pos} {cs : List Value} (hl : cs.length = t.lv) (h : Rep w E r t x .fz p (fun j => cs[j]?)) : All2 (LR w E μ H) (leafs t x .fz) cs := by
  refine All2.of_get (by rw [leafs_length, hl]) fun i a y ha hy => ?_
  obtain ⟨z, h1, h2⟩ := leafs_at (μ := μ) (H := H) t x .fz p _ h i a ha
  rw [hy] at h1
  simp only [Option.some.injEq] at h1
  subst h1
  exact h2

/-- A struct that comes in. -/
theorem open_agg (hT : TabOk P T) (hR : RecOk P T) {r : Reach} {b0 : Nat} {sp : Nat → Bool} {t : TypeId} {i : TI} (hi : T t = some i) (hp : i.ty.isPair = true) {v : Value} {d : DataW H} {ps : List MemPlace} (hv : Value.okWide P w r b0 t v) (h : DataW.Trod enc P w 0 sp true t v d ps) :
    ∃ x : i.ty.den, i.ty.wf x ∧ AR w (allE w) (fun _ => undef) [] (.agg (leafs i.ty x .fz)) v := by
  obtain ⟨n, hn⟩ := h
  have hu := (hT t i hi).under
  obtain ⟨ty, el, offs, szs⟩ := i
  cases ty with
  | pair a b =>
    obtain ⟨fs, hu, _⟩ := hu
    obtain ⟨cs, rfl, hc⟩ := okWide_struct hu hv
    obtain ⟨hl, x, hx, hr⟩ := open_any hT hR sp n t _ _ _ hi hn
    exact ⟨x, hx, cs, rfl, leafs_all hl (hr (.res 0) (fun _ => .top))⟩
  | _ => simp [Ty.isPair] at hp

/-- A value of one cell that comes in. -/
theorem open_one (hT : TabOk P T) (hR : RecOk P T) {r : Reach} {b0 : Nat} {sp : Nat → Bool} {t : TypeId} {i : TI} (hi : T t = some i) (hp : i.ty.isPair = false) {v : Value} {d : DataW H} {ps : List MemPlace} (hv : Value.okWide P w r b0 t v) (h : DataW.Trod enc P w 0 sp true t v d ps) :
    ∃ x : i.ty.den, i.ty.wf x ∧ AR w (allE w) (fun _ => undef) [] (.lf (.v i.ty x)) v := by
  obtain ⟨n, hn⟩ := h
  have hu := (hT t i hi).under
  obtain ⟨hl, x, hx, hr⟩ := open_any hT hR sp n t _ _ _ hi hn
  have h1 : v.cells = #[v] := by
    obtain ⟨ty, el, offs, szs⟩ := i
    cases ty with
    | pair a b => simp [Ty.isPair] at hp
    | int k => obtain ⟨z, rfl⟩ := okWide_int hu hv; rfl
    | bool => obtain ⟨z, rfl⟩ := okWide_bool hu hv; rfl
    | str => obtain ⟨z, rfl⟩ := okWide_string hu hv; rfl
    | sl e => obtain ⟨a, l, c, rfl⟩ := okWide_slice hu.1 hv; rfl
  rw [h1] at hr
  refine ⟨x, hx, Rep.fz (fun b hb => ⟨hb, rfl⟩) i.ty x (fun j y hj hy => ?_) (hr (.res 0) (fun _ => .top))⟩
  cases j with
  | zero => simpa [at0] using hy
  | succ j => simp at hy

/-- A contract, at the world in which a row begins. -/
theorem Con.row {f : FuncId} {ps : List AV} {x : Bool} (ht : Tabs P w (allE w)) (hc : Con P f ps [.lf (.v .bool x)]) {args : Array Value} (ha : All2 (AR w (allE w) (fun _ => undef) []) ps args.toList) :
    Calls P f args w fun e w' => e = .returned (.bool x) ∧ Below w.heap.size w w' := by
  refine (hc.calls w (allE w) args (fun _ => rfl) (fun b hb => hb) ht ha).mono ?_
  rintro e w' ⟨y, E', rfl, hX, _, _, _, _, hR⟩
  simp only [RR, RCs, RLs, Rep, at0, if_true, Option.some.injEq] at hR
  obtain ⟨⟨rfl, _⟩, _⟩ := hR
  exact ⟨rfl, hX.os, hX.tape, hX.output, hX.size, fun k hk => hX.block k hk rfl⟩
end
end Go.Proofs.Ytgpddckjpokclaa.Vc
