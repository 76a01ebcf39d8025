import Derived.Test.YtihdilnanhjedaaAm58x
import Derived.Orders
set_option linter.unusedVariables false
set_option linter.unusedSimpArgs false
/- Regions that draw their order: what they turn is not what they read. -/
namespace Go.Am.S
open Go Go.Am Go.Proofs
/-- an operation that makes a literal slice -/
def isBS : Op → Bool
  | .buildSlice .. => true
  | _ => false
def isW (P : Program) (op : Op) : Bool := isBS op || isV P op
/-- what an operation does, where a literal slice is a value -/
def sop (P : Program) (ρ : Operand → Value) (h : AH) (o : Oper) : Option ARes :=
  match o.op with
  | .buildSlice t n ps => (fbuild P t n (ps.toList.map fun (i, x) => (i, ρ x))).map fun v => .val v h
  | _ => aop P ρ h o
theorem sop_of {P : Program} {ρ : Operand → Value} {h : AH} {o : Oper} (hb : isBS o.op = false) : sop P ρ h o = aop P ρ h o := by
  obtain ⟨dst, op, type, pos, after, guard⟩ := o
  cases op <;> first | rfl | cases hb
theorem sop_congr {P : Program} {ρ ρ' : Operand → Value} {h : AH} (o : Oper) (hρ : ∀ x ∈ o.op.operands, ρ x = ρ' x) : sop P ρ h o = sop P ρ' h o := by
  cases hb : isBS o.op with
  | false => rw [sop_of hb, sop_of hb]; exact aop_congr o hρ
  | true =>
    obtain ⟨dst, op, type, pos, after, guard⟩ := o
    cases op <;> simp only [isBS] at hb <;> (try (cases hb; done))
    rename_i t n ps
    have e : (ps.toList.map fun (i, x) => (i, ρ x)) = (ps.toList.map fun (i, x) => (i, ρ' x)) := List.map_congr_left fun p hm => by
      obtain ⟨i, x⟩ := p
      have h1 : ρ x = ρ' x := hρ x (by
        simp only [Op.operands, Array.toList_map, List.mem_toArray, List.mem_map, Array.mem_map]
        first | exact ⟨(i, x), hm, rfl⟩ | exact ⟨(i, x), by simpa using hm, rfl⟩)
      show (i, ρ x) = (i, ρ' x)
      rw [h1]
    show (fbuild P t n _).map _ = (fbuild P t n _).map _
    rw [e]
theorem sop_aput {P : Program} {ops : Array Oper} {a : Array Value} {h : AH} (o : Oper) (dst : Option Tmp) (v : Value) (hd : ∀ d, dst = some d → d ∉ o.looksAt ops) : sop P (aeval P (aput a dst v)) h o = sop P (aeval P a) h o :=
  sop_congr o fun x hx => aeval_aput fun d hd' hxd => hd d hd' (by
    subst hxd
    exact List.mem_append_left _ (List.mem_filterMap.2 ⟨.tmp d, by simpa using hx, rfl⟩))

/-! ### a region, in whatever order -/
/-- Does this operation leave alone what was there, as far as the operations behind it read it? -/
def leaves (H0 : AH) (rest : List Oper) (o : Oper) (h1 : AH) : Prop := Pres H0 h1


/-- operations in the order of the text, such that any order that their edges allow comes to the same -/
def awd (P : Program) (ops : Array Oper) (H0 : AH) (Q : Exit → Array Value → AH → Prop) : List Oper → Array Value → AH → Prop
  | [], a, h => Q .normal a h
  | o :: rest, a, h =>
    match gval ops a o with
    | some false => awd P ops H0 Q rest (aput a o.dst undef) h
    | some true =>
      if isW P o.op then (match sop P (aeval P a) H0 o with
        | some (.val v _) => awd P ops H0 Q rest (aput a o.dst v) h
        | _ => False)
      else match sop P (aeval P a) h o with
      | some (.val v h1) => leaves H0 rest o h1 ∧ awd P ops H0 Q rest (aput a o.dst v) h1
      | some (.skip h1) => leaves H0 rest o h1 ∧ awd P ops H0 Q rest (aput a o.dst undef) h1
      | some (.enter F args) => ∃ R, ACalls P F args h R ∧ Calm P ops F args h R ∧ ∀ v h1, R v h1 → Pres H0 h1 ∧ awd P ops H0 Q rest (aput a o.dst v) h1
      | _ => False
    | none => False

/-- may these two (x ahead of i in the text) be carried out in either order? -/
def swapOk (P : Program) (ops : Array Oper) (x i : Oper) : Bool :=
  x.apart ops i && ((isW P x.op || isW P i.op) ||
    (isAlloc i.op && i.guard.isNone && isFn P x.op && hasAlloc ops))

theorem aop_at {P : Program} {ops : Array Oper} {a : Array Value} {h : AH} {x i : Oper} (hap : x.apart ops i = true) (v : Value) : sop P (aeval P (aput a x.dst v)) h i = sop P (aeval P a) h i :=
  sop_aput (ops := ops) i x.dst v (Oper.apart_spec hap).1
theorem aop_at' {P : Program} {ops : Array Oper} {a : Array Value} {h : AH} {x i : Oper} (hap : x.apart ops i = true) (v : Value) : sop P (aeval P (aput a i.dst v)) h x = sop P (aeval P a) h x :=
  sop_aput (ops := ops) x i.dst v (Oper.apart_spec hap).2.2
theorem gval_at {ops : Array Oper} {a : Array Value} {x i : Oper} (hap : x.apart ops i = true) (v : Value) : gval ops (aput a x.dst v) i = gval ops a i := gval_aput i x.dst v (Oper.apart_spec hap).1
theorem gval_at' {ops : Array Oper} {a : Array Value} {x i : Oper} (hap : x.apart ops i = true) (v : Value) : gval ops (aput a i.dst v) x = gval ops a x := gval_aput x i.dst v (Oper.apart_spec hap).2.2
theorem aput_at {ops : Array Oper} {a : Array Value} {x i : Oper} (hap : x.apart ops i = true) (v u : Value) : aput (aput a x.dst v) i.dst u = aput (aput a i.dst u) x.dst v := aput_comm a v u (Oper.apart_spec hap).2.1

/-- what one operation does to the frame and the heap, in such a region; 'K' for what follows -/
def awd1 (P : Program) (ops : Array Oper) (H0 : AH) (rest : List Oper) (K : Array Value → AH → Prop) (o : Oper) (a : Array Value) (h : AH) : Prop :=
    match gval ops a o with
    | some false => K (aput a o.dst undef) h
    | some true =>
      if isW P o.op then (match sop P (aeval P a) H0 o with
        | some (.val v _) => K (aput a o.dst v) h
        | _ => False)
      else match sop P (aeval P a) h o with
      | some (.val v h1) => leaves H0 rest o h1 ∧ K (aput a o.dst v) h1
      | some (.skip h1) => leaves H0 rest o h1 ∧ K (aput a o.dst undef) h1
      | some (.enter F args) => ∃ R, ACalls P F args h R ∧ Calm P ops F args h R ∧ ∀ v h1, R v h1 → Pres H0 h1 ∧ K (aput a o.dst v) h1
      | _ => False
    | none => False

theorem awd_cons {P : Program} {ops : Array Oper} {H0 : AH} {Q : Exit → Array Value → AH → Prop} {o : Oper} {rest : List Oper} {a : Array Value} {h : AH} : awd P ops H0 Q (o :: rest) a h = awd1 P ops H0 rest (awd P ops H0 Q rest) o a h := rfl

theorem awd1_map {P : Program} {ops : Array Oper} {H0 : AH} {rest rest' : List Oper} {K K' : Array Value → AH → Prop} {o : Oper} {a a' : Array Value} {h : AH} (hg : gval ops a' o = gval ops a o) (ha : ∀ h, sop P (aeval P a') h o = sop P (aeval P a) h o)
    (hl : ∀ h1, leaves H0 rest o h1 → leaves H0 rest' o h1) (hk : ∀ v h1, K (aput a o.dst v) h1 → K' (aput a' o.dst v) h1) (H : awd1 P ops H0 rest K o a h) : awd1 P ops H0 rest' K' o a' h := by
  unfold awd1 at H ⊢
  rw [hg, ha H0, ha h]
  split at H
  · exact hk _ _ H
  · split at H
    · rename_i hv
      simp only [hv, if_true]
      split at H
      · exact hk _ _ H
      · exact H.elim
    · rename_i hv
      simp only [hv, Bool.false_eq_true, if_false]
      split at H
      · exact ⟨hl _ H.1, hk _ _ H.2⟩
      · exact ⟨hl _ H.1, hk _ _ H.2⟩
      · obtain ⟨R, hc, hcm, hR⟩ := H
        exact ⟨R, hc, hcm, fun v h1 hr => ⟨(hR v h1 hr).1, hk _ _ (hR v h1 hr).2⟩⟩
      · exact H.elim
  · exact H.elim

theorem awd1_some {P : Program} {ops : Array Oper} {H0 : AH} {rest : List Oper} {K : Array Value → AH → Prop} {o : Oper} {a : Array Value} {h : AH} (H : awd1 P ops H0 rest K o a h) : ∃ v h1, K (aput a o.dst v) h1 := by
  unfold awd1 at H
  split at H
  · exact ⟨_, _, H⟩
  · split at H
    · split at H
      · exact ⟨_, _, H⟩
      · exact H.elim
    · split at H
      · exact ⟨_, _, H.2⟩
      · exact ⟨_, _, H.2⟩
      · obtain ⟨R, hc, _, hR⟩ := H
        obtain ⟨v, h1, hr⟩ := hc.inh
        exact ⟨v, h1, (hR v h1 hr).2⟩
      · exact H.elim
  · exact H.elim

theorem awd1_v {P : Program} {ops : Array Oper} {H0 : AH} {rest : List Oper} {K : Array Value → AH → Prop} {o : Oper} {a : Array Value} {h : AH} (hv : isW P o.op = true) :
    awd1 P ops H0 rest K o a h ↔ (gval ops a o = some false ∧ K (aput a o.dst undef) h) ∨ (gval ops a o = some true ∧ ∃ u h2, sop P (aeval P a) H0 o = some (.val u h2) ∧ K (aput a o.dst u) h) := by
  unfold awd1
  constructor
  · intro H
    split at H
    · rename_i hg; exact .inl ⟨hg, H⟩
    · rename_i hg
      rw [if_pos hv] at H
      split at H
      · rename_i u h2 hu; exact .inr ⟨hg, u, h2, hu, H⟩
      · exact H.elim
    · exact H.elim
  · rintro (⟨hg, hk⟩ | ⟨hg, u, h2, hu, hk⟩)
    · rw [hg]; exact hk
    · rw [hg]
      simp only [hv, if_true, hu]
      exact hk

theorem swap_v_any {P : Program} {ops : Array Oper} {H0 : AH} {K : Array Value → AH → Prop} {x i : Oper} {l : List Oper} {a : Array Value} {h : AH} (hap : x.apart ops i = true) (hi : isW P i.op = true)
    (H : awd1 P ops H0 (i :: l) (awd1 P ops H0 l K i) x a h) : awd1 P ops H0 (x :: l) (awd1 P ops H0 l K x) i a h := by
  have hlv : ∀ h1, leaves H0 (i :: l) x h1 → leaves H0 l x h1 := fun h1 hl => hl
  rw [awd1_v hi]
  obtain ⟨v0, h10, hw0⟩ := awd1_some H
  rw [awd1_v hi, gval_at hap, aop_at hap] at hw0
  rcases hw0 with ⟨hg, _⟩ | ⟨hg, u, h2, hu, _⟩
  · refine .inl ⟨hg, awd1_map (gval_at' hap _) (fun _ => aop_at' hap _) hlv (fun v h1 hk => ?_) H⟩
    rw [awd1_v hi, gval_at hap, aop_at hap] at hk
    rcases hk with ⟨_, hk⟩ | ⟨hg2, _⟩
    · rw [← aput_at hap]; exact hk
    · rw [hg] at hg2; cases hg2
  · refine .inr ⟨hg, u, h2, hu, awd1_map (gval_at' hap _) (fun _ => aop_at' hap _) hlv (fun v h1 hk => ?_) H⟩
    rw [awd1_v hi, gval_at hap, aop_at hap] at hk
    rcases hk with ⟨hg2, _⟩ | ⟨_, u2, h3, hu2, hk⟩
    · rw [hg] at hg2; cases hg2
    · rw [hu] at hu2; cases hu2; rw [← aput_at hap]; exact hk

theorem swap_any_v {P : Program} {ops : Array Oper} {H0 : AH} {K : Array Value → AH → Prop} {x i : Oper} {l : List Oper} {a : Array Value} {h : AH} (hap : x.apart ops i = true) (hx : isW P x.op = true)
    (H : awd1 P ops H0 (i :: l) (awd1 P ops H0 l K i) x a h) : awd1 P ops H0 (x :: l) (awd1 P ops H0 l K x) i a h := by
  have hlv : ∀ h1, leaves H0 l i h1 → leaves H0 (x :: l) i h1 := fun h1 hl => hl
  rw [awd1_v hx] at H
  rcases H with ⟨hg, H2⟩ | ⟨hg, u, h2, hu, H2⟩
  · refine awd1_map (gval_at hap _).symm (fun _ => (aop_at hap _).symm) hlv (fun v h1 hk => ?_) H2
    rw [awd1_v hx, gval_at' hap, aop_at' hap]
    rw [aput_at hap] at hk
    exact .inl ⟨hg, hk⟩
  · refine awd1_map (gval_at hap _).symm (fun _ => (aop_at hap _).symm) hlv (fun v h1 hk => ?_) H2
    rw [awd1_v hx, gval_at' hap, aop_at' hap]
    rw [aput_at hap] at hk
    exact .inr ⟨hg, u, h2, hu, hk⟩

theorem isFn_enter {P : Program} {a : Array Value} {x : Oper} (hf : isFn P x.op = true) : isW P x.op = false ∧ ∃ F args, ∀ h, sop P (aeval P a) h x = some (.enter F args) := by
  obtain ⟨dst, op, type, pos, after, guard⟩ := x
  simp only at hf
  unfold isFn at hf
  split at hf
  · rename_i F args ts
    refine ⟨rfl, F, #[] ++ args.map (aeval P a) ++ #[], fun h => ?_⟩
    show acall P h (.func (.func F) #[] #[]) (args.map (aeval P a)) = _
    simp only [acall, hf, if_true]
  · cases hf
theorem isAlloc_val {P : Program} {a a' : Array Value} {i : Oper} (hi : isAlloc i.op = true) : isW P i.op = false ∧ isWriter i.op = false ∧ (∀ h, sop P (aeval P a') h i = sop P (aeval P a) h i) ∧ ∀ h r, sop P (aeval P a) h i = some r → ∃ v z, r = .val v (h ++ [z]) := by
  obtain ⟨dst, op, type, pos, after, guard⟩ := i
  cases op <;> simp only [isAlloc] at hi <;> (try (cases hi; done))
  refine ⟨rfl, rfl, fun h => rfl, fun h r hr => ?_⟩
  obtain ⟨v, h1, h2, rfl⟩ := avalh_some (show avalh (aalloc P h _) = some r from hr)
  unfold aalloc at h2
  split at h2
  · split at h2
    · split at h2
      · unfold abld at h2
        split at h2
        · cases h2; exact ⟨_, _, rfl⟩
        · cases h2
      split at h2
      · cases h2; exact ⟨_, _, rfl⟩
      · cases h2
    · cases h2
  · cases h2

theorem swap_alloc {P : Program} {ops : Array Oper} {H0 : AH} {K : Array Value → AH → Prop} {x i : Oper} {l : List Oper} {a : Array Value} {h : AH} (hap : x.apart ops i = true) (hi : isAlloc i.op = true) (hg : i.guard.isNone = true) (hx : isFn P x.op = true) (hal : hasAlloc ops = true)
    (H : awd1 P ops H0 (i :: l) (awd1 P ops H0 l K i) x a h) : awd1 P ops H0 (x :: l) (awd1 P ops H0 l K x) i a h := by
  have hgi : ∀ b, gval ops b i = some true := fun b => by
    unfold gval
    cases hh : i.guard with
    | none => rfl
    | some p => rw [hh] at hg; cases hg
  obtain ⟨v1, v2, _, v4⟩ := isAlloc_val (P := P) (a := a) (a' := a) hi
  have inner : ∀ b, awd1 P ops H0 l K i b h → ∃ p z, sop P (aeval P a) h i = some (.val p (h ++ [z])) ∧ leaves H0 l i (h ++ [z]) ∧ K (aput b i.dst p) (h ++ [z]) := by
    intro b hb
    obtain ⟨_, _, w3, _⟩ := isAlloc_val (P := P) (a := a) (a' := b) hi
    unfold awd1 at hb
    rw [hgi, v1] at hb
    simp only [Bool.false_eq_true, if_false, w3] at hb
    split at hb
    · rename_i v h1 hv
      obtain ⟨p, z, e⟩ := v4 h _ hv
      cases e
      exact ⟨_, _, hv, hb.1, hb.2⟩
    · rename_i h1 hv
      obtain ⟨p, z, e⟩ := v4 h _ hv
      cases e
    · rename_i F args hv
      obtain ⟨p, z, e⟩ := v4 h _ hv
      cases e
    · exact hb.elim
  have lift : ∀ z, leaves H0 l i (h ++ [z]) → Pres H0 (h ++ [z]) := fun z hl => hl
  have out : ∀ p z, sop P (aeval P a) h i = some (.val p (h ++ [z])) → leaves H0 l i (h ++ [z]) → awd1 P ops H0 l K x (aput a i.dst p) (h ++ [z]) → awd1 P ops H0 (x :: l) (awd1 P ops H0 l K x) i a h := by
    intro p z e1 e2 e3
    unfold awd1
    rw [hgi, v1]
    simp only [Bool.false_eq_true, if_false, e1]
    exact ⟨lift z e2, e3⟩
  obtain ⟨f1, F, args, f2⟩ := isFn_enter (P := P) (a := a) hx
  unfold awd1 at H
  split at H
  · rename_i hgx
    obtain ⟨p, z, e1, e2, e3⟩ := inner _ H
    refine out p z e1 e2 ?_
    unfold awd1
    rw [gval_at' hap, hgx]
    rw [aput_at hap] at e3
    exact e3
  · rename_i hgx
    rw [f1] at H
    simp only [Bool.false_eq_true, if_false, f2] at H
    obtain ⟨R, hc, hcm, hR⟩ := H
    rcases hcm with hcm | ⟨c1, c2⟩
    · rw [hal] at hcm; cases hcm
    obtain ⟨v0, h0, r0⟩ := hc.inh
    have hR2 : ∀ v, R v h → awd1 P ops H0 l K i (aput a x.dst v) h := fun v hr => (hR v h hr).2
    have r0' : R v0 h := by rw [← c1 v0 h0 r0]; rw [c1 v0 h0 r0]; rw [c1 v0 h0 r0] at r0; exact r0
    obtain ⟨p, z, e1, e2, _⟩ := inner _ (hR2 v0 r0')
    refine out p z e1 e2 ?_
    unfold awd1
    rw [gval_at' hap, hgx, f1]
    simp only [Bool.false_eq_true, if_false]
    have e4 : sop P (aeval P (aput a i.dst p)) (h ++ [z]) x = some (.enter F args) := by rw [aop_at' hap]; exact f2 _
    simp only [e4]
    refine ⟨fun v h1 => R v h ∧ h1 = h ++ [z], c2 [z], .inr ⟨fun v h1 hr => hr.2, fun y => ?_⟩, fun v h1 hr => ?_⟩
    · have := c2 ([z] ++ y)
      rw [← List.append_assoc] at this
      exact this.mono fun v h1 hr => ⟨⟨hr.1, rfl⟩, hr.2⟩
    · obtain ⟨hr1, rfl⟩ := hr
      obtain ⟨p', z', e1', e2', e3'⟩ := inner _ (hR2 v hr1)
      rw [e1] at e1'
      simp only [Option.some.injEq, ARes.val.injEq] at e1'
      obtain ⟨rfl, e6⟩ := e1'
      rw [e6]
      refine ⟨lift _ e2', ?_⟩
      rw [aput_at hap] at e3'
      exact e3'
  · exact H.elim

theorem awd_front {P : Program} {ops : Array Oper} {H0 : AH} {Q : Exit → Array Value → AH → Prop} {i : Oper} {l2 : List Oper} (l1 : List Oper) : ∀ {a : Array Value} {h : AH}, (∀ x ∈ l1, swapOk P ops x i = true) →
    awd P ops H0 Q (l1 ++ i :: l2) a h → awd P ops H0 Q (i :: (l1 ++ l2)) a h := by
  induction l1 with
  | nil => intro a h _ H; exact H
  | cons x r ih =>
    intro a h hs H
    have hx := hs x (by simp)
    simp only [swapOk, Bool.and_eq_true, Bool.not_eq_true', Bool.or_eq_true] at hx
    obtain ⟨h1, hx⟩ := hx
    have H2 : awd1 P ops H0 (i :: (r ++ l2)) (awd1 P ops H0 (r ++ l2) (awd P ops H0 Q (r ++ l2)) i) x a h := by
      have H3 : awd1 P ops H0 (r ++ i :: l2) (awd P ops H0 Q (r ++ i :: l2)) x a h := H
      refine awd1_map rfl (fun _ => rfl) (fun h1 hl => hl) (fun v h1 hk => ?_) H3
      exact ih (fun y hy => hs y (List.mem_cons_of_mem _ hy)) hk
    show awd1 P ops H0 (x :: (r ++ l2)) (awd1 P ops H0 (r ++ l2) (awd P ops H0 Q (r ++ l2)) x) i a h
    rcases hx with h2 | ⟨⟨⟨h2, h3⟩, h4⟩, h5⟩
    · rcases h2 with h2 | h2
      · exact swap_any_v h1 h2 H2
      · exact swap_v_any h1 h2 H2
    · exact swap_alloc h1 h2 h3 h4 h5 H2

/-! ### which orders there are -/
/-- of each operation: those that its edges put ahead of it, as bits -/
def deps (ops : List Oper) : List Nat :=
  ops.foldl (fun tbl o => tbl ++ [o.after.toList.foldl (fun s e => if Region.binds .any e then s ||| 2 ^ e.on ||| tbl.getD e.on 0 else s) 0]) []

/-- i hangs on x -/
inductive Hangs (ops : List Oper) : Nat → Nat → Prop
  | one (i x : Nat) (o : Oper) (e : Edge) (ho : ops[i]? = some o) (he : e ∈ o.after) (hb : Region.binds .any e = true) (hx : e.on = x) : Hangs ops i x
  | more (i j x : Nat) (o : Oper) (e : Edge) (ho : ops[i]? = some o) (he : e ∈ o.after) (hb : Region.binds .any e = true) (hj : e.on = j) (h : Hangs ops j x) : Hangs ops i x

theorem Hangs.append {ops l : List Oper} {i x : Nat} (h : Hangs ops i x) : Hangs (ops ++ l) i x := by
  induction h with
  | one i x o e ho he hb hx => exact .one i x o e (by rw [List.getElem?_append_left (List.getElem?_eq_some_iff.1 ho).1]; exact ho) he hb hx
  | more i j x o e ho he hb hj _ ih => exact .more i j x o e (by rw [List.getElem?_append_left (List.getElem?_eq_some_iff.1 ho).1]; exact ho) he hb hj ih

theorem deps_step (tbl : List Nat) (es : List Edge) : ∀ (s0 : Nat) (x : Nat), (es.foldl (fun s e => if Region.binds .any e then s ||| 2 ^ e.on ||| tbl.getD e.on 0 else s) s0).testBit x = true →
    s0.testBit x = true ∨ ∃ e ∈ es, Region.binds .any e = true ∧ (e.on = x ∨ (tbl.getD e.on 0).testBit x = true) := by
  induction es with
  | nil => intro s0 x h; exact .inl h
  | cons e r ih =>
    intro s0 x h
    simp only [List.foldl_cons] at h
    rcases ih _ _ h with h1 | ⟨e', he', h2⟩
    · split at h1
      · rename_i hb
        simp only [Nat.testBit_or, Bool.or_eq_true] at h1
        rcases h1 with (h1 | h1) | h1
        · exact .inl h1
        · rw [Nat.testBit_two_pow] at h1
          exact .inr ⟨e, by simp, hb, .inl (by simpa using h1)⟩
        · exact .inr ⟨e, by simp, hb, .inr h1⟩
      · exact .inl h1
    · exact .inr ⟨e', List.mem_cons_of_mem _ he', h2⟩

theorem deps_spec (ops : List Oper) : (deps ops).length = ops.length ∧ ∀ i x, ((deps ops).getD i 0).testBit x = true → Hangs ops i x := by
  suffices H : ∀ (l pre : List Oper) (tbl : List Nat), tbl.length = pre.length → (∀ i x, (tbl.getD i 0).testBit x = true → Hangs pre i x) →
      (l.foldl (fun tbl (o : Oper) => tbl ++ [o.after.toList.foldl (fun s e => if Region.binds .any e then s ||| 2 ^ e.on ||| tbl.getD e.on 0 else s) 0]) tbl).length = (pre ++ l).length ∧
      ∀ i x, ((l.foldl (fun tbl (o : Oper) => tbl ++ [o.after.toList.foldl (fun s e => if Region.binds .any e then s ||| 2 ^ e.on ||| tbl.getD e.on 0 else s) 0]) tbl).getD i 0).testBit x = true → Hangs (pre ++ l) i x by
    have := H ops [] [] rfl (fun i x h => by simp at h)
    simp only [List.nil_append] at this
    exact this
  intro l
  induction l with
  | nil => intro pre tbl h1 h2; simpa using ⟨h1, h2⟩
  | cons o r ih =>
    intro pre tbl h1 h2
    simp only [List.foldl_cons]
    have := ih (pre ++ [o]) (tbl ++ [o.after.toList.foldl (fun s e => if Region.binds .any e then s ||| 2 ^ e.on ||| tbl.getD e.on 0 else s) 0]) (by simp [h1]) (fun i x h => by
      by_cases hi : i < tbl.length
      · rw [List.getD_eq_getElem?_getD, List.getElem?_append_left hi, ← List.getD_eq_getElem?_getD] at h
        exact (h2 i x h).append
      · by_cases he : i = tbl.length
        · subst he
          have e1 : (tbl ++ [o.after.toList.foldl (fun s e => if Region.binds .any e then s ||| 2 ^ e.on ||| tbl.getD e.on 0 else s) 0]).getD tbl.length 0 = o.after.toList.foldl (fun s e => if Region.binds .any e then s ||| 2 ^ e.on ||| tbl.getD e.on 0 else s) 0 := by
            simp [List.getD]
          rw [e1] at h
          have ho : (pre ++ [o])[tbl.length]? = some o := by rw [h1]; simp
          rcases deps_step tbl _ _ _ h with h3 | ⟨e, he, hb, h3⟩
          · simp at h3
          · rcases h3 with h3 | h3
            · exact .one _ _ o e ho (by simpa using he) hb h3
            · exact .more _ e.on _ o e ho (by simpa using he) hb rfl (h2 _ _ h3).append
        · have e2 : (tbl ++ [o.after.toList.foldl (fun s e => if Region.binds .any e then s ||| 2 ^ e.on ||| tbl.getD e.on 0 else s) 0])[i]? = none := List.getElem?_eq_none (by simp only [List.length_append, List.length_singleton]; omega)
          rw [List.getD_eq_getElem?_getD, e2] at h
          simp at h)
    simpa only [List.append_assoc, List.singleton_append] using this

/-- May the region be read in the order of its text, whatever order is drawn? -/
def okDraw (P : Program) (ops : List Oper) : Bool :=
  let d := deps ops
  (ops.zipIdx.all fun (o, i) => o.after.all fun e => !Region.binds .any e || decide (e.on < i)) &&
  ops.zipIdx.all fun (o, i) => ops.zipIdx.all fun (x, j) => !decide (j < i) || (d.getD i 0).testBit j || swapOk P ops.toArray x o

theorem okDraw_back {P : Program} {ops : List Oper} (h : okDraw P ops = true) {i : Nat} {o : Oper} (ho : ops[i]? = some o) {e : Edge} (he : e ∈ o.after) (hb : Region.binds .any e = true) : e.on < i := by
  simp only [okDraw, Bool.and_eq_true, List.all_eq_true] at h
  have := h.1 (o, i) (by rw [List.mem_zipIdx_iff_getElem?]; exact ho)
  simp only [Array.all_eq_true_iff_forall_mem, Bool.or_eq_true, Bool.not_eq_true', decide_eq_true_eq] at this
  rcases this e he with h1 | h1
  · rw [hb] at h1; cases h1
  · exact h1

theorem okDraw_swap {P : Program} {ops : List Oper} (h : okDraw P ops = true) {i j : Nat} {o x : Oper} (ho : ops[i]? = some o) (hx : ops[j]? = some x) (hlt : j < i) : Hangs ops i j ∨ swapOk P ops.toArray x o = true := by
  simp only [okDraw, Bool.and_eq_true, List.all_eq_true] at h
  have := h.2 (o, i) (by rw [List.mem_zipIdx_iff_getElem?]; exact ho) (x, j) (by rw [List.mem_zipIdx_iff_getElem?]; exact hx)
  simp only [Bool.or_eq_true, Bool.not_eq_true', decide_eq_false_iff_not] at this
  rcases this with (h1 | h1) | h1
  · exact absurd hlt h1
  · exact .inl ((deps_spec ops).2 i j h1)
  · exact .inr h1

/-- listed numbers are closed under what they hang on -/
def Closed (ops : List Oper) (listed : Array Bool) : Prop := ∀ i o e, ops[i]? = some o → listed.getD i false = true → e ∈ o.after → Region.binds .any e = true → listed.getD e.on false = true

theorem Closed.hangs {ops : List Oper} {listed : Array Bool} (hc : Closed ops listed) {i x : Nat} (h : Hangs ops i x) : listed.getD i false = true → listed.getD x false = true := by
  induction h with
  | one i x o e ho he hb hx => intro hl; rw [← hx]; exact hc i o e ho hl he hb
  | more i j x o e ho he hb hj _ ih => intro hl; exact ih (by rw [← hj]; exact hc i o e ho hl he hb)

theorem ready_hangs {ops : List Oper} {listed : Array Bool} (hc : Closed ops listed) {i x : Nat} (hr : i ∈ Region.ready .any ops.toArray listed) (h : Hangs ops i x) : listed.getD x false = true := by
  rw [mem_ready] at hr
  obtain ⟨_, o, ho, hall⟩ := hr
  cases h with
  | one _ _ o' e ho' he hb hx =>
    rw [List.getElem?_toArray] at ho
    rw [ho] at ho'; cases ho'
    rw [← hx]; exact hall e he hb
  | more _ j _ o' e ho' he hb hj h2 =>
    rw [List.getElem?_toArray] at ho
    rw [ho] at ho'; cases ho'
    exact hc.hangs h2 (by rw [← hj]; exact hall e he hb)

/-- the operations that are still to come, in the order of the text -/
def left (listed : Array Bool) (l : List (Oper × Nat)) : List Oper := (l.filter fun p => !listed.getD p.2 false).map (·.1)

theorem left_true {listed : Array Bool} {x : Oper} {j : Nat} {r : List (Oper × Nat)} (h : listed.getD j false = true) : left listed ((x, j) :: r) = left listed r := by
  unfold left
  rw [List.filter_cons]
  simp only [h, Bool.not_true, Bool.false_eq_true, if_false]
theorem left_false {listed : Array Bool} {x : Oper} {j : Nat} {r : List (Oper × Nat)} (h : listed.getD j false = false) : left listed ((x, j) :: r) = x :: left listed r := by
  unfold left
  rw [List.filter_cons]
  simp only [h, Bool.not_false, if_true, List.map_cons]

theorem left_split {listed : Array Bool} {i : Nat} {o : Oper} (l : List (Oper × Nat)) (hn : ∀ p ∈ l, ∀ q ∈ l, p.2 = q.2 → p = q) (hnd : (l.map (·.2)).Nodup) (hm : (o, i) ∈ l) (hi : listed.getD i false = false) (hs : i < listed.size) :
    ∃ l1 l2, left listed l = l1 ++ o :: l2 ∧ left (listed.setIfInBounds i true) l = l1 ++ l2 ∧ ∀ x ∈ l1, ∃ j, (x, j) ∈ l.takeWhile (fun p => p.2 != i) ∧ listed.getD j false = false := by
  induction l with
  | nil => simp at hm
  | cons p r ih =>
    simp only [List.map_cons, List.nodup_cons] at hnd
    obtain ⟨x, j⟩ := p
    have hset : ∀ k, k ≠ i → (listed.setIfInBounds i true).getD k false = listed.getD k false := fun k hk => getD_set_ne false (fun e => hk e.symm)
    have hself : (listed.setIfInBounds i true).getD i false = true := by simp [hs]
    by_cases hj : j = i
    · subst hj
      have hxo : x = o := by
        have := hn (x, j) (by simp) (o, j) hm rfl
        cases this; rfl
      subst hxo
      refine ⟨[], left listed r, left_false hi, ?_, by simp⟩
      have : ∀ q ∈ r, q.2 ≠ j := fun q hq e => hnd.1 (List.mem_map.2 ⟨q, hq, e⟩)
      rw [left_true hself, List.nil_append]
      unfold left
      congr 1
      apply List.filter_congr
      intro q hq
      rw [hset q.2 (this q hq)]
    · have hm' : (o, i) ∈ r := by
        rcases List.mem_cons.1 hm with h | h
        · cases h; exact absurd rfl hj
        · exact h
      obtain ⟨l1, l2, h1, h2, h3⟩ := ih (fun p hp q hq => hn p (List.mem_cons_of_mem _ hp) q (List.mem_cons_of_mem _ hq)) hnd.2 hm'
      have htw : List.takeWhile (fun p : Oper × Nat => p.2 != i) ((x, j) :: r) = (x, j) :: r.takeWhile (fun p => p.2 != i) := by
        simp [List.takeWhile_cons, hj]
      cases hl : listed.getD j false with
      | true =>
        refine ⟨l1, l2, by rw [left_true hl]; exact h1, by rw [left_true ((hset j hj).trans hl)]; exact h2, fun y hy => ?_⟩
        obtain ⟨k, hk, hk2⟩ := h3 y hy
        exact ⟨k, by rw [htw]; exact List.mem_cons_of_mem _ hk, hk2⟩
      | false =>
        refine ⟨x :: l1, l2, by rw [left_false hl, h1]; rfl, by rw [left_false ((hset j hj).trans hl), h2]; rfl, fun y hy => ?_⟩
        rcases List.mem_cons.1 hy with rfl | hy
        · exact ⟨j, by rw [htw]; simp, hl⟩
        · obtain ⟨k, hk, hk2⟩ := h3 y hy
          exact ⟨k, by rw [htw]; exact List.mem_cons_of_mem _ hk, hk2⟩

theorem zipIdx_nodup (l : List Oper) : ∀ k, ((l.zipIdx k).map (·.2)).Nodup ∧ ∀ p ∈ l.zipIdx k, k ≤ p.2 := by
  induction l with
  | nil => intro k; simp
  | cons o r ih =>
    intro k
    obtain ⟨h1, h2⟩ := ih (k + 1)
    simp only [List.zipIdx_cons, List.map_cons, List.nodup_cons, List.mem_map, List.mem_cons]
    refine ⟨⟨?_, h1⟩, ?_⟩
    · rintro ⟨q, hq, e⟩
      have := h2 q hq
      omega
    · rintro p (rfl | hp)
      · exact Nat.le_refl _
      · have := h2 p hp; omega

theorem mem_takeWhile_lt (l : List Oper) (i : Nat) : ∀ k, ∀ p ∈ (l.zipIdx k).takeWhile (fun p => p.2 != i), k ≤ i → p.2 < i ∧ p ∈ l.zipIdx k := by
  induction l with
  | nil => intro k p hp; simp at hp
  | cons o r ih =>
    intro k p hp hk
    rw [List.zipIdx_cons, List.takeWhile_cons] at hp
    by_cases he : k = i
    · subst he; simp at hp
    · have hb : ((o, k).2 != i) = true := by simpa using he
      rw [hb] at hp
      simp only [if_true, List.mem_cons] at hp
      rcases hp with rfl | hp
      · exact ⟨by simp only; omega, by simp⟩
      · obtain ⟨h1, h2⟩ := ih (k + 1) p hp (by omega)
        exact ⟨h1, by rw [List.zipIdx_cons]; exact List.mem_cons_of_mem _ h2⟩

/-- from a state in which some are listed: whatever is ready may go next -/
theorem awd_any {P : Program} {ops : List Oper} {H0 : AH} {Q : Exit → Array Value → AH → Prop} {f0 : Emb} {h0 : AH} {w0 : World} (hok : okDraw P ops = true) (ro : Option Nat) : ∀ (fuel : Nat) (listed : Array Bool) (f : Emb) (a : Array Value) (h : AH) (a' : Act) (w : World),
    listed.size = ops.length → Closed ops listed → (left listed ops.zipIdx).length ≤ fuel → (∀ x ∈ left listed ops.zipIdx, isLoad x.op = true → Pres H0 h ∨ ∃ t, softOf t x.op = true ∧ SoftT P t H0 h) → awd P ops.toArray H0 Q (left listed ops.zipIdx) a h →
    Good P f0 h0 w0 f a h a' w → wpAnyIn (fenceR ro) 0 P .any ops.toArray (Lift P f0 h0 w0 Q) fuel listed a' w := by
  have hnd := zipIdx_nodup ops 0
  have hinj : ∀ p ∈ ops.zipIdx, ∀ q ∈ ops.zipIdx, p.2 = q.2 → p = q := by
    intro p hp q hq e
    rw [List.mem_zipIdx_iff_getElem?] at hp hq
    rw [e, hq] at hp
    obtain ⟨p1, p2⟩ := p
    obtain ⟨q1, q2⟩ := q
    simp only at e hp
    cases e
    cases hp
    rfl
  -- nothing ready: nothing left
  have done : ∀ (listed : Array Bool), listed.size = ops.length → Closed ops listed → Region.ready .any ops.toArray listed = [] → left listed ops.zipIdx = [] := by
    intro listed hsz hcl hr
    by_cases hx : ∃ i, i < ops.length ∧ listed.getD i false = false
    · exfalso
      obtain ⟨i, hi, hl⟩ := hx
      induction i using Nat.strongRecOn with
      | _ i ih =>
        have : i ∈ Region.ready .any ops.toArray listed ∨ ∃ j, j < i ∧ listed.getD j false = false := by
          by_cases hex : ∃ j, j < i ∧ listed.getD j false = false
          · exact .inr hex
          · left
            rw [mem_ready]
            refine ⟨?_, ops[i], by simp, fun e he hb => ?_⟩
            · have : i < listed.size := by omega
              simp only [Array.getD, this, dite_true] at hl ⊢
              exact hl
            · have hlt := okDraw_back hok (List.getElem?_eq_getElem hi) he hb
              cases hle : listed.getD e.on false with
              | true => rfl
              | false => exact absurd ⟨e.on, hlt, hle⟩ hex
        rcases this with h1 | ⟨j, hj, hjl⟩
        · rw [hr] at h1; cases h1
        · exact ih j hj (by omega) hjl
    · unfold left
      rw [List.map_eq_nil_iff, List.filter_eq_nil_iff]
      rintro ⟨o, i⟩ hm
      rw [List.mem_zipIdx_iff_getElem?] at hm
      have hi := (List.getElem?_eq_some_iff.1 hm).1
      cases hl : listed.getD i false with
      | true => simp [hl]
      | false => exact absurd ⟨i, hi, hl⟩ hx
  -- one of them goes
  have go : ∀ (fuel : Nat), (∀ (listed : Array Bool) (f : Emb) (a : Array Value) (h : AH) (a' : Act) (w : World),
      listed.size = ops.length → Closed ops listed → (left listed ops.zipIdx).length ≤ fuel → (∀ x ∈ left listed ops.zipIdx, isLoad x.op = true → Pres H0 h ∨ ∃ t, softOf t x.op = true ∧ SoftT P t H0 h) → awd P ops.toArray H0 Q (left listed ops.zipIdx) a h →
      Good P f0 h0 w0 f a h a' w → wpAnyIn (fenceR ro) 0 P .any ops.toArray (Lift P f0 h0 w0 Q) fuel listed a' w) →
      ∀ (listed : Array Bool) (f : Emb) (a : Array Value) (h : AH) (a' : Act) (w : World),
      listed.size = ops.length → Closed ops listed → (left listed ops.zipIdx).length ≤ fuel + 1 → (∀ x ∈ left listed ops.zipIdx, isLoad x.op = true → Pres H0 h ∨ ∃ t, softOf t x.op = true ∧ SoftT P t H0 h) → awd P ops.toArray H0 Q (left listed ops.zipIdx) a h →
      Good P f0 h0 w0 f a h a' w → ∀ i ∈ Region.ready .any ops.toArray listed, wpOpIn (fenceR ro) 0 P ops.toArray (Lift P f0 h0 w0 Q) i (wpAnyIn (fenceR ro) 0 P .any ops.toArray (Lift P f0 h0 w0 Q) fuel (listed.setIfInBounds i true)) a' w := by
    intro fuel ih listed f a h a' w hsz hcl hlen hpres H g i hi
    have hi0 := hi
    rw [mem_ready] at hi0
    obtain ⟨hun, o, ho, hall⟩ := hi0
    have ho' : ops[i]? = some o := by simpa using ho
    have hlt : i < ops.length := (List.getElem?_eq_some_iff.1 ho').1
    have hun' : listed.getD i false = false := by
      have : i < listed.size := by omega
      simp only [Array.getD, this, dite_true] at hun ⊢
      exact hun
    obtain ⟨l1, l2, e1, e2, e3⟩ := left_split (listed := listed) (i := i) (o := o) ops.zipIdx hinj hnd.1 (by rw [List.mem_zipIdx_iff_getElem?]; exact ho') hun' (by omega)
    have hsw : ∀ x ∈ l1, swapOk P ops.toArray x o = true := by
      intro x hx
      obtain ⟨j, hj, hjl⟩ := e3 x hx
      obtain ⟨hji, hm⟩ := mem_takeWhile_lt ops i 0 _ hj (Nat.zero_le _)
      rw [List.mem_zipIdx_iff_getElem?] at hm
      rcases okDraw_swap hok ho' hm hji with hh | hh
      · have := ready_hangs hcl hi hh
        rw [hjl] at this; cases this
      · exact hh
    rw [e1] at H hpres hlen
    have H2 := awd_front l1 hsw H
    rw [awd_cons] at H2
    have hcl2 : Closed ops (listed.setIfInBounds i true) := by
      intro k ok e hk hkl he hb
      by_cases hki : k = i
      · subst hki
        rw [ho'] at hk; cases hk
        exact getD_set_true (hall e he hb)
      · rw [getD_set_ne false (fun e => hki e.symm)] at hkl
        exact getD_set_true (hcl k ok e hk hkl he hb)
    have hlen2 : (left (listed.setIfInBounds i true) ops.zipIdx).length ≤ fuel := by
      rw [e2]; simp at hlen ⊢; omega
    have hsub : ∀ x ∈ l1 ++ l2, x ∈ l1 ++ o :: l2 := fun x hx => (by
      simp only [List.mem_append, List.mem_cons] at hx ⊢
      rcases hx with hx | hx
      · exact .inl hx
      · exact .inr (.inr hx))
    have next : ∀ (f1 : Emb) (b : Array Value) (h1 : AH) (b' : Act) (w1 : World), (∀ x ∈ l1 ++ l2, isLoad x.op = true → Pres H0 h1 ∨ ∃ t, softOf t x.op = true ∧ SoftT P t H0 h1) → awd P ops.toArray H0 Q (l1 ++ l2) b h1 → Good P f0 h0 w0 f1 b h1 b' w1 →
        wpAnyIn (fenceR ro) 0 P .any ops.toArray (Lift P f0 h0 w0 Q) fuel (listed.setIfInBounds i true) b' w1 := fun f1 b h1 b' w1 hp hk g1 =>
      ih _ f1 b h1 b' w1 (by simpa using hsz) hcl2 hlen2 (by rw [e2]; exact hp) (by rw [e2]; exact hk) g1
    unfold wpOpIn
    simp only [ho]
    unfold awd1 at H2
    split at H2
    · rename_i hg
      rw [if_neg (by simp [gval_wanted g.tm hg])]
      exact ⟨fun _ _ => trivial, next f _ h _ w (fun x hx => hpres x (hsub x hx)) H2 (g.step (Step.refl g.sim) (g.tm.aput o.dst undef_rel) (put_defers _ _ _))⟩
    · rename_i hg
      rw [if_pos (gval_wanted g.tm hg)]
      split at H2
      · rename_i hv
        split at H2
        · rename_i v h2 hval
          cases hbs : isBS o.op with
          | true =>
            obtain ⟨dst, op, type, pos, after, guard⟩ := o
            cases op <;> simp only [isBS] at hbs <;> (try (cases hbs; done))
            rename_i t n ps
            change (fbuild P t n (ps.toList.map fun (i, x) => (i, aeval P a x))).map _ = _ at hval
            cases hfb : fbuild P t n (ps.toList.map fun (i, x) => (i, aeval P a x)) with
            | none => rw [hfb] at hval; cases hval
            | some v1 =>
              rw [hfb] at hval
              cases hval
              obtain ⟨hn, c, es, rfl, hb1, hb2⟩ := fbuild_spec hfb
              obtain ⟨c0, hc⟩ := hb2 f h.length _ (prel_map (fun x => aeval_rel g.sim g.tm x) ps.toList)
              have hr : aop P (aeval P a) h ⟨dst, .buildSlice t n ps, type, pos, after, guard⟩ = some (.val (.slice (some ⟨h.length, 0, none⟩) n n) (h ++ [.cells c es true])) := by
                show avalh (abuildSlice P h t n _) = _
                rw [hb1 h]; rfl
              exact lit_wp g _ hr hn hc (fun f1 b' w1 g1 => next f1 _ h b' w1 (fun x hx => hpres x (hsub x hx)) H2 g1) ro
          | false =>
          have hvv : isV P o.op = true := by simpa [isW, hbs] using hv
          rw [sop_of hbs] at hval
          have hval2 : aop P (aeval P a) h o = some (.val v h) := by
            obtain ⟨u, hu⟩ := isV_val hvv hval
            cases hu
            cases hl : isLoad o.op with
            | false => exact vop_pure hvv hl hval
            | true =>
              rcases hpres o (by simp) hl with hp | ⟨t, hs, hp⟩
              · exact vop_load hp hl hval
              · exact vop_soft hp hs hval
          exact oper_wp g o hval2 (fun f1 b' w1 g1 => next f1 _ h b' w1 (fun x hx => hpres x (hsub x hx)) H2 g1) ro
        · exact H2.elim
      · rename_i hv
        have hbs : isBS o.op = false := by
          cases hb : isBS o.op with
          | false => rfl
          | true => simp [isW, hb] at hv
        rw [sop_of hbs] at H2
        have hlv : ∀ h1, (∀ t, isEntry t o.op = true → SoftT P t h h1) → leaves H0 (l1 ++ l2) o h1 → (∀ x ∈ l1 ++ l2, isLoad x.op = true → Pres H0 h1 ∨ ∃ t, softOf t x.op = true ∧ SoftT P t H0 h1) := fun h1 hent hl => by
          intro x hx hlx
          exact .inl hl
        have hent : ∀ (v : Value) (h1 : AH), aop P (aeval P a) h o = some (.val v h1) → ∀ t, isEntry t o.op = true → SoftT P t h h1 := by
          intro v h1 hval t ht
          obtain ⟨dst, op, type, pos, after, guard⟩ := o
          cases op <;> simp only [isEntry] at ht <;> (try (cases ht; done))
          simp only [beq_iff_eq] at ht
          subst ht
          obtain ⟨v2, h2, h3, h4⟩ := avalh_some (show avalh (amEntry P h _ _ _) = _ from hval)
          cases h4
          exact soft_entry g.sim.ok h3
        split at H2
        · rename_i v h1 hval
          exact oper_wp g o hval (fun f1 b' w1 g1 => next f1 _ h1 b' w1 (hlv h1 (hent v h1 hval) H2.1) H2.2 g1) ro
        · rename_i h1 hval
          refine oper_wp g o hval (fun f1 b' w1 g1 => next f1 _ h1 b' w1 (hlv h1 (fun t ht => ?_) H2.1) H2.2 g1) ro
          exfalso
          obtain ⟨dst, op, type, pos, after, guard⟩ := o
          cases op <;> simp only [isEntry] at ht <;> (try (cases ht; done))
          obtain ⟨v2, h2, h3, h4⟩ := avalh_some (show avalh (amEntry P h _ _ _) = _ from hval)
          cases h4
        · rename_i F args hval
          obtain ⟨R, hc, _, hR⟩ := H2
          exact oper_wp g o hval ⟨R, hc, fun v h1 hr f1 b' w1 g1 => next f1 _ h1 b' w1 (fun x hx _ => .inl (hR v h1 hr).1) (hR v h1 hr).2 g1⟩ ro
        · exact H2.elim
    · exact H2.elim
  intro fuel
  induction fuel with
  | zero =>
    intro listed f a h a' w hsz hcl hlen hpres H g
    have : left listed ops.zipIdx = [] := List.length_eq_zero_iff.1 (by omega)
    have hr : Region.ready .any ops.toArray listed = [] := by
      cases hr : Region.ready .any ops.toArray listed with
      | nil => rfl
      | cons i r =>
        have hi : i ∈ Region.ready .any ops.toArray listed := by rw [hr]; simp
        rw [mem_ready] at hi
        obtain ⟨hun, o, ho, _⟩ := hi
        have ho' : ops[i]? = some o := by simpa using ho
        have hlt : i < ops.length := (List.getElem?_eq_some_iff.1 ho').1
        have hun' : listed.getD i false = false := by
          have : i < listed.size := by omega
          simp only [Array.getD, this, dite_true] at hun ⊢
          exact hun
        obtain ⟨l1, l2, e1, _⟩ := left_split (listed := listed) (i := i) (o := o) ops.zipIdx hinj hnd.1 (by rw [List.mem_zipIdx_iff_getElem?]; exact ho') hun' (by omega)
        rw [this] at e1
        simp at e1
    rw [this] at H
    exact ⟨hr, ⟨f, a, h, H, g⟩⟩
  | succ fuel ih =>
    intro listed f a h a' w hsz hcl hlen hpres H g
    refine ⟨fun hr => ?_, go fuel ih listed f a h a' w hsz hcl hlen hpres H g⟩
    rw [done listed hsz hcl hr] at H
    exact ⟨f, a, h, H, g⟩

theorem AWP.drawS {P : Program} {h0 : AH} {id : Nat} {l : List Oper} {Q : Exit → Array Value → AH → Prop} {a : Array Value} {h : AH} (HS : AH) (hS : Pres HS h) (hm : P.follows .mixedOrders = true) (hok : okDraw P l = true) (ha : awd P l.toArray HS Q l a h) :
    AWP P h0 (.region id l.toArray true) Q a h := by
  intro f0 w0 f a' w s0 g ro hrb
  refine wpIn_region_any hm ?_
  have hl : left (Array.replicate l.length false) l.zipIdx = l := by
    have : ∀ (r : List Oper) (k : Nat), left (Array.replicate l.length false) (r.zipIdx k) = r := by
      intro r
      induction r with
      | nil => intro k; rfl
      | cons x r ih =>
        intro k
        rw [List.zipIdx_cons, left_false (by simp only [Array.getD_eq_getD_getElem?, Array.getElem?_replicate]; split <;> rfl), ih]
    exact this l 0
  have := awd_any (H0 := HS) (Q := Q) (f0 := f0) (h0 := h0) (w0 := w0) hok ro l.length (Array.replicate l.length false) f a h a' w.drew (by simp) (fun i o e _ hl _ _ => by
    exfalso
    simp only [Array.getD_eq_getD_getElem?, Array.getElem?_replicate] at hl
    split at hl <;> cases hl) (by rw [hl]; exact Nat.le_refl _) (fun x _ _ => .inl hS) (by rw [hl]; exact ha) (g.step (Step.drew g.sim) g.tm rfl)
  simpa using this
section
variable {P : Program} {ops : Array Oper} {Q : Exit → Array Value → AH → Prop} {rest : List Oper} {a : Array Value} {h H0 h0 : AH} {dst : Option Tmp} {ty : TypeId} {pos : String} {after : Array Edge}
/-- what follows an operation, in a region that draws -/
def dstep (P : Program) (ops : Array Oper) (H0 : AH) (Q : Exit → Array Value → AH → Prop) (rest : List Oper) (o : Oper) (a : Array Value) (h : AH) : Option ARes → Prop
  | some (.val v h1) => leaves H0 rest o h1 ∧ awd P ops H0 Q rest (aput a o.dst v) h1
  | some (.skip h1) => leaves H0 rest o h1 ∧ awd P ops H0 Q rest (aput a o.dst undef) h1
  | some (.enter F args) => ∃ R, ACalls P F args h R ∧ Calm P ops F args h R ∧ ∀ v h1, R v h1 → Pres H0 h1 ∧ awd P ops H0 Q rest (aput a o.dst v) h1
  | _ => False
def dvstep (P : Program) (ops : Array Oper) (H0 : AH) (Q : Exit → Array Value → AH → Prop) (rest : List Oper) (dst : Option Tmp) (a : Array Value) (h : AH) : Option ARes → Prop
  | some (.val v _) => awd P ops H0 Q rest (aput a dst v) h
  | _ => False
def dgate (P : Program) (ops : Array Oper) (H0 : AH) (Q : Exit → Array Value → AH → Prop) (rest : List Oper) (o : Oper) (a : Array Value) (h : AH) : Option Bool → Prop
  | some false => awd P ops H0 Q rest (aput a o.dst undef) h
  | some true => bif isW P o.op then dvstep P ops H0 Q rest o.dst a h (sop P (aeval P a) H0 o) else dstep P ops H0 Q rest o a h (sop P (aeval P a) h o)
  | none => False
theorem awd_nil : awd P ops H0 Q [] a h = Q .normal a h := rfl
theorem awd_gate {o : Oper} : awd P ops H0 Q (o :: rest) a h = dgate P ops H0 Q rest o a h (gval ops a o) := by
  simp only [awd]
  unfold dgate dvstep dstep
  cases gval ops a o with
  | none => rfl
  | some b =>
    cases b with
    | false => rfl
    | true =>
      simp only []
      cases hv : isW P o.op <;> simp only [cond_true, cond_false, if_true, if_false, Bool.false_eq_true] <;> rfl
theorem dgate_false {o : Oper} : dgate P ops H0 Q rest o a h (some false) = awd P ops H0 Q rest (aput a o.dst undef) h := rfl
theorem dgate_true {o : Oper} : dgate P ops H0 Q rest o a h (some true) = bif isW P o.op then dvstep P ops H0 Q rest o.dst a h (sop P (aeval P a) H0 o) else dstep P ops H0 Q rest o a h (sop P (aeval P a) h o) := rfl
theorem dvstep_val {v : Value} {h1 : AH} : dvstep P ops H0 Q rest dst a h (some (.val v h1)) = awd P ops H0 Q rest (aput a dst v) h := rfl
theorem dstep_val {o : Oper} {v : Value} {h1 : AH} : dstep P ops H0 Q rest o a h (some (.val v h1)) = (leaves H0 rest o h1 ∧ awd P ops H0 Q rest (aput a o.dst v) h1) := rfl
theorem dstep_skip {o : Oper} {h1 : AH} : dstep P ops H0 Q rest o a h (some (.skip h1)) = (leaves H0 rest o h1 ∧ awd P ops H0 Q rest (aput a o.dst undef) h1) := rfl
theorem dstep_enter {o : Oper} {F : FuncId} {args : Array Value} : dstep P ops H0 Q rest o a h (some (.enter F args)) = ∃ R, ACalls P F args h R ∧ Calm P ops F args h R ∧ ∀ v h1, R v h1 → Pres H0 h1 ∧ awd P ops H0 Q rest (aput a o.dst v) h1 := rfl
theorem sop_build {ρ : Operand → Value} {t : TypeId} {n : Nat} {ps : List (Nat × Operand)} {guard : Option (Nat × Bool)} : sop P ρ h ⟨dst, .buildSlice t n ps.toArray, ty, pos, after, guard⟩ = (fbuild P t n (ps.map fun (i, x) => (i, ρ x))).map fun v => .val v h := by
  show (fbuild P t n (ps.toArray.toList.map _)).map _ = _
  rfl
attribute [go_sem] sop_build
theorem sop_move {ρ : Operand → Value} {x : Operand} {guard : Option (Nat × Bool)} : sop P ρ h ⟨dst, .move x, ty, pos, after, guard⟩ = aop P ρ h ⟨dst, .move x, ty, pos, after, guard⟩ := rfl
theorem sop_assign {ρ : Operand → Value} {x : Operand} {guard : Option (Nat × Bool)} : sop P ρ h ⟨dst, .assign x, ty, pos, after, guard⟩ = aop P ρ h ⟨dst, .assign x, ty, pos, after, guard⟩ := rfl
theorem sop_pick {ρ : Operand → Value} {c x y : Operand} {guard : Option (Nat × Bool)} : sop P ρ h ⟨dst, .pick c x y, ty, pos, after, guard⟩ = aop P ρ h ⟨dst, .pick c x y, ty, pos, after, guard⟩ := rfl
theorem sop_alloc {ρ : Operand → Value} {t : TypeId} {guard : Option (Nat × Bool)} : sop P ρ h ⟨dst, .alloc t, ty, pos, after, guard⟩ = aop P ρ h ⟨dst, .alloc t, ty, pos, after, guard⟩ := rfl
theorem sop_box {ρ : Operand → Value} {t : TypeId} {x : Operand} {guard : Option (Nat × Bool)} : sop P ρ h ⟨dst, .box t x, ty, pos, after, guard⟩ = aop P ρ h ⟨dst, .box t x, ty, pos, after, guard⟩ := rfl
theorem sop_buildA {ρ : Operand → Value} {t : TypeId} {ps : Array (Nat × Operand)} {guard : Option (Nat × Bool)} : sop P ρ h ⟨dst, .build t ps, ty, pos, after, guard⟩ = aop P ρ h ⟨dst, .build t ps, ty, pos, after, guard⟩ := rfl
theorem sop_load {ρ : Operand → Value} {t : TypeId} {x : Operand} {guard : Option (Nat × Bool)} : sop P ρ h ⟨dst, .load t x, ty, pos, after, guard⟩ = aop P ρ h ⟨dst, .load t x, ty, pos, after, guard⟩ := rfl
theorem sop_store {ρ : Operand → Value} {t : TypeId} {x y : Operand} {guard : Option (Nat × Bool)} : sop P ρ h ⟨dst, .store t x y, ty, pos, after, guard⟩ = aop P ρ h ⟨dst, .store t x y, ty, pos, after, guard⟩ := rfl
theorem sop_nilCheck {ρ : Operand → Value} {x : Operand} {guard : Option (Nat × Bool)} : sop P ρ h ⟨dst, .nilCheck x, ty, pos, after, guard⟩ = aop P ρ h ⟨dst, .nilCheck x, ty, pos, after, guard⟩ := rfl
theorem sop_binOp {ρ : Operand → Value} {op : BinOp} {t u : TypeId} {x y : Operand} {guard : Option (Nat × Bool)} : sop P ρ h ⟨dst, .binOp op t x y u, ty, pos, after, guard⟩ = aop P ρ h ⟨dst, .binOp op t x y u, ty, pos, after, guard⟩ := rfl
theorem sop_unOp {ρ : Operand → Value} {op : UnOp} {t : TypeId} {x : Operand} {guard : Option (Nat × Bool)} : sop P ρ h ⟨dst, .unOp op t x, ty, pos, after, guard⟩ = aop P ρ h ⟨dst, .unOp op t x, ty, pos, after, guard⟩ := rfl
theorem sop_convert {ρ : Operand → Value} {t u : TypeId} {x : Operand} {guard : Option (Nat × Bool)} : sop P ρ h ⟨dst, .convert t u x, ty, pos, after, guard⟩ = aop P ρ h ⟨dst, .convert t u x, ty, pos, after, guard⟩ := rfl
theorem sop_makeInterface {ρ : Operand → Value} {t : TypeId} {x : Operand} {guard : Option (Nat × Bool)} : sop P ρ h ⟨dst, .makeInterface t x, ty, pos, after, guard⟩ = aop P ρ h ⟨dst, .makeInterface t x, ty, pos, after, guard⟩ := rfl
theorem sop_slice {ρ : Operand → Value} {t : TypeId} {x : Operand} {lo hi mx : Option Operand} {guard : Option (Nat × Bool)} : sop P ρ h ⟨dst, .slice t x lo hi mx, ty, pos, after, guard⟩ = aop P ρ h ⟨dst, .slice t x lo hi mx, ty, pos, after, guard⟩ := rfl
theorem sop_fieldAddr {ρ : Operand → Value} {t : TypeId} {x : Operand} {k : Nat} {guard : Option (Nat × Bool)} : sop P ρ h ⟨dst, .fieldAddr t x k, ty, pos, after, guard⟩ = aop P ρ h ⟨dst, .fieldAddr t x k, ty, pos, after, guard⟩ := rfl
theorem sop_field {ρ : Operand → Value} {t : TypeId} {x : Operand} {k : Nat} {guard : Option (Nat × Bool)} : sop P ρ h ⟨dst, .field t x k, ty, pos, after, guard⟩ = aop P ρ h ⟨dst, .field t x k, ty, pos, after, guard⟩ := rfl
theorem sop_indexAddr {ρ : Operand → Value} {t : TypeId} {x y : Operand} {guard : Option (Nat × Bool)} : sop P ρ h ⟨dst, .indexAddr t x y, ty, pos, after, guard⟩ = aop P ρ h ⟨dst, .indexAddr t x y, ty, pos, after, guard⟩ := rfl
theorem sop_index {ρ : Operand → Value} {t : TypeId} {x y : Operand} {guard : Option (Nat × Bool)} : sop P ρ h ⟨dst, .index t x y, ty, pos, after, guard⟩ = aop P ρ h ⟨dst, .index t x y, ty, pos, after, guard⟩ := rfl
theorem sop_lookup {ρ : Operand → Value} {t : TypeId} {x y : Operand} {k : Bool} {guard : Option (Nat × Bool)} : sop P ρ h ⟨dst, .lookup t x y k, ty, pos, after, guard⟩ = aop P ρ h ⟨dst, .lookup t x y k, ty, pos, after, guard⟩ := rfl
theorem sop_extract {ρ : Operand → Value} {x : Operand} {k : Nat} {guard : Option (Nat × Bool)} : sop P ρ h ⟨dst, .extract x k, ty, pos, after, guard⟩ = aop P ρ h ⟨dst, .extract x k, ty, pos, after, guard⟩ := rfl
theorem sop_call {ρ : Operand → Value} {c : Call} {guard : Option (Nat × Bool)} : sop P ρ h ⟨dst, .call c, ty, pos, after, guard⟩ = aop P ρ h ⟨dst, .call c, ty, pos, after, guard⟩ := rfl
theorem sop_entry {ρ : Operand → Value} {x : Operand} {guard : Option (Nat × Bool)} : sop P ρ h ⟨dst, .entry x, ty, pos, after, guard⟩ = aop P ρ h ⟨dst, .entry x, ty, pos, after, guard⟩ := rfl
theorem sop_mapUpdate {ρ : Operand → Value} {t : TypeId} {x y z : Operand} {guard : Option (Nat × Bool)} : sop P ρ h ⟨dst, .mapUpdate t x y z, ty, pos, after, guard⟩ = aop P ρ h ⟨dst, .mapUpdate t x y z, ty, pos, after, guard⟩ := rfl
attribute [go_sem] sop_move sop_assign sop_pick sop_alloc sop_box sop_buildA sop_load sop_store sop_nilCheck sop_binOp sop_unOp sop_convert sop_makeInterface sop_slice sop_fieldAddr sop_field sop_indexAddr sop_index sop_lookup sop_extract sop_call sop_entry sop_mapUpdate
theorem leaves_pre {l l' : AH} {o : Oper} (hp : Pre l l') : leaves (h ++ l) rest o (h ++ l') = True := eq_true (pres_pre hp)
end
attribute [go_sem] isW isBS
attribute [go_sem ↓] awd_nil awd_gate dgate_false dgate_true dvstep_val dstep_val dstep_skip
attribute [go_sem] leaves_pre
end Go.Am.S
