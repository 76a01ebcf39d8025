import Derived.Test.YtogefnepdjkioaaAm16
set_option linter.unusedVariables false
set_option linter.unusedSimpArgs false
/- Closed calls, reckoned. -/
namespace Go.Am
open Go

inductive AEx where
  | normal
  | exit (id : Nat)
  | ret

def AEx.ex : AEx → Exit
  | .normal => .normal
  | .exit id => .exit id
  | .ret => .ret

/-- below which block nothing was written, by one operation's own doing -/
def lowOf (o : Op) (ρ : Operand → Value) : Option Nat :=
  match o with
  | .store _ a _ => match ρ a with | .pointer (some a) => some a.block | _ => some 0
  | .call { callee := .builtin .append, args, .. } => match args[0]? with
    | some x => match ρ x with | .slice (some a) _ _ => some a.block | _ => none
    | none => some 0
  | .call { callee := .builtin .copy, args, .. } => match args[0]? with
    | some x => match ρ x with | .slice (some a) _ _ => some a.block | _ => none
    | none => some 0
  | .mapUpdate _ m _ _ => match ρ m with | .map (some b) => some b | _ => some 0
  | .insert _ m _ _ => match ρ m with | .map (some b) => some b | _ => some 0
  | .mapEntry _ m _ => match ρ m with | .map (some b) => some b | _ => some 0
  | .entryStore _ m _ _ => match ρ m with | .map (some b) => some b | _ => some 0
  | .call { callee := .builtin .delete, args, .. } => match args[0]? with
    | some x => match ρ x with | .map (some b) => some b | _ => some 0
    | none => some 0
  | _ => none

def minLow (a : Nat) : Option Nat → Nat
  | some b => Nat.min a b
  | none => a

section
variable (P : Program) (call : FuncId → Array Value → AH → Option (Value × AH × Nat))

/-- operations in turn; the third: below which block nothing was written -/
def runOps (ops : Array Oper) : List Oper → Array Value → AH → Nat → Option (Array Value × AH × Nat)
  | [], a, h, lo => some (a, h, lo)
  | o :: rest, a, h, lo =>
    match gval ops a o with
    | some false => runOps ops rest (aput a o.dst undef) h lo
    | some true => match aop P (aeval P a) h o with
      | some (.val v h1) => runOps ops rest (aput a o.dst v) h1 (minLow lo (lowOf o.op (aeval P a)))
      | some (.skip h1) => runOps ops rest (aput a o.dst undef) h1 (minLow lo (lowOf o.op (aeval P a)))
      | some (.enter F args) => match call F args h with
        | some (v, h1, l1) => runOps ops rest (aput a o.dst v) h1 (Nat.min lo l1)
        | none => none
      | _ => none
    | none => none

/-- operations of a region that draws -/
def runDraw (ops : Array Oper) (H0 : AH) : List Oper → Array Value → AH → Nat → Option (Array Value × AH × Nat)
  | [], a, h, lo => some (a, h, lo)
  | o :: rest, a, h, lo =>
    match gval ops a o with
    | some false => runDraw ops H0 rest (aput a o.dst undef) h lo
    | some true =>
      if isV P o.op then (match aop P (aeval P a) H0 o with
        | some (.val v _) => runDraw ops H0 rest (aput a o.dst v) h lo
        | _ => none)
      else match aop P (aeval P a) h o with
      | some (.val v h1) => if isWriter o.op && rest.all (fun x => !isLoad x.op && (isV P x.op || isWriter x.op)) then runDraw ops H0 rest (aput a o.dst v) h1 (minLow lo (lowOf o.op (aeval P a)))
          else if isWriter o.op then none else runDraw ops H0 rest (aput a o.dst v) h1 lo
      | some (.skip h1) => if isWriter o.op && rest.all (fun x => !isLoad x.op && (isV P x.op || isWriter x.op)) then runDraw ops H0 rest (aput a o.dst undef) h1 (minLow lo (lowOf o.op (aeval P a))) else none
      | some (.enter F args) => match call F args h with
        | some (v, h1, l1) => if H0.length ≤ l1 ∧ hasAlloc ops = false then runDraw ops H0 rest (aput a o.dst v) h1 (Nat.min lo l1) else none
        | none => none
      | _ => none
    | none => none

def iter (body : Array Value → AH → Nat → Option (AEx × Array Value × AH × Nat)) : Nat → Array Value → AH → Nat → Option (AEx × Array Value × AH × Nat)
  | 0, _, _, _ => none
  | k + 1, a, h, lo => match body a h lo with
    | some (.normal, a1, h1, l1) => iter body k a1 h1 l1
    | r => r

def runCode (n : Nat) : Code → Array Value → AH → Nat → Option (AEx × Array Value × AH × Nat)
  | .skip, a, h, lo => some (.normal, a, h, lo)
  | .label _, a, h, lo => some (.normal, a, h, lo)
  | .region _ ops false, a, h, lo => (runOps P call ops ops.toList a h lo).map fun (a, h, lo) => (.normal, a, h, lo)
  | .region _ ops true, a, h, lo => if okDraw P ops.toList && P.follows .mixedOrders then (runDraw P call ops h ops.toList a h lo).map fun (a, h, lo) => (.normal, a, h, lo) else none
  | .seq x y, a, h, lo => match runCode n x a h lo with
    | some (.normal, a1, h1, l1) => runCode n y a1 h1 l1
    | r => r
  | .cond c x y, a, h, lo => match aeval P a c with
    | .bool true => runCode n x a h lo
    | .bool false => runCode n y a h lo
    | _ => none
  | .block id c, a, h, lo => match runCode n c a h lo with
    | some (.exit id', a1, h1, l1) => if id' = id then some (.normal, a1, h1, l1) else some (.exit id', a1, h1, l1)
    | r => r
  | .exit id, a, h, lo => some (.exit id, a, h, lo)
  | .ret, a, h, lo => some (.ret, a, h, lo)
  | .loop c, a, h, lo => iter (runCode n c) n a h lo
  | _, _, _, _ => none
end

/-- a call, reckoned: its value, its heap, below which block nothing was written -/
def arun (P : Program) : Nat → FuncId → Array Value → AH → Option (Value × AH × Nat)
  | 0, _, _, _ => none
  | n + 1, F, args, h => match P.funcs[F]? with
    | some fn => match fn.body with
      | some c => match runCode P (arun P n) n c (args ++ Array.replicate (fn.ntmps - args.size) undef) h h.length with
        | some (e, a, h1, lo) => match e with
          | .exit _ => none
          | _ => match aresults P fn a h1 with
            | some v => if plainB v && Nat.ble h.length lo then some (v, h, h.length) else some (v, h1, lo)
            | none => none
        | none => none
      | none => none
    | none => none

/-! what it says -/
/-- nothing below was written -/
def Low (h h1 : AH) (lo : Nat) : Prop := h.length ≤ h1.length ∧ ∀ b, b < lo → b < h.length → h1[b]? = h[b]?

theorem Low.refl (h : AH) (lo : Nat) : Low h h lo := ⟨Nat.le_refl _, fun _ _ _ => rfl⟩
theorem Low.trans {h h1 h2 : AH} {l1 l2 lo : Nat} (a : Low h h1 l1) (b : Low h1 h2 l2) (e1 : lo ≤ l1) (e2 : lo ≤ l2) : Low h h2 lo :=
  ⟨Nat.le_trans a.1 b.1, fun k hk hl => (b.2 k (by omega) (Nat.lt_of_lt_of_le hl a.1)).trans (a.2 k (by omega) hl)⟩
theorem Low.append (h l : AH) (lo : Nat) : Low h (h ++ l) lo := ⟨by simp, fun b _ hb => List.getElem?_append_left hb⟩
theorem Low.set (h : AH) (b : Nat) (o : AObj) : Low h (h.set b o) b := ⟨by simp, fun k hk _ => List.getElem?_set_ne (by omega)⟩

def LowOk (h : AH) (lo : Nat) (op : Op) (ρ : Operand → Value) : ARes → Prop
  | .val _ h1 => Low h h1 (minLow lo (lowOf op ρ)) ∧ (isWriter op = false → Low h h1 h.length)
  | .skip h1 => Low h h1 (minLow lo (lowOf op ρ)) ∧ (isWriter op = false → Low h h1 h.length)
  | .enter _ _ => True
  | .any _ => True

theorem aop_low {P : Program} {ρ : Operand → Value} {h : AH} {o : Oper} {r : ARes} (ha : aop P ρ h o = some r) (lo : Nat) : LowOk h lo o.op ρ r := by
  obtain ⟨dst, op, type, pos, after, guard⟩ := o
  have same : ∀ (x : Option Value), aval h x = some r → LowOk h lo op ρ r := by
    intro x hx
    obtain ⟨v, _, rfl⟩ := aval_some hx
    exact ⟨Low.refl _ _, fun _ => Low.refl _ _⟩
  have app : ∀ (v : Value) (l : AH), r = .val v (h ++ l) → LowOk h lo op ρ r := by
    intro v l hr
    subst hr
    exact ⟨Low.append _ _ _, fun _ => Low.append _ _ _⟩
  show LowOk h lo op ρ r
  unfold aop at ha
  cases op <;> simp only at ha <;> (try (simp only [amore] at ha; cases ha; done)) <;> (try exact same _ ha)
  case move x => cases ha; exact ⟨Low.refl _ _, fun _ => Low.refl _ _⟩
  case assign x => cases ha; exact ⟨Low.refl _ _, fun _ => Low.refl _ _⟩
  case pick c a b => split at ha <;> cases ha; exact ⟨Low.refl _ _, fun _ => Low.refl _ _⟩
  case alloc e =>
    obtain ⟨v, h2, h1, rfl⟩ := avalh_some ha
    unfold aalloc at h1
    split at h1 <;> (try (cases h1; done))
    split at h1 <;> (try (cases h1; done))
    split at h1 <;> (try (cases h1; done))
    cases h1
    exact app _ _ rfl
  case box e x =>
    obtain ⟨v, h2, h1, rfl⟩ := avalh_some ha
    unfold abox at h1
    split at h1 <;> (try (cases h1; done))
    cases h1
    exact app _ _ rfl
  case buildSlice t n ps =>
    obtain ⟨v, h2, h1, rfl⟩ := avalh_some ha
    unfold abuildSlice at h1
    split at h1 <;> (try (cases h1; done))
    split at h1 <;> (try (cases h1; done))
    split at h1 <;> (try (cases h1; done))
    split at h1 <;> (try (cases h1; done))
    cases h1
    exact app _ _ rfl
  case store t a x =>
    obtain ⟨h2, h1, rfl⟩ := askip_some ha
    unfold astore at h1
    split at h1 <;> (try (cases h1; done))
    rename_i b o heq
    split at h1 <;> (try (cases h1; done))
    split at h1 <;> (try (cases h1; done))
    split at h1 <;> (try (cases h1; done))
    cases h1
    refine ⟨?_, fun hw => by simp [isWriter] at hw⟩
    have : minLow lo (lowOf (.store t a x) ρ) ≤ b := by
      simp only [lowOf, heq, minLow]
      exact Nat.min_le_right _ _
    exact ⟨by simp, fun k hk _ => List.getElem?_set_ne (by omega)⟩
  case convert s d x =>
    obtain ⟨v, h2, h1, rfl⟩ := avalh_some ha
    unfold aconvert at h1
    split at h1 <;> (try (cases h1; done))
    · cases h1; exact ⟨Low.refl _ _, fun _ => Low.refl _ _⟩
    · cases h1; exact ⟨Low.refl _ _, fun _ => Low.refl _ _⟩
    · split at h1 <;> (try (cases h1; done)); cases h1; exact app _ _ rfl
    · split at h1 <;> (try (cases h1; done)); cases h1; exact ⟨Low.refl _ _, fun _ => Low.refl _ _⟩
    · split at h1 <;> (try (cases h1; done))
      split at h1
      · cases h1; exact ⟨Low.refl _ _, fun _ => Low.refl _ _⟩
      · split at h1 <;> (try (cases h1; done))
        split at h1 <;> (try (cases h1; done))
        simp only [Option.map_eq_some_iff, Prod.mk.injEq] at h1
        obtain ⟨_, _, _, rfl⟩ := h1
        exact ⟨Low.refl _ _, fun _ => Low.refl _ _⟩
    · split at h1 <;> (try (cases h1; done))
      split at h1 <;> (try (cases h1; done))
      simp only [Option.map_eq_some_iff, Prod.mk.injEq] at h1
      obtain ⟨_, _, _, rfl⟩ := h1
      exact ⟨Low.refl _ _, fun _ => Low.refl _ _⟩
  case makeMap t r0 =>
    cases r0 with
    | some x => simp only [amore] at ha; cases ha
    | none =>
      obtain ⟨v, h2, h1, rfl⟩ := avalh_some ha
      unfold amMake at h1
      split at h1 <;> (try (cases h1; done))
      split at h1 <;> (try (cases h1; done))
      cases h1; exact app _ _ rfl
  case range t x =>
    obtain ⟨v, h2, h1, rfl⟩ := avalh_some ha
    unfold amRange at h1
    split at h1 <;> (try (cases h1; done))
    · cases h1; exact app _ _ rfl
    · split at h1 <;> (try (cases h1; done))
      cases h1; exact app _ _ rfl
  case next it str =>
    cases str with
    | true => simp only [amore] at ha; cases ha
    | false =>
      change amNext h (ρ it) = _ at ha
      unfold amNext at ha
      split at ha <;> (try (cases ha; done))
      split at ha <;> (try (cases ha; done))
      · cases ha; exact ⟨Low.refl _ _, fun _ => Low.refl _ _⟩
      · split at ha <;> (try (cases ha; done))
        split at ha <;> (try (cases ha; done))
        cases ha; trivial
  case mapUpdate t m k x =>
    obtain ⟨h2, h1, rfl⟩ := askip_some ha
    unfold amUpdate at h1
    split at h1 <;> (try (cases h1; done))
    split at h1 <;> (try (cases h1; done))
    split at h1 <;> (try (cases h1; done))
    rename_i b heq
    split at h1 <;> (try (cases h1; done))
    split at h1 <;> (try (cases h1; done))
    have hle : minLow lo (lowOf (.mapUpdate t m k x) ρ) ≤ b := by simp only [lowOf, heq, minLow]; exact Nat.min_le_right _ _
    split at h1 <;> cases h1 <;> exact ⟨⟨by simp, fun k hk _ => List.getElem?_set_ne (by omega)⟩, fun hw => by simp [isWriter] at hw⟩
  case insert t m k x =>
    obtain ⟨h2, h1, rfl⟩ := askip_some ha
    unfold amUpdate at h1
    split at h1 <;> (try (cases h1; done))
    split at h1 <;> (try (cases h1; done))
    split at h1 <;> (try (cases h1; done))
    rename_i b heq
    split at h1 <;> (try (cases h1; done))
    split at h1 <;> (try (cases h1; done))
    have hle : minLow lo (lowOf (.insert t m k x) ρ) ≤ b := by simp only [lowOf, heq, minLow]; exact Nat.min_le_right _ _
    split at h1 <;> cases h1 <;> exact ⟨⟨by simp, fun k hk _ => List.getElem?_set_ne (by omega)⟩, fun hw => by simp [isWriter] at hw⟩
  case mapEntry t m k =>
    obtain ⟨v, h2, h1, rfl⟩ := avalh_some ha
    unfold amEntry at h1
    split at h1 <;> (try (cases h1; done))
    split at h1 <;> (try (cases h1; done))
    split at h1 <;> (try (cases h1; done))
    split at h1 <;> (try (cases h1; done))
    rename_i b heq
    split at h1 <;> (try (cases h1; done))
    split at h1 <;> (try (cases h1; done))
    have hle : minLow lo (lowOf (.mapEntry t m k) ρ) ≤ b := by simp only [lowOf, heq, minLow]; exact Nat.min_le_right _ _
    split at h1 <;> cases h1 <;> exact ⟨⟨by simp, fun k hk _ => List.getElem?_set_ne (by omega)⟩, fun hw => by simp [isWriter] at hw⟩
  case entryStore t m s x =>
    obtain ⟨h2, h1, rfl⟩ := askip_some ha
    unfold amEntryStore at h1
    split at h1 <;> (try (cases h1; done))
    rename_i b n heq _
    split at h1 <;> (try (cases h1; done))
    split at h1 <;> (try (cases h1; done))
    have hle : minLow lo (lowOf (.entryStore t m s x) ρ) ≤ b := by simp only [lowOf, heq, minLow]; exact Nat.min_le_right _ _
    cases h1; exact ⟨⟨by simp, fun k hk _ => List.getElem?_set_ne (by omega)⟩, fun hw => by simp [isWriter] at hw⟩
  case makeSlice t l c =>
    obtain ⟨v, h2, h1, rfl⟩ := avalh_some ha
    unfold amakeSlice at h1
    split at h1 <;> (try (cases h1; done))
    split at h1 <;> (try (cases h1; done))
    split at h1 <;> (try (cases h1; done))
    cases h1
    exact app _ _ rfl
  case slice t x lo2 hi mx =>
    cases mx with
    | some x => simp only [amore] at ha; cases ha
    | none => exact same _ ha
  case call c =>
    obtain ⟨cal, args, ts⟩ := c
    cases cal with
    | invoke r m => simp only at ha; cases ha
    | value fo =>
      simp only [acall] at ha
      split at ha
      · split at ha
        · cases ha
          trivial
        · unfold aextern at ha
          split at ha <;> (try (cases ha; done))
          · split at ha <;> (try (cases ha; done))
            exact same _ ha
          · split at ha
            · exact same _ ha
            · split at ha <;> (try (cases ha; done))
              exact same _ ha
      · cases ha
    | builtin b =>
      simp only at ha
      unfold abuiltin at ha
      split at ha <;> (try (cases ha; done)) <;> (try exact same _ ha) <;> (try (split at ha <;> (try (cases ha; done)) <;> exact same _ ha))
      · rename_i t u s x ht hx
        obtain ⟨v, h2, h1, rfl⟩ := avalh_some ha
        have hargs : ∃ y z, args = #[y, z] ∧ ρ y = s ∧ ρ z = x := by
          obtain ⟨l⟩ := args
          match l, hx with
          | [y, z], hx => simp at hx; exact ⟨y, z, rfl, hx.1, hx.2⟩
          | [], hx => simp at hx
          | [_], hx => simp at hx
          | _ :: _ :: _ :: _, hx => simp at hx
        obtain ⟨y, z, rfl, hy, hz⟩ := hargs
        refine ⟨?_, fun hw => by simp [isWriter] at hw⟩
        unfold aappend at h1
        split at h1 <;> (try (cases h1; done))
        split at h1 <;> (try (cases h1; done))
        split at h1 <;> (try (cases h1; done))
        split at h1 <;> (try (cases h1; done))
        · split at h1
          · cases h1; exact Low.refl _ _
          · split at h1 <;> (try (cases h1; done))
            cases h1; exact Low.append _ _ _
        · rename_i b o len cap
          have hb : minLow lo (lowOf (.call ⟨.builtin .append, #[y, z], ts⟩) ρ) ≤ b := by
            simp only [lowOf, List.getElem?_toArray, List.getElem?_cons_zero, hy, minLow]
            exact Nat.min_le_right _ _
          split at h1
          · cases h1; exact Low.refl _ _
          · split at h1 <;> (try (cases h1; done))
            split at h1 <;> (try (cases h1; done))
            split at h1
            · split at h1 <;> (try (cases h1; done))
              cases h1
              exact ⟨by simp, fun k hk _ => List.getElem?_set_ne (by omega)⟩
            · split at h1 <;> (try (cases h1; done))
              cases h1
              refine ⟨by simp, fun k hk hl => ?_⟩
              rw [List.getElem?_append_left (by simpa using hl)]
              exact List.getElem?_set_ne (by omega)
      · rename_i t u d s ht hx
        obtain ⟨v, h2, h1, rfl⟩ := avalh_some ha
        have hargs : ∃ y z, args = #[y, z] ∧ ρ y = d ∧ ρ z = s := by
          obtain ⟨l⟩ := args
          match l, hx with
          | [y, z], hx => simp at hx; exact ⟨y, z, rfl, hx.1, hx.2⟩
          | [], hx => simp at hx
          | [_], hx => simp at hx
          | _ :: _ :: _ :: _, hx => simp at hx
        obtain ⟨y, z, rfl, hy, hz⟩ := hargs
        refine ⟨?_, fun hw => by simp [isWriter] at hw⟩
        unfold acopy at h1
        split at h1 <;> (try (cases h1; done))
        split at h1 <;> (try (cases h1; done))
        split at h1 <;> (try (cases h1; done))
        split at h1 <;> (try (cases h1; done))
        · rename_i b o len cap
          have hb : minLow lo (lowOf (.call ⟨.builtin .copy, #[y, z], ts⟩) ρ) ≤ b := by
            simp only [lowOf, List.getElem?_toArray, List.getElem?_cons_zero, hy, minLow]
            exact Nat.min_le_right _ _
          split at h1
          · cases h1; exact Low.refl _ _
          · split at h1 <;> (try (cases h1; done))
            split at h1 <;> (try (cases h1; done))
            cases h1
            exact ⟨by simp, fun k hk _ => List.getElem?_set_ne (by omega)⟩
        · cases h1; exact Low.refl _ _
      · rename_i t u d s ht hx
        obtain ⟨v, h2, h1, rfl⟩ := avalh_some ha
        have hargs : ∃ y z, args = #[y, z] ∧ ρ y = d ∧ ρ z = s := by
          obtain ⟨l⟩ := args
          match l, hx with
          | [y, z], hx => simp at hx; exact ⟨y, z, rfl, hx.1, hx.2⟩
          | [], hx => simp at hx
          | [_], hx => simp at hx
          | _ :: _ :: _ :: _, hx => simp at hx
        obtain ⟨y, z, rfl, hy, hz⟩ := hargs
        refine ⟨?_, fun hw => by simp [isWriter] at hw⟩
        unfold amDelete at h1
        split at h1 <;> (try (cases h1; done))
        split at h1 <;> (try (cases h1; done))
        split at h1 <;> (try (cases h1; done))
        rename_i b
        split at h1 <;> (try (cases h1; done))
        split at h1 <;> (try (cases h1; done))
        have hle : minLow lo (lowOf (.call ⟨.builtin .delete, #[y, z], ts⟩) ρ) ≤ b := by
          simp only [lowOf, List.getElem?_toArray, List.getElem?_cons_zero, hy, minLow]
          exact Nat.min_le_right _ _
        split at h1 <;> cases h1 <;> exact ⟨by simp, fun k hk _ => List.getElem?_set_ne (by omega)⟩

/-- what the callee is known to do -/
def CallOk (P : Program) (call : FuncId → Array Value → AH → Option (Value × AH × Nat)) : Prop :=
  ∀ F args h v h1 lo, call F args h = some (v, h1, lo) → ACalls P F args h (fun v' h' => v' = v ∧ h' = h1) ∧ Low h h1 lo

theorem minLow_le (a : Nat) (x : Option Nat) : minLow a x ≤ a := by
  cases x with
  | none => exact Nat.le_refl _
  | some b => exact Nat.min_le_left _ _

theorem runOps_sound {P : Program} {call : FuncId → Array Value → AH → Option (Value × AH × Nat)} (hc : CallOk P call) {ops : Array Oper} (l : List Oper) : ∀ {a a1 : Array Value} {h h1 : AH} {lo l1 : Nat},
    runOps P call ops l a h lo = some (a1, h1, l1) → (∀ Q : Exit → Array Value → AH → Prop, Q .normal a1 h1 → awl P ops Q l a h) ∧ l1 ≤ lo ∧ ∀ base, Low base h lo → Low base h1 l1 := by
  induction l with
  | nil => intro a a1 h h1 lo l1 hr; simp only [runOps, Option.some.injEq, Prod.mk.injEq] at hr; obtain ⟨rfl, rfl, rfl⟩ := hr; exact ⟨fun Q hq => hq, Nat.le_refl _, fun _ hb => hb⟩
  | cons o rest ih =>
    intro a a1 h h1 lo l1 hr
    unfold runOps at hr
    split at hr
    · rename_i hg
      obtain ⟨h2, h3, h4⟩ := ih hr
      exact ⟨fun Q hq => by unfold awl; rw [hg]; exact h2 Q hq, h3, h4⟩
    · rename_i hg
      split at hr
      · rename_i v hh hv
        obtain ⟨h2, h3, h4⟩ := ih hr
        have hl := (aop_low hv lo).1
        exact ⟨fun Q hq => by unfold awl; rw [hg]; simp only [hv]; exact h2 Q hq, Nat.le_trans h3 (minLow_le _ _), fun base hb => h4 base (hb.trans hl (minLow_le _ _) (Nat.le_refl _))⟩
      · rename_i hh hv
        obtain ⟨h2, h3, h4⟩ := ih hr
        have hl := (aop_low hv lo).1
        exact ⟨fun Q hq => by unfold awl; rw [hg]; simp only [hv]; exact h2 Q hq, Nat.le_trans h3 (minLow_le _ _), fun base hb => h4 base (hb.trans hl (minLow_le _ _) (Nat.le_refl _))⟩
      · rename_i F args hv
        split at hr
        · rename_i v hh lc hcall
          obtain ⟨h2, h3, h4⟩ := ih hr
          obtain ⟨k1, k2⟩ := hc _ _ _ _ _ _ hcall
          refine ⟨fun Q hq => ?_, Nat.le_trans h3 (Nat.min_le_left _ _), fun base hb => h4 base (hb.trans k2 (Nat.min_le_left _ _) (Nat.min_le_right _ _))⟩
          unfold awl
          rw [hg]
          simp only [hv]
          refine ⟨_, k1, ?_⟩
          rintro v' h' ⟨rfl, rfl⟩
          exact h2 Q hq
        · cases hr
      · cases hr
    · cases hr

theorem abuiltin_enter {P : Program} {h : AH} {b : Builtin} {ts : Array TypeId} {ty : TypeId} {args as : Array Value} {F : FuncId} (ha : abuiltin P h b ts ty args = some (.enter F as)) : False := by
  unfold abuiltin at ha
  split at ha
  · obtain ⟨_, _, hh⟩ := aval_some ha; cases hh
  · obtain ⟨_, _, _, hh⟩ := avalh_some ha; cases hh
  · obtain ⟨_, _, _, hh⟩ := avalh_some ha; cases hh
  · obtain ⟨_, _, _, hh⟩ := avalh_some ha; cases hh
  · split at ha
    · obtain ⟨_, _, hh⟩ := aval_some ha; cases hh
    · cases ha
  · split at ha
    · obtain ⟨_, _, hh⟩ := aval_some ha; cases hh
    · cases ha
  · cases ha

theorem aop_enter_notw {P : Program} {ρ : Operand → Value} {h : AH} {o : Oper} {F : FuncId} {as : Array Value} (ha : aop P ρ h o = some (.enter F as)) : isWriter o.op = false := by
  obtain ⟨dst, op, type, pos, after, guard⟩ := o
  cases op
  case store t a x => obtain ⟨_, _, hh⟩ := askip_some ha; cases hh
  case call c =>
    obtain ⟨cal, args2, ts⟩ := c
    cases cal with
    | value f => rfl
    | invoke r m => rfl
    | builtin b => exact (abuiltin_enter ha).elim
  case mapUpdate => obtain ⟨_, _, hh⟩ := askip_some ha; cases hh
  case insert => obtain ⟨_, _, hh⟩ := askip_some ha; cases hh
  case mapEntry => obtain ⟨_, _, _, hh⟩ := avalh_some ha; cases hh
  case entryStore => obtain ⟨_, _, hh⟩ := askip_some ha; cases hh
  case next it str =>
    cases str with
    | true => cases ha
    | false =>
      change amNext h _ = _ at ha
      unfold amNext at ha
      split at ha <;> (try (cases ha; done))
      split at ha <;> (try (cases ha; done))
      split at ha <;> (try (cases ha; done))
      split at ha <;> cases ha
  all_goals rfl

theorem runDraw_sound {P : Program} {call : FuncId → Array Value → AH → Option (Value × AH × Nat)} (hc : CallOk P call) {ops : Array Oper} {H0 : AH} (l : List Oper) : ∀ {a a1 : Array Value} {h h1 : AH} {lo l1 : Nat},
    (Pres H0 h ∧ H0.length ≤ h.length) ∨ l.all (fun x => !isLoad x.op && (isV P x.op || isWriter x.op)) = true → runDraw P call ops H0 l a h lo = some (a1, h1, l1) →
      (∀ Q : Exit → Array Value → AH → Prop, Q .normal a1 h1 → awd P ops H0 Q l a h) ∧ l1 ≤ lo ∧ ∀ base, Low base h lo → Low base h1 l1 := by
  induction l with
  | nil => intro a a1 h h1 lo l1 _ hr; simp only [runDraw, Option.some.injEq, Prod.mk.injEq] at hr; obtain ⟨rfl, rfl, rfl⟩ := hr; exact ⟨fun Q hq => hq, Nat.le_refl _, fun _ hb => hb⟩
  | cons o rest ih =>
    intro a a1 h h1 lo l1 hp hr
    have hp' : (Pres H0 h ∧ H0.length ≤ h.length) ∨ rest.all (fun x => !isLoad x.op && (isV P x.op || isWriter x.op)) = true := hp.imp id fun h => by
      simp only [List.all_cons, Bool.and_eq_true] at h ⊢
      exact h.2
    unfold runDraw at hr
    split at hr
    · rename_i hg
      obtain ⟨h2, h3, h4⟩ := ih hp' hr
      exact ⟨fun Q hq => by unfold awd; rw [hg]; exact h2 Q hq, h3, h4⟩
    · rename_i hg
      split at hr
      · rename_i hv
        split at hr
        · rename_i v hh hval
          obtain ⟨h2, h3, h4⟩ := ih hp' hr
          exact ⟨fun Q hq => by unfold awd; rw [hg]; simp only [hv, if_true, hval]; exact h2 Q hq, h3, h4⟩
        · cases hr
      · rename_i hv
        have notw : isWriter o.op = false → Pres H0 h ∧ H0.length ≤ h.length := fun hw => by
          rcases hp with hp | hp
          · exact hp
          · simp only [List.all_cons, Bool.and_eq_true, Bool.or_eq_true] at hp
            rcases hp.1.2 with h1 | h1
            · exact absurd h1 hv
            · rw [hw] at h1; cases h1
        have loads : rest.all (fun x => !isLoad x.op && (isV P x.op || isWriter x.op)) = true → ∀ x ∈ rest, isLoad x.op = false := fun hall x hx => by
          rw [List.all_eq_true] at hall
          have := hall x hx
          simp only [Bool.and_eq_true, Bool.not_eq_true'] at this
          exact this.1
        split at hr
        · rename_i v hh hval
          have hl := aop_low hval lo
          split at hr
          · rename_i hw
            simp only [Bool.and_eq_true] at hw
            obtain ⟨h2, h3, h4⟩ := ih (.inr hw.2) hr
            exact ⟨fun Q hq => by unfold awd; rw [hg]; simp only [hv, hval]; exact ⟨.inr ⟨hw.1, fun x hx hl => absurd hl (by rw [loads hw.2 x hx]; simp)⟩, h2 Q hq⟩, Nat.le_trans h3 (minLow_le _ _), fun base hb => h4 base (hb.trans hl.1 (minLow_le _ _) (Nat.le_refl _))⟩
          · split at hr
            · cases hr
            · rename_i hw
              simp only [Bool.not_eq_true] at hw
              obtain ⟨hpr, hpl⟩ := notw hw
              have hl2 := hl.2 hw
              have hpres : Pres H0 hh ∧ H0.length ≤ hh.length := ⟨fun b hb => (hl2.2 b (by omega) (by omega)).trans (hpr b hb), Nat.le_trans hpl hl2.1⟩
              obtain ⟨h2, h3, h4⟩ := ih (.inl hpres) hr
              refine ⟨fun Q hq => by unfold awd; rw [hg]; simp only [hv, hval]; exact ⟨.inl hpres.1, h2 Q hq⟩, h3, fun base hb => h4 base ⟨Nat.le_trans hb.1 hl2.1, fun b hb1 hb2 => (hl2.2 b (Nat.lt_of_lt_of_le hb2 hb.1) (Nat.lt_of_lt_of_le hb2 hb.1)).trans (hb.2 b hb1 hb2)⟩⟩
        · rename_i hh hval
          have hl := aop_low hval lo
          split at hr
          · rename_i hw
            simp only [Bool.and_eq_true] at hw
            obtain ⟨h2, h3, h4⟩ := ih (.inr hw.2) hr
            exact ⟨fun Q hq => by unfold awd; rw [hg]; simp only [hv, hval]; exact ⟨.inr ⟨hw.1, fun x hx hl => absurd hl (by rw [loads hw.2 x hx]; simp)⟩, h2 Q hq⟩, Nat.le_trans h3 (minLow_le _ _), fun base hb => h4 base (hb.trans hl.1 (minLow_le _ _) (Nat.le_refl _))⟩
          · cases hr
        · rename_i F args hval
          split at hr
          · rename_i v hh lc hcall
            split at hr
            · rename_i hlc0
              obtain ⟨hlc, hal⟩ := hlc0
              obtain ⟨k1, k2⟩ := hc _ _ _ _ _ _ hcall
              have hw : isWriter o.op = false := aop_enter_notw hval
              obtain ⟨hpr, hpl⟩ := notw hw
              have hpres : Pres H0 hh ∧ H0.length ≤ hh.length := ⟨fun b hb => (k2.2 b (by omega) (by omega)).trans (hpr b hb), Nat.le_trans hpl k2.1⟩
              obtain ⟨h2, h3, h4⟩ := ih (.inl hpres) hr
              refine ⟨fun Q hq => ?_, Nat.le_trans h3 (Nat.min_le_left _ _), fun base hb => h4 base (hb.trans k2 (Nat.min_le_left _ _) (Nat.min_le_right _ _))⟩
              unfold awd
              rw [hg]
              simp only [hv, hval]
              refine ⟨_, k1, .inl hal, ?_⟩
              rintro v' h' ⟨rfl, rfl⟩
              exact ⟨hpres.1, h2 Q hq⟩
            · cases hr
          · cases hr
        · cases hr
    · cases hr

def Runs (P : Program) (c : Code) (a : Array Value) (h : AH) (lo : Nat) (e : AEx) (a1 : Array Value) (h1 : AH) (l1 : Nat) : Prop :=
  (∀ (h0 : AH) (Q : Exit → Array Value → AH → Prop), Q e.ex a1 h1 → AWP P h0 c Q a h) ∧ l1 ≤ lo ∧ ∀ base, Low base h lo → Low base h1 l1

theorem runCode_sound {P : Program} {call : FuncId → Array Value → AH → Option (Value × AH × Nat)} (hc : CallOk P call) (n : Nat) (c : Code) : ∀ {a a1 : Array Value} {h h1 : AH} {lo l1 : Nat} {e : AEx},
    runCode P call n c a h lo = some (e, a1, h1, l1) → Runs P c a h lo e a1 h1 l1 := by
  induction c with
  | skip => intro a a1 h h1 lo l1 e hr; cases hr; exact ⟨fun h0 Q hq => ay_sound (.skip) Q a h hq, Nat.le_refl _, fun _ hb => hb⟩
  | label l => intro a a1 h h1 lo l1 e hr; cases hr; exact ⟨fun h0 Q hq => ay_sound (.label l) Q a h hq, Nat.le_refl _, fun _ hb => hb⟩
  | exit id => intro a a1 h h1 lo l1 e hr; cases hr; exact ⟨fun h0 Q hq => ay_sound (.exit id) Q a h hq, Nat.le_refl _, fun _ hb => hb⟩
  | ret => intro a a1 h h1 lo l1 e hr; cases hr; exact ⟨fun h0 Q hq => ay_sound .ret Q a h hq, Nat.le_refl _, fun _ hb => hb⟩
  | region id ops draw =>
    intro a a1 h h1 lo l1 e hr
    cases draw with
    | false =>
      simp only [runCode, Option.map_eq_some_iff, Prod.mk.injEq] at hr
      obtain ⟨⟨b, k, m⟩, h2, rfl, rfl, rfl, rfl⟩ := hr
      obtain ⟨k1, k2, k3⟩ := runOps_sound hc _ h2
      exact ⟨fun h0 Q hq => AWP.region (k1 Q hq), k2, k3⟩
    | true =>
      simp only [runCode] at hr
      split at hr
      · rename_i hok
        simp only [Bool.and_eq_true] at hok
        simp only [Option.map_eq_some_iff, Prod.mk.injEq] at hr
        obtain ⟨⟨b, k, m⟩, h2, rfl, rfl, rfl, rfl⟩ := hr
        obtain ⟨k1, k2, k3⟩ := runDraw_sound hc _ (.inl ⟨fun _ _ => rfl, Nat.le_refl _⟩) h2
        refine ⟨fun h0 Q hq => ?_, k2, k3⟩
        have := AWP.draw (P := P) (h0 := h0) (id := id) (l := ops.toList) (Q := Q) (a := a) (h := h) hok.2 hok.1 (by simpa using k1 Q hq)
        simpa using this
      · cases hr
  | seq x y ihx ihy =>
    intro a a1 h h1 lo l1 e hr
    simp only [runCode] at hr
    split at hr
    · rename_i a2 h2 l2 hx
      obtain ⟨k1, k2, k3⟩ := ihx hx
      obtain ⟨m1, m2, m3⟩ := ihy hr
      exact ⟨fun h0 Q hq => AWP.seq (k1 h0 _ (m1 h0 Q hq)), Nat.le_trans m2 k2, fun base hb => m3 base (k3 base hb)⟩
    · rename_i hne
      obtain ⟨k1, k2, k3⟩ := ihx hr
      refine ⟨fun h0 Q hq => AWP.seq (k1 h0 _ ?_), k2, k3⟩
      cases e with
      | normal => exact absurd hr (hne _ _ _)
      | exit id => exact hq
      | ret => exact hq
  | cond c x y ihx ihy =>
    intro a a1 h h1 lo l1 e hr
    simp only [runCode] at hr
    split at hr
    · rename_i hcnd
      obtain ⟨k1, k2, k3⟩ := ihx hr
      refine ⟨fun h0 Q hq f0 w0 f a' w s0 g => ?_, k2, k3⟩
      have hcv := aeval_rel g.sim g.tm c
      rw [hcnd] at hcv
      exact wp_cond_true hcv.bool_inv (k1 h0 Q hq f0 w0 f a' w s0 g)
    · rename_i hcnd
      obtain ⟨k1, k2, k3⟩ := ihy hr
      refine ⟨fun h0 Q hq f0 w0 f a' w s0 g => ?_, k2, k3⟩
      have hcv := aeval_rel g.sim g.tm c
      rw [hcnd] at hcv
      exact wp_cond_false hcv.bool_inv (k1 h0 Q hq f0 w0 f a' w s0 g)
    · cases hr
  | block id c ih =>
    intro a a1 h h1 lo l1 e hr
    simp only [runCode] at hr
    split at hr
    · rename_i id' a2 h2 l2 hx
      obtain ⟨k1, k2, k3⟩ := ih hx
      split at hr
      · rename_i he
        cases hr
        exact ⟨fun h0 Q hq => AWP.block (k1 h0 _ (by show if id' = id then _ else _; rw [if_pos he]; exact hq)), k2, k3⟩
      · rename_i he
        cases hr
        exact ⟨fun h0 Q hq => AWP.block (k1 h0 _ (by show if id' = id then _ else _; rw [if_neg he]; exact hq)), k2, k3⟩
    · rename_i hne
      obtain ⟨k1, k2, k3⟩ := ih hr
      refine ⟨fun h0 Q hq => AWP.block (k1 h0 _ ?_), k2, k3⟩
      cases e with
      | normal => exact hq
      | exit id => exact absurd hr (hne _ _ _ _)
      | ret => exact hq
  | loop c ih =>
    intro a a1 h h1 lo l1 e hr
    simp only [runCode] at hr
    have low : ∀ (k : Nat) (a : Array Value) (h : AH) (lo : Nat), iter (runCode P call n c) k a h lo = some (e, a1, h1, l1) → e ≠ .normal ∧ l1 ≤ lo ∧ ∀ base, Low base h lo → Low base h1 l1 := by
      intro k
      induction k with
      | zero => intro a h lo hh; cases hh
      | succ k ihk =>
        intro a h lo hh
        simp only [iter] at hh
        split at hh
        · rename_i a2 h2 l2 hx
          obtain ⟨k1, k2, k3⟩ := ih hx
          obtain ⟨m0, m1, m2⟩ := ihk _ _ _ hh
          exact ⟨m0, Nat.le_trans m1 k2, fun base hb => m2 base (k3 base hb)⟩
        · rename_i hne
          obtain ⟨k1, k2, k3⟩ := ih hh
          exact ⟨fun he => by subst he; exact hne _ _ _ hh, k2, k3⟩
    refine ⟨fun h0 Q hq => ?_, (low n a h lo hr).2⟩
    refine AWP.loop (fun k a h => ∃ lo, iter (runCode P call n c) k a h lo = some (e, a1, h1, l1)) (n := n) ⟨lo, hr⟩ ?_
    rintro k a h ⟨lo, hk⟩
    cases k with
    | zero => cases hk
    | succ k =>
      simp only [iter] at hk
      split at hk
      · rename_i a2 h2 l2 hx
        obtain ⟨k1, k2, k3⟩ := ih hx
        exact k1 h0 _ ⟨k, a2, h2, Nat.lt_succ_self _, .inl ⟨rfl, rfl⟩, l2, hk⟩
      · rename_i hne
        obtain ⟨k1, k2, k3⟩ := ih hk
        refine k1 h0 _ ?_
        cases e with
        | normal => exact absurd hk (hne _ _ _)
        | exit id => exact hq
        | ret => exact hq
  | _ => intros; rename_i hr; cases hr

theorem plain1_ren {σ : Nat → Nat} {L : Nat} {v : Value} (h : plain1 v = true) : VRen σ L v v := .plain v h
theorem plain_ren {σ : Nat → Nat} {L : Nat} {v : Value} (h : plainB v = true) : VRen σ L v v := by
  cases v with
  | agg cs =>
    refine .agg cs cs rfl fun i => ?_
    by_cases hi : i < cs.size
    · exact .plain _ (getD_all h i hi)
    · rw [getD_ge i hi]; exact .junk _
  | iface t v => exact .iface t v v (.plain v h)
  | func fn xs cs =>
    cases fn with
    | func F =>
      simp only [plainB, Bool.and_eq_true, beq_iff_eq] at h
      exact .func _ xs xs cs cs rfl rfl (fun i => by rw [getD_ge i (by omega)]; exact .junk _) rfl (fun i => by rw [getD_ge i (by omega)]; exact .junk _)
    | _ => simp [plainB, plain1] at h
  | _ => exact .plain _ (by simpa [plainB] using h)

theorem GC.drop {h0 h : AH} (hl : h0.length ≤ h.length) (hp : ∀ b, b < h0.length → h[b]? = h0[b]?) : GC h0 id h h0 :=
  ⟨Nat.le_refl _, fun _ _ => rfl, fun b o1 hb _ => ⟨o1, by
    have hlt := (List.getElem?_eq_some_iff.1 hb).1
    show h[b]? = _
    rw [hp b hlt]; exact hb, .inl ⟨(List.getElem?_eq_some_iff.1 hb).1, hb, rfl⟩⟩, fun b b' _ _ e => e⟩

theorem arun_sound {P : Program} : ∀ n, CallOk P (arun P n) := by
  intro n
  induction n with
  | zero => intro F args h v h1 lo hr; cases hr
  | succ n ih =>
    intro F args h v h1 lo hr
    simp only [arun] at hr
    split at hr
    · rename_i fn hf
      split at hr
      · rename_i c hb
        split at hr
        · rename_i e a h2 l2 hrun
          obtain ⟨k1, k2, k3⟩ := runCode_sound ih n c hrun
          have hlow := k3 h (Low.refl _ _)
          have fin : ∀ (e' : AEx), e = e' → (∀ id, e' ≠ .exit id) → (match aresults P fn a h2 with
              | some v => if plainB v && Nat.ble h.length l2 then some (v, h, h.length) else some (v, h2, l2)
              | none => none) = some (v, h1, lo) → ACalls P F args h (fun v' h' => v' = v ∧ h' = h1) ∧ Low h h1 lo := by
            intro e' he hne hm
            subst he
            split at hm
            · rename_i v0 hres
              have post : ∀ (v1 : Value) (h1 : AH), Eases P h #[v0] h2 #[v1] h1 → apost P h fn (fun v' h' => v' = v1 ∧ h' = h1) e.ex a h2 := by
                intro v1 h1 hfg
                cases e with
                | normal => exact ⟨v0, v1, h1, hres, hfg, rfl, rfl⟩
                | ret => exact ⟨v0, v1, h1, hres, hfg, rfl, rfl⟩
                | exit id => exact absurd rfl (hne id)
              split at hm
              · rename_i hcond
                simp only [Bool.and_eq_true, Nat.ble_eq] at hcond
                cases hm
                exact ⟨ACalls.of_awp hf hb ⟨_, _, rfl, rfl⟩ (k1 h _ (post v h (ForgetV.eases (.inr ⟨id, GC.drop hlow.1 (fun b hb => hlow.2 b (by omega) hb), plain_ren hcond.1⟩)))), Low.refl _ _⟩
              · cases hm
                exact ⟨ACalls.of_awp hf hb ⟨_, _, rfl, rfl⟩ (k1 h _ (post v h1 .refl)), hlow⟩
            · cases hm
          cases e with
          | exit id => cases hr
          | normal => exact fin .normal rfl (fun id => by simp) hr
          | ret => exact fin .ret rfl (fun id => by simp) hr
        · cases hr
      · cases hr
    · cases hr

/-- what a heap for reckoning may hold: tables that are only read -/
def roPlain : AObj → Bool
  | .dead => true
  | .cells c _ false => c.all plain1
  | _ => false

/-- A closed call, reckoned at a heap that holds no more than what is needed, is so at every heap that holds this. -/
theorem ACalls.of_run {P : Program} {F : FuncId} {args : Array Value} {hg h : AH} {n : Nat} {v : Value} {h1 : AH} {lo : Nat} (hr : arun P n F args hg = some (v, h1, lo)) (hv : plainB v = true) (ha : args.all plainB = true)
    (hsz : P.globals.size ≤ hg.length) (hro : hg.all roPlain = true) (hat : ∀ (b : Nat) (o : AObj), hg[b]? = some o → o.alive = true → h[b]? = some o) : ACalls P F args h (fun v' h' => v' = v ∧ h' = h) := by
  obtain ⟨hc, _⟩ := arun_sound n F args hg v h1 lo hr
  refine ⟨⟨_, _, rfl, rfl⟩, fun f w args' hs hargs => ?_⟩
  have hargs' : args' = args := arel_plain hargs ha
  subst hargs'
  have hro' : ∀ (b : Nat) (o : AObj), hg[b]? = some o → roPlain o = true := fun b o hb => by
    rw [List.all_eq_true] at hro
    exact hro o (List.mem_of_getElem? hb)
  have norw : ∀ (b : Nat) (o : AObj), hg[b]? = some o → o.rw = false := fun b o hb => by
    have := hro' b o hb
    cases o with
    | cells c es rw => cases rw <;> simp_all [roPlain, AObj.rw]
    | dead => rfl
    | _ => simp [roPlain] at this
  have hsg : Sim P f hg w := by
    refine ⟨fun b o hb hal => ?_, fun b b' o o' hb hb' hal hal' hrw _ => ?_, hs.glob, hsz, fun r ds hr => ⟨(hs.rom r ds hr).1, fun b o hb ho => by rw [norw b o hb] at ho; cases ho⟩, hs.laid, fun b o hb => by have := hro' b o hb; cases o <;> first | trivial | simp [roPlain] at this⟩
    · obtain ⟨o', h4, h5⟩ := hs.obj b o (hat b o hb hal) hal
      refine ⟨o', h4, ?_⟩
      have hp := hro' b o hb
      cases o with
      | cells c es rw =>
        cases rw with
        | true => simp [roPlain] at hp
        | false =>
          obtain ⟨c', elem, fr, k1, k2, k3, k4, k5, k6, k7⟩ := h5
          refine ⟨c', elem, fr, k1, k2, k3, k4, k5, k6, fun i hi => ⟨?_, (k7 i hi).2⟩⟩
          have hpl := getD_all hp i hi
          have := plain1_inv hpl (k7 i hi).1
          rw [this]
          exact plain1_refl hpl
      | dead => simp [AObj.alive] at hal
      | _ => simp [roPlain] at hp
    · rw [norw b o hb] at hrw; cases hrw
  have hargs2 : ARel f hg.length args' args' := by
    refine ⟨rfl, fun i => ?_⟩
    by_cases hi : i < args'.size
    · rw [Array.all_eq_true] at ha
      exact plain_refl (by simpa [Array.getD, hi] using ha i hi)
    · rw [getD_ge i hi]; exact .junk _
  refine (hc.run f w args' hsg hargs2).mono fun e w1 hx => ?_
  obtain ⟨f', v0, v', h', rfl, ⟨rfl, rfl⟩, st, hvr⟩ := hx
  have hv' : v' = v0 := plain_inv hv hvr
  subst hv'
  have hblk : ∀ r, r < w.heap.size → w1.heap[r]? = w.heap[r]? := fun r hr => st.keep.block r hr (fun b o hb ho => by rw [norw b o hb] at ho; cases ho)
  refine ⟨f, v', v', h, rfl, ⟨rfl, rfl⟩, ⟨⟨fun b o hb hal => ?_, hs.sep, hs.glob, hs.size, fun r ds hr => by
    obtain ⟨⟨e, fr, k1⟩, k2⟩ := hs.rom r ds hr
    exact ⟨⟨e, fr, by rw [hblk _ (Array.getElem?_eq_some_iff.1 k1).1]; exact k1⟩, k2⟩, hs.laid, hs.ok⟩, .refl _ _, Nat.le_refl _, ⟨st.keep.os, st.keep.tape, st.keep.output, st.keep.size, fun r hr _ => hblk r hr⟩, fun b o hb ho => .inr ⟨b, o, hb, ho, rfl⟩⟩, plain_refl hv⟩
  obtain ⟨o', h4, h5⟩ := hs.obj b o hb hal
  exact ⟨o', by rw [hblk _ (Array.getElem?_eq_some_iff.1 h4).1]; exact h4, h5⟩

end Go.Am
