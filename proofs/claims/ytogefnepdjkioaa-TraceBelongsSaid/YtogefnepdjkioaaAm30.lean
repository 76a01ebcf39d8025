import Derived.Test.YtogefnepdjkioaaAm29
set_option linter.unusedVariables false
set_option linter.unusedSimpArgs false
set_option linter.unusedSectionVars false
/- Maps as functions. -/
namespace Go.Am
open Go

/-- a map's keys' type, its elements' zero -/
def mp (P : Program) (t : TypeId) : Option (TypeId × Value) :=
  match P.underlying t with
  | some (.map k e) => (zeroOf P e).map fun z => (k, z)
  | _ => none

theorem mp_spec {P : Program} {t k : TypeId} {z : Value} (h : mp P t = some (k, z)) : ∃ e, P.underlying t = some (.map k e) ∧ zeroOf P e = some z := by
  unfold mp at h
  split at h
  · rename_i k' e hu
    simp only [Option.map_eq_some_iff, Prod.mk.injEq] at h
    obtain ⟨z', hz, rfl, rfl⟩ := h
    exact ⟨e, hu, hz⟩
  · cases h

section
variable {P : Program} {h : AH} {t k : TypeId} {z key v : Value} {b clock : Nat} {es : Array MapEntry} {ok : Bool}

theorem amLookup_eq (ht : mp P t = some (k, z)) (hk : keyed P k key = true) (hb : h[b]? = some (.map k es clock)) : amLookup P h t (.map (some b)) key ok = some (lookK ok z key es.toList) := by
  obtain ⟨e, hu, hz⟩ := mp_spec ht
  simp only [amLookup, hu, hz, hk, if_true, hb, lookK]
  cases findK key es.toList 0 with
  | none => rfl
  | some p => rfl
theorem amLookup_nil (ht : mp P t = some (k, z)) (hk : keyed P k key = true) (hy : keyTy P k = true) : amLookup P h t (.map none) key ok = some (lookRes ok z false) := by
  obtain ⟨e, hu, hz⟩ := mp_spec ht
  simp only [amLookup, hu, hz, hk, if_true, hy]
theorem amMake_eq (ht : mp P t = some (k, z)) (hy : keyTy P k = true) : amMake P h t = some (.map (some h.length), h ++ [.map k #[] 0]) := by
  obtain ⟨e, hu, hz⟩ := mp_spec ht
  simp only [amMake, hu, hy, if_true]
/-- the entry of a key that is there -/
theorem amEntry_some {j : Nat} {x : MapEntry} (ht : mp P t = some (k, z)) (hk : keyed P k key = true) (hb : h[b]? = some (.map k es clock)) (hf : findK key es.toList 0 = some (j, x)) : amEntry P h t (.map (some b)) key = some (.tuple #[x.val, .int .i64 (x.born : Nat)], h.set b (.map k (es.modify j fun e => { e with key := key }) clock)) := by
  obtain ⟨e, hu, hz⟩ := mp_spec ht
  simp only [amEntry, hu, hz, hk, if_true, hb, hf]
theorem amEntry_none (ht : mp P t = some (k, z)) (hk : keyed P k key = true) (hb : h[b]? = some (.map k es clock)) (hf : findK key es.toList 0 = none) : amEntry P h t (.map (some b)) key = some (.tuple #[z, .int .i64 (clock : Nat)], h.set b (.map k (es.push ⟨key, z, clock⟩) (clock + 1))) := by
  obtain ⟨e, hu, hz⟩ := mp_spec ht
  simp only [amEntry, hu, hz, hk, if_true, hb, hf]
theorem amUpdate_some {j : Nat} {x : MapEntry} (ht : mp P t = some (k, z)) (hk : keyed P k key = true) (hb : h[b]? = some (.map k es clock)) (hf : findK key es.toList 0 = some (j, x)) : amUpdate P h t (.map (some b)) key v = some (h.set b (.map k (es.modify j fun e => { e with key := key, val := v }) clock)) := by
  obtain ⟨e, hu, hz⟩ := mp_spec ht
  simp only [amUpdate, hu, hk, if_true, hb, hf]
theorem amUpdate_none (ht : mp P t = some (k, z)) (hk : keyed P k key = true) (hb : h[b]? = some (.map k es clock)) (hf : findK key es.toList 0 = none) : amUpdate P h t (.map (some b)) key v = some (h.set b (.map k (es.push ⟨key, v, clock⟩) (clock + 1))) := by
  obtain ⟨e, hu, hz⟩ := mp_spec ht
  simp only [amUpdate, hu, hk, if_true, hb, hf]

theorem findIdx_born {es : List MapEntry} (hn : (es.map (·.born)).Nodup) : ∀ {j : Nat} {x : MapEntry}, es[j]? = some x → es.findIdx? (fun e => (e.born : Int) == (x.born : Int)) = some j := by
  induction es with
  | nil => intro j x h; simp at h
  | cons e es ih =>
    intro j x h
    simp only [List.map_cons, List.nodup_cons] at hn
    cases j with
    | zero =>
      rw [List.getElem?_cons_zero] at h; cases h
      rw [List.findIdx?_cons, if_pos (by simp)]
    | succ j =>
      rw [List.getElem?_cons_succ] at h
      have hne : e.born ≠ x.born := fun e1 => hn.1 (by rw [e1]; exact List.mem_map_of_mem (List.mem_of_getElem? h))
      rw [List.findIdx?_cons]
      have : ((e.born : Int) == (x.born : Int)) = false := by rw [beq_eq_false_iff_ne]; omega
      rw [this, ih hn.2 h]
      rfl

theorem arr_findIdx (a : Array MapEntry) (p : MapEntry → Bool) : a.findIdx? p = a.toList.findIdx? p := by obtain ⟨l⟩ := a; simp

/-- an entry that was made, written -/
theorem store_new (m : MapOk P k es.toList clock) (hb : b < h.length) : amEntryStore (h.set b (.map k (es.push ⟨key, z, clock⟩) (clock + 1))) (.map (some b)) (.int .i64 (clock : Nat)) v = some (h.set b (.map k (es.push ⟨key, v, clock⟩) (clock + 1))) := by
  have hno : es.toList.findIdx? (fun e => (e.born : Int) == (clock : Int)) = none := by
    rw [List.findIdx?_eq_none_iff]
    intro e he
    have := m.old e he
    rw [beq_eq_false_iff_ne]; omega
  have e1 : (es.push ⟨key, z, clock⟩).findIdx? (fun e => (e.born : Int) == (clock : Int)) = some es.size := by
    rw [arr_findIdx, Array.toList_push, List.findIdx?_append, hno]
    have e2 : [(⟨key, z, clock⟩ : MapEntry)].findIdx? (fun e => (e.born : Int) == (clock : Int)) = some 0 := by
      rw [List.findIdx?_cons, if_pos (by simp)]
    rw [e2]; simp
  simp only [amEntryStore, List.getElem?_set_self hb, e1, List.set_set]
  congr 3
  apply Array.ext'
  rw [Array.toList_modify, Array.toList_push, Array.toList_push]
  apply List.ext_getElem?
  intro i
  rw [List.getElem?_modify]
  by_cases hi : i < es.size
  · rw [List.getElem?_append_left (by simpa using hi), List.getElem?_append_left (by simpa using hi)]
    have hne : ¬ (es.size = i) := by omega
    simp [hne]
  · rw [List.getElem?_append_right (by simpa using hi), List.getElem?_append_right (by simpa using hi)]
    by_cases he : es.size = i
    · subst he; simp
    · simp only [he, if_false]
      obtain ⟨q, hq⟩ := Nat.exists_eq_succ_of_ne_zero (show i - es.toList.length ≠ 0 by simp; omega)
      rw [hq]; simp

/-- an entry that is there, written -/
theorem store_old {j : Nat} {x : MapEntry} (m : MapOk P k es.toList clock) (hk : keyed P k key = true) (hf : findK key es.toList 0 = some (j, x)) (hb : b < h.length) : amEntryStore (h.set b (.map k (es.modify j fun e => { e with key := key }) clock)) (.map (some b)) (.int .i64 (x.born : Nat)) v = some (h.set b (.map k (es.modify j fun e => { e with key := key, val := v }) clock)) := by
  obtain ⟨_, g1, g2⟩ := findK_some hk es.toList 0 m.keys hf
  simp only [Nat.sub_zero] at g1
  have e0 : (es.toList.modify j fun e => { e with key := key }).map (·.born) = es.toList.map (·.born) := modify_born fun e => rfl
  have e1 : (es.modify j fun e => { e with key := key }).findIdx? (fun e => (e.born : Int) == (x.born : Int)) = some j := by
    rw [arr_findIdx, Array.toList_modify]
    have e2 : ∀ l : List MapEntry, l.findIdx? (fun e => (e.born : Int) == (x.born : Int)) = (l.map fun (y : MapEntry) => y.born).findIdx? (fun (b : Nat) => (b : Int) == (x.born : Int)) := fun l => by
      rw [List.findIdx?_map]; rfl
    rw [e2, e0, ← e2]
    exact findIdx_born m.born g1
  simp only [amEntryStore, List.getElem?_set_self hb, e1, List.set_set]
  congr 3
  apply Array.ext'
  rw [Array.toList_modify, Array.toList_modify, Array.toList_modify]
  apply List.ext_getElem?
  intro i
  simp only [List.getElem?_modify]
  cases es.toList[i]? with
  | none => rfl
  | some e => by_cases hij : j = i <;> simp [hij]
/-- the same, at a heap that holds such a map -/
theorem store_new' {H : AH} (m : MapOk P k es.toList clock) (hb : H[b]? = some (.map k (es.push ⟨key, z, clock⟩) (clock + 1))) : amEntryStore H (.map (some b)) (.int .i64 (clock : Nat)) v = some (H.set b (.map k (es.push ⟨key, v, clock⟩) (clock + 1))) := by
  have := store_new (h := H) (key := key) (z := z) (v := v) m (List.getElem?_eq_some_iff.1 hb).1
  rwa [set_same hb] at this
theorem store_old' {H : AH} {j : Nat} {x : MapEntry} (m : MapOk P k es.toList clock) (hk : keyed P k key = true) (hf : findK key es.toList 0 = some (j, x)) (hb : H[b]? = some (.map k (es.modify j fun e => { e with key := key }) clock)) : amEntryStore H (.map (some b)) (.int .i64 (x.born : Nat)) v = some (H.set b (.map k (es.modify j fun e => { e with key := key, val := v }) clock)) := by
  have := store_old (h := H) (v := v) m hk hf (List.getElem?_eq_some_iff.1 hb).1
  rwa [set_same hb] at this
end

/-- what a map holds, as a function -/
structure MFun {K V : Type} (P : Program) (k : TypeId) (encK : K → Value) (encV : V → Value) (es : Array MapEntry) (clock : Nat) (f : K → Option V) : Prop where
  ok : MapOk P k es.toList clock
  keyed : ∀ x, keyed P k (encK x) = true
  inj : ∀ x y, encK x = encK y → x = y
  at_ : ∀ x, (findK (encK x) es.toList 0).map (fun p => p.2.val) = (f x).map encV
  keys : ∀ e ∈ es.toList, ∃ x, e.key = encK x
  vals : ∀ e ∈ es.toList, ∃ v, e.val = encV v

section
variable {K V : Type} [DecidableEq K] {P : Program} {k : TypeId} {encK : K → Value} {encV : V → Value} {es : Array MapEntry} {clock : Nat} {f : K → Option V}

theorem MFun.empty (hy : keyTy P k = true) (hk : ∀ x : K, Am.keyed P k (encK x) = true) (hi : ∀ x y, encK x = encK y → x = y) : MFun P k encK encV #[] 0 (fun _ => Option.none) :=
  ⟨⟨hy, by simp, by simp, by simp, by simp⟩, hk, hi, fun x => rfl, by simp, by simp⟩

theorem MFun.look (m : MFun P k encK encV es clock f) (ok : Bool) (z : V) (x : K) : lookK ok (encV z) (encK x) es.toList = lookRes ok (encV ((f x).getD z)) (f x).isSome := by
  have := m.at_ x
  unfold lookK
  cases hf : findK (encK x) es.toList 0 with
  | none => rw [hf] at this; cases hx : f x with
    | none => rfl
    | some v => rw [hx] at this; cases this
  | some p => rw [hf] at this; cases hx : f x with
    | none => rw [hx] at this; cases this
    | some v => rw [hx] at this; simp at this; simp [this]

theorem MFun.find_none (m : MFun P k encK encV es clock f) {x : K} (h : f x = Option.none) : findK (encK x) es.toList 0 = Option.none := by
  have := m.at_ x
  rw [h] at this
  simpa using this
theorem MFun.find_some (m : MFun P k encK encV es clock f) {x : K} {v : V} (h : f x = some v) : ∃ j e, findK (encK x) es.toList 0 = some (j, e) ∧ e.val = encV v := by
  have := m.at_ x
  rw [h] at this
  simp only [Option.map_some, Option.map_eq_some_iff] at this
  obtain ⟨⟨j, e⟩, h1, h2⟩ := this
  exact ⟨j, e, h1, h2⟩

/-- a new entry -/
theorem MFun.push (m : MFun P k encK encV es clock f) {x : K} (h : f x = Option.none) (v : V) : MFun P k encK encV (es.push ⟨encK x, encV v, clock⟩) (clock + 1) (fun y => if y = x then some v else f y) := by
  have hno := (findK_none (m.keyed x) es.toList 0 m.ok.keys).1 (m.find_none h)
  refine ⟨by rw [Array.toList_push]; exact mapOk_push m.ok (m.keyed x) hno, m.keyed, m.inj, fun y => ?_, fun e he => ?_, fun e he => ?_⟩
  · rw [Array.toList_push, findK_append]
    have := m.at_ y
    cases hf : findK (encK y) es.toList 0 with
    | none =>
      rw [hf] at this
      simp only [findK]
      by_cases hy : y = x
      · subst hy
        rw [if_pos ((sameKey_iff (m.keyed y) (m.keyed y)).2 rfl), if_pos rfl]
        rfl
      · rw [if_neg (fun e => hy (m.inj _ _ ((sameKey_iff (m.keyed x) (m.keyed y)).1 e)).symm), if_neg hy]
        exact this
    | some p =>
      rw [hf] at this
      by_cases hy : y = x
      · subst hy; rw [m.find_none h] at hf; cases hf
      · rw [if_neg hy]; exact this
  · rw [Array.toList_push] at he
    rcases List.mem_append.1 he with he | he
    · exact m.keys e he
    · simp at he; subst he; exact ⟨x, rfl⟩
  · rw [Array.toList_push] at he
    rcases List.mem_append.1 he with he | he
    · exact m.vals e he
    · simp at he; subst he; exact ⟨v, rfl⟩

/-- an entry written -/
theorem MFun.modify (m : MFun P k encK encV es clock f) {x : K} {j : Nat} {e : MapEntry} (h : findK (encK x) es.toList 0 = some (j, e)) (v : V) : MFun P k encK encV (es.modify j fun e => { e with key := encK x, val := encV v }) clock (fun y => if y = x then some v else f y) := by
  obtain ⟨_, g1, g2⟩ := findK_some (m.keyed x) es.toList 0 m.ok.keys h
  simp only [Nat.sub_zero] at g1
  refine ⟨mapOk_of m.ok (by rw [Array.toList_modify]; exact modify_keys fun e' he => by rw [g1] at he; cases he; exact g2.symm) (by rw [Array.toList_modify]; exact modify_born fun e => rfl), m.keyed, m.inj, fun y => ?_, fun e' he => ?_, fun e' he => ?_⟩
  · have := findK_modify (m.keyed x) (m.keyed y) (g := fun e => { e with key := encK x, val := encV v }) (fun _ => rfl) es.toList 0 m.ok.keys h
    rw [Nat.sub_zero] at this
    rw [Array.toList_modify, this]
    by_cases hy : y = x
    · subst hy; rw [if_pos ((sameKey_iff (m.keyed y) (m.keyed y)).2 rfl), if_pos rfl]; rfl
    · rw [if_neg (fun e1 => hy (m.inj _ _ ((sameKey_iff (m.keyed x) (m.keyed y)).1 e1)).symm), if_neg hy]; exact m.at_ y
  · rw [Array.toList_modify] at he
    obtain ⟨i, hi⟩ := List.mem_iff_getElem?.1 he
    rw [List.getElem?_modify] at hi
    simp only [Option.map_eq_map, Option.map_eq_some_iff] at hi
    obtain ⟨e0, h0, h1⟩ := hi
    obtain ⟨y, hy⟩ := m.keys e0 (List.mem_of_getElem? h0)
    split at h1
    · subst h1; exact ⟨x, rfl⟩
    · subst h1; exact ⟨y, hy⟩
  · rw [Array.toList_modify] at he
    obtain ⟨i, hi⟩ := List.mem_iff_getElem?.1 he
    rw [List.getElem?_modify] at hi
    simp only [Option.map_eq_map, Option.map_eq_some_iff] at hi
    obtain ⟨e0, h0, h1⟩ := hi
    obtain ⟨y, hy⟩ := m.vals e0 (List.mem_of_getElem? h0)
    split at h1
    · subst h1; exact ⟨v, rfl⟩
    · subst h1; exact ⟨y, hy⟩
end
end Go.Am
