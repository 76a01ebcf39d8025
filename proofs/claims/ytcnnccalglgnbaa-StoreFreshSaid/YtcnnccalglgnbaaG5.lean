import Derived.Test.YtcnnccalglgnbaaG4
set_option linter.unusedSimpArgs false
set_option linter.unusedVariables false
/- Rows without twins; what a world's accounts are. -/
namespace Go.Am
open Go Go.Proofs
theorem flat_set {α : Type} {enc : α → List Value} {m : Nat} (hm : ∀ x, (enc x).length = m) {l : List α} {k : Nat} (hk : k < l.length) (x : α) : blit (flatV enc l) (k * m) (enc x) = flatV enc (l.set k x) := by
  have hs : l = l.take k ++ l[k] :: l.drop (k + 1) := by simp
  have e1 : l.set k x = l.take k ++ x :: l.drop (k + 1) := by
    rw [List.set_eq_take_append_cons_drop, if_pos hk]
  rw [e1]
  conv => lhs; rw [hs]
  have e2 : ∀ y : α, flatV enc (l.take k ++ y :: l.drop (k + 1)) = ((l.take k).flatMap enc ++ (enc y ++ (l.drop (k + 1)).flatMap enc)).toArray := fun y => by
    simp only [flatV, List.flatMap_append, List.flatMap_cons]
  rw [e2, e2]
  have hl : ((l.take k).flatMap enc).length = k * m := by rw [flat_length hm, List.length_take, Nat.min_eq_left (Nat.le_of_lt hk)]
  have := blit_mid (enc x) ((l.take k).flatMap enc) (enc l[k]) ((l.drop (k + 1)).flatMap enc) (by rw [hm, hm])
  rw [hl] at this
  exact this
def RisesA (L : List Addr20) : Prop := L.Pairwise fun x y => addrN x < addrN y
/-- twins are taken out, so far -/
structure Cmpct (l X : List Addr20) (k j : Nat) : Prop where
  len : X.length = l.length
  k1 : 1 ≤ k
  kj : k + 1 ≤ j
  jl : j ≤ l.length
  rises : RisesA (X.take k)
  mem : ∀ x, x ∈ X.take k ↔ x ∈ l.take j
  tail : X.drop (j - 1) = l.drop (j - 1)
  last : ∀ (hj : j - 1 < l.length), ∀ x ∈ X.take k, addrN x ≤ addrN (l[j - 1])
theorem Cmpct.get {l X : List Addr20} {k j : Nat} (c : Cmpct l X k j) {i : Nat} (hi : j - 1 ≤ i) (hl : i < l.length) : X[i]'(by rw [c.len]; exact hl) = l[i] := by
  have := congrArg (fun a : List Addr20 => a[i - (j - 1)]?) c.tail
  simp only [List.getElem?_drop] at this
  rw [show j - 1 + (i - (j - 1)) = i by omega, List.getElem?_eq_getElem (by rw [c.len]; exact hl), List.getElem?_eq_getElem hl] at this
  exact Option.some.inj this
theorem Cmpct.same {l X : List Addr20} {k j : Nat} (c : Cmpct l X k j) (hj : j < l.length) (he : l[j] = l[j - 1]) : Cmpct l X k (j + 1) := by
  have hk1 := c.k1
  have hkj := c.kj
  refine ⟨c.len, c.k1, by omega, hj, c.rises, fun x => ?_, ?_, fun h x hx => ?_⟩
  · rw [c.mem, List.take_add_one, List.getElem?_eq_getElem hj, List.mem_append]
    constructor
    · exact .inl
    · rintro (h | h)
      · exact h
      · simp at h
        subst h
        rw [he]
        rw [List.mem_take_iff_getElem]
        exact ⟨j - 1, by omega, rfl⟩
  · have := congrArg (List.drop 1) c.tail
    rw [List.drop_drop, List.drop_drop, show j - 1 + 1 = j + 1 - 1 by omega] at this
    exact this
  · have := c.last (by omega) x hx
    simpa [he] using this
theorem Cmpct.more {l X : List Addr20} {k j : Nat} (c : Cmpct l X k j) (hj : j < l.length) (hlt : addrN l[j - 1] < addrN l[j]) : Cmpct l (X.set k l[j]) (k + 1) (j + 1) := by
  have hk1 := c.k1
  have hkj := c.kj
  have hlen := c.len
  have e1 : (X.set k l[j]).take (k + 1) = X.take k ++ [l[j]] := by
    rw [List.take_add_one, List.getElem?_set_self (by omega), List.take_set_of_le (Nat.le_refl _)]; rfl
  refine ⟨by simp [c.len], by omega, by omega, hj, ?_, fun x => ?_, ?_, fun h x hx => ?_⟩
  · rw [e1]
    unfold RisesA
    rw [List.pairwise_append]
    refine ⟨c.rises, by simp, fun x hx y hy => ?_⟩
    simp at hy; subst hy
    have := c.last (by omega) x hx
    omega
  · rw [e1, List.mem_append, c.mem, List.take_add_one, List.getElem?_eq_getElem hj, List.mem_append]
    simp
  · rw [List.drop_set, if_pos (by omega)]
    have := congrArg (List.drop 1) c.tail
    rw [List.drop_drop, List.drop_drop, show j - 1 + 1 = j + 1 - 1 by omega] at this
    exact this
  · rw [e1, List.mem_append] at hx
    rcases hx with hx | hx
    · have := c.last (by omega) x hx
      simp only [Nat.add_sub_cancel]; omega
    · simp at hx; subst hx; exact Nat.le_refl _
/-- is there an account? -/
def Acc.there (x : Acc) : Bool := decide (x.nonce ≠ 0) || (decide (x.bal ≠ zeroW) || !x.code.isEmpty)
/-- the accounts of a world, axs they are told -/
structure IsEnts (S : WS) (L : List Ent) : Prop where
  rises : RisesA (L.map (·.addr))
  acc : ∀ e ∈ L, (⟨e.nonce, e.bal, e.code.l⟩ : Acc) = (S.all e.addr).getD Acc.zero
  keys : ∀ e ∈ L, (e.slots.l).Pairwise fun x y => valW x.key < valW y.key
  slots : ∀ e ∈ L, ∀ s : Slt, s ∈ e.slots.l ↔ S.slots ⟨e.addr, s.key⟩ = some s.val ∧ s.val ≠ zeroW
  all : ∀ a, (∃ e ∈ L, e.addr = a) ↔ (((S.all a).getD Acc.zero).there = true ∨ ∃ k v, S.slots ⟨a, k⟩ = some v ∧ v ≠ zeroW)
end Go.Am

set_option linter.unusedSimpArgs false
set_option linter.unusedVariables false
/- Accounts that are told: what lies where. -/
namespace Go.Am
open Go Go.Proofs
theorem loadF_all {α : Type} {enc : α → List Value} {m : Nat} (hm : ∀ x, (enc x).length = m) (h0 : 0 < m) {l : List α} {i : Nat} (hi : i < l.length) : mkLoadF (flatV enc l) (i * m) (some (true, m)) = some (.agg (enc l[i]).toArray) := by
  have := loadF_part (g := true) (off := 0) (m := m) hm hi (by omega) h0
  rw [Nat.add_zero] at this
  rw [this]
  simp only [mkLoadF, Nat.zero_add]
  have hsz : (enc l[i]).toArray.size = m := by simp [hm]
  rw [if_pos (by omega)]
  congr 2
  rw [← hsz, Array.extract_size]
/-- a slot that holds something -/
def slotOf (S : WS) (p : Plc) : Option Slt := match S.slots p with
  | some v => if v = zeroW then none else some ⟨p.key, v⟩
  | none => none
/-- an account's slots among these places -/
def ownF (S : WS) (L : List Plc) (a : Addr20) : List Slt := L.filterMap fun p => if p.addr = a then slotOf S p else none
theorem ownF_none {S : WS} {L : List Plc} {p : Plc} (h : slotOf S p = none) : ownF S (L ++ [p]) = ownF S L := by
  funext a
  simp [ownF, List.filterMap_append, h]
theorem ownF_some {S : WS} {L : List Plc} {p : Plc} {s : Slt} (h : slotOf S p = some s) : ownF S (L ++ [p]) = fun y => if y = p.addr then ownF S L y ++ [s] else ownF S L y := by
  funext a
  by_cases ha : a = p.addr
  · subst ha; simp [ownF, List.filterMap_append, h]
  · have : ¬ p.addr = a := fun e => ha e.symm
    simp [ownF, List.filterMap_append, ha, this]
theorem slotOf_none {S : WS} {p : Plc} (h : (S.slots p).getD zeroW = zeroW) : slotOf S p = none := by
  unfold slotOf
  cases hs : S.slots p with
  | none => rfl
  | some v => rw [hs] at h; simp at h; simp [h]
theorem slotOf_some {S : WS} {p : Plc} (h : (S.slots p).getD zeroW ≠ zeroW) : slotOf S p = some ⟨p.key, (S.slots p).getD zeroW⟩ := by
  unfold slotOf
  cases hs : S.slots p with
  | none => rw [hs] at h; simp at h
  | some v => rw [hs] at h; simp at h; simp [h]
theorem mem_ownF {S : WS} {L : List Plc} {a : Addr20} {s : Slt} : s ∈ ownF S L a ↔ (⟨a, s.key⟩ : Plc) ∈ L ∧ S.slots ⟨a, s.key⟩ = some s.val ∧ s.val ≠ zeroW := by
  unfold ownF
  rw [List.mem_filterMap]
  constructor
  · rintro ⟨p, hp, h⟩
    by_cases ha : p.addr = a
    · rw [if_pos ha] at h
      unfold slotOf at h
      cases hs : S.slots p with
      | none => rw [hs] at h; cases h
      | some v =>
        rw [hs] at h
        simp only at h
        by_cases hv : v = zeroW
        · rw [if_pos hv] at h; cases h
        · rw [if_neg hv] at h; cases h
          subst ha
          exact ⟨hp, hs, hv⟩
    · rw [if_neg ha] at h; cases h
  · rintro ⟨h1, h2, h3⟩
    refine ⟨_, h1, ?_⟩
    simp only [if_true, slotOf, h2, h3, if_false]
theorem ownF_rises {S : WS} {L : List Plc} (h : L.Pairwise fun x y => x.rank < y.rank) (a : Addr20) : (ownF S L a).Pairwise fun x y => valW x.key < valW y.key := by
  unfold ownF
  rw [List.pairwise_filterMap]
  refine h.imp fun {p q} hpq s hs t ht => ?_
  have key : ∀ {p : Plc} {s : Slt}, (if p.addr = a then slotOf S p else none) = some s → p.addr = a ∧ s.key = p.key := by
    intro p s h
    by_cases ha : p.addr = a
    · rw [if_pos ha] at h
      unfold slotOf at h
      split at h
      · split at h
        · cases h
        · cases h; exact ⟨ha, rfl⟩
      · cases h
    · rw [if_neg ha] at h; cases h
  obtain ⟨h1, h2⟩ := key hs
  obtain ⟨h3, h4⟩ := key ht
  unfold Plc.rank at hpq
  rw [h1, h3] at hpq
  rw [h2, h4]; omega
theorem ownF_length (S : WS) (L : List Plc) (a : Addr20) : (ownF S L a).length ≤ L.length := List.length_filterMap_le _ _
theorem slt_build (k v : Word4) : blit (blit (#[Value.int .u64 0, Value.int .u64 0, Value.int .u64 0, Value.int .u64 0] ++ #[Value.int .u64 0, Value.int .u64 0, Value.int .u64 0, Value.int .u64 0]) 0 (encWord k)) 4 (encWord v) = (encSlt ⟨k, v⟩).toArray := by
  have e1 : (#[Value.int .u64 0, Value.int .u64 0, Value.int .u64 0, Value.int .u64 0] ++ #[Value.int .u64 0, Value.int .u64 0, Value.int .u64 0, Value.int .u64 0] : Array Value) = ([] ++ ([Value.int .u64 0, Value.int .u64 0, Value.int .u64 0, Value.int .u64 0] ++ [Value.int .u64 0, Value.int .u64 0, Value.int .u64 0, Value.int .u64 0])).toArray := rfl
  have h1 := blit_mid (encWord k) [] [Value.int .u64 0, Value.int .u64 0, Value.int .u64 0, Value.int .u64 0] [Value.int .u64 0, Value.int .u64 0, Value.int .u64 0, Value.int .u64 0] (by simp [length_encWord])
  have h2 := blit_mid (encWord v) (encWord k) [Value.int .u64 0, Value.int .u64 0, Value.int .u64 0, Value.int .u64 0] [] (by simp [length_encWord])
  rw [e1]
  rw [List.length_nil] at h1
  rw [h1, List.nil_append]
  rw [length_encWord, List.append_nil, List.append_nil] at h2
  rw [h2]; rfl
theorem size_slt (k : Word4) : (blit (#[Value.int .u64 0, Value.int .u64 0, Value.int .u64 0, Value.int .u64 0] ++ #[Value.int .u64 0, Value.int .u64 0, Value.int .u64 0, Value.int .u64 0]) 0 (encWord k)).size = 8 := by rw [size_blit]; rfl
attribute [go_sem] slt_build size_slt
abbrev EV := Ent × Value × Value
def encX (x : EV) : List Value := encEntV x.1 x.2.1 x.2.2
theorem length_encX (x : EV) : (encX x).length = 27 := length_encEntV _ _ _
/-- accounts in a row of their own, each with rows of its own -/
structure EntsAt (H : AH) (base : Nat) (v : Value) (O : List Nat) (xs : List EV) : Prop where
  row : RowAt encX 27 H v O xs
  new : ∀ i ∈ O, base ≤ i
  code : ∀ x ∈ xs, ∃ O1, RowAt encU8 1 H x.2.1 O1 x.1.code.l ∧ ∀ i ∈ O1, base ≤ i
  slots : ∀ x ∈ xs, ∃ O2, RowAt encSlt 8 H x.2.2 O2 x.1.slots.l ∧ ∀ i ∈ O2, base ≤ i
theorem RowAt.ne {α β : Type} {e1 : α → List Value} {e2 : β → List Value} {m1 m2 : Nat} {H : AH} {v1 v2 : Value} {O1 O2 : List Nat} {l1 : List α} {l2 : List β} (r1 : RowAt e1 m1 H v1 O1 l1) (r2 : RowAt e2 m2 H v2 O2 l2) (hm : m1 ≠ m2) : ∀ i ∈ O1, i ∉ O2 := by
  rcases r1 with ⟨_, _, rfl⟩ | ⟨b, c, cap, _, rfl, hb, _⟩
  · simp
  · rcases r2 with ⟨_, _, rfl⟩ | ⟨b2, c2, cap2, _, rfl, hb2, _⟩
    · simp
    · intro i hi hi2
      simp at hi hi2
      subst hi; subst hi2
      rw [hb] at hb2
      simp only [Option.some.injEq, AObj.cells.injEq] at hb2
      exact hm hb2.2.1
/-- a map's block is no row's -/
theorem RowAt.ne_map {α : Type} {e1 : α → List Value} {m1 : Nat} {H : AH} {v1 : Value} {O1 : List Nat} {l1 : List α} {b : Nat} {k : TypeId} {es : Array MapEntry} {ck : Nat} (r1 : RowAt e1 m1 H v1 O1 l1) (hb : H[b]? = some (.map k es ck)) : b ∉ O1 := by
  rcases r1 with ⟨_, _, rfl⟩ | ⟨b1, c, cap, _, rfl, hb1, _⟩
  · simp
  · intro h
    simp at h
    subst h
    rw [hb1] at hb; cases hb
/-- where others write -/
theorem EntsAt.rest {H H' : AH} {base : Nat} {v : Value} {O Q : List Nat} {xs : List EV} (e : EntsAt H base v O xs) (r : Rest Q H H') (h : ∀ i ∈ Q, i < base) : EntsAt H' base v O xs :=
  ⟨e.row.rest r fun i hi hq => by have := e.new i hi; have := h i hq; omega, e.new, fun x hx => by
    obtain ⟨O1, h1, h2⟩ := e.code x hx
    exact ⟨O1, h1.rest r fun i hi hq => by have := h2 i hi; have := h i hq; omega, h2⟩, fun x hx => by
    obtain ⟨O1, h1, h2⟩ := e.slots x hx
    exact ⟨O1, h1.rest r fun i hi hq => by have := h2 i hi; have := h i hq; omega, h2⟩⟩
/-- how many accounts, how many slots -/
structure WS.Small (S : WS) (n : Nat) : Prop where
  all : ∃ ks : List Addr20, ks.length ≤ n ∧ ∀ x, S.all x ≠ none → x ∈ ks
  slots : ∃ ks : List Plc, ks.length ≤ n ∧ ∀ x, S.slots x ≠ none → x ∈ ks
theorem MFun.size_le {K V : Type} [DecidableEq K] {P : Program} {k : TypeId} {encK : K → Value} {encV : V → Value} {es : Array MapEntry} {clock : Nat} {f : K → Option V} (m : MFun P k encK encV es clock f) {ks : List K} (h : ∀ x, f x ≠ none → x ∈ ks) : es.size ≤ ks.length := by
  obtain ⟨l, hl⟩ : ∃ l : List K, l.map encK = es.toList.map (·.key) := by
    have hk := m.keys
    generalize es.toList = el at hk
    induction el with
    | nil => exact ⟨[], rfl⟩
    | cons e el ih =>
      obtain ⟨l, hl⟩ := ih fun e' he' => hk e' (List.mem_cons_of_mem _ he')
      obtain ⟨x, hx⟩ := hk e (by simp)
      exact ⟨x :: l, by simp [hl, hx]⟩
  have hnd : l.Nodup := nodup_of_map encK (by rw [hl]; exact m.ok.apart)
  have hsub : ∀ x ∈ l, x ∈ ks := fun x hx => h x fun hn => by
    have hf := m.find_none hn
    have hno := (findK_none (m.keyed x) es.toList 0 m.ok.keys).1 hf
    have : encK x ∈ es.toList.map (·.key) := by rw [← hl]; exact List.mem_map_of_mem hx
    obtain ⟨e, he, hek⟩ := List.mem_map.1 this
    exact hno e he hek
  have h1 := nodup_len hnd hsub
  have h2 : l.length = es.size := by
    have := congrArg List.length hl
    simpa using this
  omega
theorem MFun.keys_iff {K V : Type} [DecidableEq K] {P : Program} {k : TypeId} {encK : K → Value} {encV : V → Value} {es : Array MapEntry} {clock : Nat} {f : K → Option V} (m : MFun P k encK encV es clock f) (x : K) : encK x ∈ es.toList.map (·.key) ↔ f x ≠ none := by
  constructor
  · intro h hn
    have hno := (findK_none (m.keyed x) es.toList 0 m.ok.keys).1 (m.find_none hn)
    obtain ⟨e, he, hek⟩ := List.mem_map.1 h
    exact hno e he hek
  · intro h
    cases hf : f x with
    | none => exact absurd hf h
    | some v =>
      obtain ⟨j, e, h1, _⟩ := m.find_some hf
      obtain ⟨_, h2, h3⟩ := findK_some (m.keyed x) es.toList 0 m.ok.keys h1
      rw [← h3]
      exact List.mem_map_of_mem (List.mem_of_getElem? h2)
/-- an account, axs it is told -/
def entOf (S : WS) (F : Addr20 → List Slt) (a : Addr20) : Option Ent :=
  if ((S.all a).getD Acc.zero).there = true ∨ F a ≠ [] then some ⟨a, ((S.all a).getD Acc.zero).nonce, ((S.all a).getD Acc.zero).bal, Sl.full ((S.all a).getD Acc.zero).code, Sl.app (F a)⟩ else none
theorem entOf_addr {S : WS} {F : Addr20 → List Slt} {a : Addr20} {e : Ent} (h : entOf S F a = some e) : e.addr = a ∧ (((S.all a).getD Acc.zero).there = true ∨ F a ≠ []) ∧ e = ⟨a, ((S.all a).getD Acc.zero).nonce, ((S.all a).getD Acc.zero).bal, Sl.full ((S.all a).getD Acc.zero).code, Sl.app (F a)⟩ := by
  unfold entOf at h
  split at h
  · rename_i hc
    cases h
    exact ⟨rfl, hc, rfl⟩
  · cases h
theorem isEnts_of {S : WS} {L : List Plc} {D : List Addr20} (hL : L.Pairwise fun x y => x.rank < y.rank) (hLm : ∀ p, p ∈ L ↔ S.slots p ≠ none) (hD : RisesA D) (hDm : ∀ a, a ∈ D ↔ S.all a ≠ none ∨ ownF S L a ≠ []) : IsEnts S (D.filterMap (entOf S (ownF S L))) := by
  refine ⟨?_, fun e he => ?_, fun e he => ?_, fun e he s => ?_, fun a => ?_⟩
  · unfold RisesA
    rw [List.pairwise_map, List.pairwise_filterMap]
    refine hD.imp fun {a b} hab x hx y hy => ?_
    rw [(entOf_addr hx).1, (entOf_addr hy).1]; exact hab
  · obtain ⟨a, _, ha⟩ := List.mem_filterMap.1 he
    obtain ⟨_, _, rfl⟩ := entOf_addr ha
    rfl
  · obtain ⟨a, _, ha⟩ := List.mem_filterMap.1 he
    obtain ⟨_, _, rfl⟩ := entOf_addr ha
    exact ownF_rises hL a
  · obtain ⟨a, _, ha⟩ := List.mem_filterMap.1 he
    obtain ⟨_, _, rfl⟩ := entOf_addr ha
    show s ∈ ownF S L a ↔ _
    rw [mem_ownF, hLm]
    constructor
    · rintro ⟨_, h2, h3⟩; exact ⟨h2, h3⟩
    · rintro ⟨h2, h3⟩; exact ⟨by rw [h2]; simp, h2, h3⟩
  · have hown : ownF S L a ≠ [] ↔ ∃ k v, S.slots ⟨a, k⟩ = some v ∧ v ≠ zeroW := by
      constructor
      · intro h
        obtain ⟨s, hs⟩ := List.exists_mem_of_ne_nil _ h
        obtain ⟨_, h2, h3⟩ := mem_ownF.1 hs
        exact ⟨s.key, s.val, h2, h3⟩
      · rintro ⟨k, v, h2, h3⟩ he
        have : (⟨k, v⟩ : Slt) ∈ ownF S L a := mem_ownF.2 ⟨(hLm _).2 (by rw [h2]; simp), h2, h3⟩
        rw [he] at this; cases this
    rw [← hown]
    constructor
    · rintro ⟨e, he, rfl⟩
      obtain ⟨a, _, ha⟩ := List.mem_filterMap.1 he
      obtain ⟨_, h1, rfl⟩ := entOf_addr ha
      exact h1
    · intro h
      refine ⟨_, List.mem_filterMap.2 ⟨a, (hDm a).2 ?_, by unfold entOf; rw [if_pos h]⟩, rfl⟩
      rcases h with h | h
      · left
        intro hn
        rw [hn] at h
        have : (Acc.zero).there = false := by decide
        rw [Option.getD_none, this] at h; cases h
      · exact .inr h
/-- a row is read -/
theorem rdS_row {P : Program} {T Te : TypeId} {α : Type} {enc : α → List Value} {m by_ : Nat} {g : Bool} (ha : slc P T = some (g, m, by_)) (ht : tyc P Te = some (true, m)) (hm : ∀ x, (enc x).length = m) {H : AH} {v : Value} {O : List Nat} {l : List α} (r : RowAt enc m H v O l) : RdS P T Te enc H O v l := by
  rcases r with ⟨rfl, rfl, rfl⟩ | ⟨b, c, cap, rfl, rfl, hb, hs, hc, hx⟩
  · exact ⟨fun H' _ => alen_eq' ha, fun H' _ i hi => by simp at hi⟩
  · refine ⟨fun H' _ => alen_eq' ha, fun H' a i hi => ⟨.pointer (some ⟨b, 0 + i * m, none⟩), ?_, ?_⟩⟩
    · rw [aindexS_eq' ha]
      simp only [mkIndexS]
      rw [if_pos ⟨by omega, by omega⟩]; rfl
    · rw [aload_eq ht, a b (by simp), hb]
      simp only [mkLoad, Nat.zero_add]
      have hle : i * m + m ≤ l.length * m := by
        have := Nat.mul_le_mul_right m (Nat.succ_le_of_lt hi)
        rw [Nat.succ_mul] at this; exact this
      have hle2 : l.length * m ≤ cap * m := Nat.mul_le_mul_right _ hc
      rw [if_pos (by omega)]
      congr 2
      have h1 := congrArg (fun a : Array Value => a.extract (i * m) (i * m + m)) hx
      simp only [Array.extract_extract, Nat.zero_add] at h1
      rw [Nat.min_eq_left hle] at h1
      rw [h1]
      have := flat_piece hm hi (off := 0) (m := m) (by omega)
      rw [Nat.add_zero, Nat.zero_add] at this
      rw [this]
      have hsz : (enc l[i]).toArray.size = m := by simp [hm]
      rw [← hsz, Array.extract_size]
theorem sorted_le {l : List Addr20} : (l.mergeSort fun x y => !(Go.Proofs.ltOf fun x y : Addr20 => sgn (addrN x) (addrN y)) y x).Perm l ∧ (l.mergeSort fun x y => !(Go.Proofs.ltOf fun x y : Addr20 => sgn (addrN x) (addrN y)) y x).Pairwise fun x y => addrN x ≤ addrN y := by
  have key : ∀ x y : Addr20, (!(Go.Proofs.ltOf fun x y : Addr20 => sgn (addrN x) (addrN y)) y x) = decide (addrN x ≤ addrN y) := fun x y => by
    unfold Go.Proofs.ltOf
    have : (sgn (addrN y) (addrN x) < 0) = (addrN y < addrN x) := sgn_lt
    simp only [this]
    by_cases h : addrN x ≤ addrN y
    · simp [h]
    · simp [h]; omega
  have e : (fun x y : Addr20 => !(Go.Proofs.ltOf fun x y : Addr20 => sgn (addrN x) (addrN y)) y x) = fun x y => decide (addrN x ≤ addrN y) := by funext x y; exact key x y
  rw [e]
  refine ⟨List.mergeSort_perm _ _, ?_⟩
  have := List.pairwise_mergeSort (le := fun x y : Addr20 => decide (addrN x ≤ addrN y)) (fun a b c h1 h2 => by simp at *; omega) (fun a b => by simp; omega) l
  exact this.imp fun h => by simpa using h
theorem plain_encAddr (a : Addr20) : ∀ v ∈ encAddr a, plain1 v = true := by
  intro v hv
  simp only [encAddr, List.mem_map] at hv
  obtain ⟨_, _, rfl⟩ := hv; rfl
theorem bcells_bs (l : List UInt8) : bcells (bs l) = flatV encU8 l := by
  unfold bcells flatV
  rw [data_bs]
  apply Array.ext'
  simp only [Array.toList_map]
  induction l with
  | nil => rfl
  | cons x l ih => simp [encU8] at ih ⊢; exact ih
theorem aconv_sb {P : Program} {h : AH} {src dst e : TypeId} {l : List UInt8} (hs : P.underlying src = some .string) (hd : P.underlying dst = some (.slice e)) (he : P.underlying e = some (.int .u8)) :
    aconvert P h src dst (.string (bs l)) = some (.slice (some ⟨h.length, 0, none⟩) l.length l.length, h ++ [.cells (flatV encU8 l) 1 true]) := by
  simp only [aconvert, hs, hd, he, bcells_bs, size_bs]
theorem acct_build (n : UInt64) (w : Word4) (vc vs : Value) : ((blit ((#[Value.int .u64 0] ++ (#[Value.int .u64 0, Value.int .u64 0, Value.int .u64 0, Value.int .u64 0] ++ #[Value.slice none 0 0, Value.slice none 0 0])).setIfInBounds 0 (.int .u64 n.toNat)) 1 (encWord w)).setIfInBounds 5 vc).setIfInBounds 6 vs = (Value.int .u64 n.toNat :: (encWord w ++ [vc, vs])).toArray := by
  have e1 : (#[Value.int .u64 0] ++ (#[Value.int .u64 0, Value.int .u64 0, Value.int .u64 0, Value.int .u64 0] ++ #[Value.slice none 0 0, Value.slice none 0 0])).setIfInBounds 0 (.int .u64 n.toNat) = ([Value.int .u64 n.toNat] ++ ([Value.int .u64 0, Value.int .u64 0, Value.int .u64 0, Value.int .u64 0] ++ [Value.slice none 0 0, Value.slice none 0 0])).toArray := rfl
  have e2 := blit_mid (encWord w) [Value.int .u64 n.toNat] [Value.int .u64 0, Value.int .u64 0, Value.int .u64 0, Value.int .u64 0] [Value.slice none 0 0, Value.slice none 0 0] (by simp [length_encWord])
  rw [e1]
  rw [List.length_singleton] at e2
  rw [e2]
  apply Array.ext'
  simp only [Array.toList_setIfInBounds]
  rw [List.set_append_right _ _ (by simp [length_encWord]), List.set_append_right _ _ (by simp [length_encWord]), List.set_append_right _ _ (by simp [length_encWord]), List.set_append_right _ _ (by simp [length_encWord])]
  simp only [List.length_singleton, length_encWord]
  rfl
theorem size_acct (n : UInt64) (w : Word4) (vc vs : Value) : (Value.int .u64 n.toNat :: (encWord w ++ [vc, vs])).length = 7 := by simp [length_encWord]
theorem entV_build (e : Ent) (vc vs : Value) : blit (blit (Array.replicate 20 (Value.int .u8 0) ++ #[Value.int .u64 0, Value.int .u64 0, Value.int .u64 0, Value.int .u64 0, Value.int .u64 0, Value.slice none 0 0, Value.slice none 0 0]) 0 (encAddr e.addr)) 20 (Value.int .u64 e.nonce.toNat :: (encWord e.bal ++ [vc, vs])) = (encEntV e vc vs).toArray := by
  have e1 : (Array.replicate 20 (Value.int .u8 0) ++ #[Value.int .u64 0, Value.int .u64 0, Value.int .u64 0, Value.int .u64 0, Value.int .u64 0, Value.slice none 0 0, Value.slice none 0 0]) = ([] ++ (List.replicate 20 (Value.int .u8 0) ++ [Value.int .u64 0, Value.int .u64 0, Value.int .u64 0, Value.int .u64 0, Value.int .u64 0, Value.slice none 0 0, Value.slice none 0 0])).toArray := by
    apply Array.ext'; simp
  have h1 := blit_mid (encAddr e.addr) [] (List.replicate 20 (Value.int .u8 0)) [Value.int .u64 0, Value.int .u64 0, Value.int .u64 0, Value.int .u64 0, Value.int .u64 0, Value.slice none 0 0, Value.slice none 0 0] (by simp [length_encAddr])
  have h2 := blit_mid (Value.int .u64 e.nonce.toNat :: (encWord e.bal ++ [vc, vs])) (encAddr e.addr) [Value.int .u64 0, Value.int .u64 0, Value.int .u64 0, Value.int .u64 0, Value.int .u64 0, Value.slice none 0 0, Value.slice none 0 0] [] (by simp [length_encWord])
  rw [e1]
  rw [List.length_nil] at h1
  rw [h1, List.nil_append]
  rw [length_encAddr, List.append_nil, List.append_nil] at h2
  rw [h2]; rfl
theorem size_entV (a : Addr20) : (blit (Array.replicate 20 (Value.int .u8 0) ++ #[Value.int .u64 0, Value.int .u64 0, Value.int .u64 0, Value.int .u64 0, Value.int .u64 0, Value.slice none 0 0, Value.slice none 0 0]) 0 (encAddr a)).size = 27 := by rw [size_blit]; rfl
/-- one account more -/
theorem EntsAt.more {k : AH} {base : Nat} {vo : Value} {Oo : List Nat} {xs : List EV} (ek : EntsAt k base vo Oo xs) (hb : base ≤ k.length) (hn : xs.length < 2 ^ 30) (e : Ent) {ry : Option Addr} {rn rc : Nat} {O2 : List Nat} (T : AH) (hr : RowAt encSlt 8 (k ++ T) (.slice ry rn rc) O2 e.slots.l) (hO2 : ∀ i ∈ O2, base ≤ i) {vc : Value} (hvc : vc = .slice (some ⟨k.length + T.length, 0, none⟩) e.code.l.length e.code.l.length) :
    ∃ v' H' O', mkApp (k ++ (T ++ [.cells (flatV encU8 e.code.l) 1 true, .cells (encEntV e vc (.slice ry rn rc)).toArray 27 true])) vo (some (true, 27, 112)) (some (1, (encEntV e vc (.slice ry rn rc)).toArray)) = some (v', H') ∧
      EntsAt H' base v' O' (xs ++ [(e, vc, .slice ry rn rc)]) ∧ Rest Oo k H' := by
  obtain ⟨K4, hK⟩ : ∃ K4, K4 = k ++ (T ++ [.cells (flatV encU8 e.code.l) 1 true, .cells (encEntV e vc (.slice ry rn rc)).toArray 27 true]) := ⟨_, rfl⟩
  rw [← hK]
  have eK : EntsAt K4 base vo Oo xs := ek.rest (Q := []) (by rw [hK]; exact Rest.app) (by simp)
  obtain ⟨v', H', O', happ, hrow', hrest', hnew'⟩ := RowAt.append (g := true) (by_ := 112) eK.row length_encX (e, vc, .slice ry rn rc) ⟨by omega, by omega⟩
  have hcode : RowAt encU8 1 K4 vc [k.length + T.length] e.code.l := by
    refine .inr ⟨k.length + T.length, flatV encU8 e.code.l, e.code.l.length, hvc, rfl, ?_, flat_size length_encU8 _, Nat.le_refl _, ?_⟩
    · rw [hK, ← List.append_assoc, List.getElem?_append_right (by simp)]; simp
    · have := flat_size length_encU8 e.code.l
      rw [← this, Array.extract_size]
  have hsl : RowAt encSlt 8 K4 (.slice ry rn rc) O2 e.slots.l := by
    rw [hK, ← List.append_assoc]
    exact hr.rest (Rest.app (O := [])) (by simp)
  refine ⟨v', H', O', happ, ⟨hrow', fun i hi => ?_, fun y hy => ?_, fun y hy => ?_⟩, ?_⟩
  · rcases hnew' i hi with h | h
    · exact eK.new i h
    · rw [hK] at h; simp at h; omega
  · rcases List.mem_append.1 hy with hy | hy
    · obtain ⟨O1, r1, n1⟩ := eK.code y hy
      exact ⟨O1, r1.rest hrest' (RowAt.ne r1 eK.row (by decide)), n1⟩
    · rw [List.mem_singleton] at hy
      subst hy
      exact ⟨_, hcode.rest hrest' (RowAt.ne hcode eK.row (by decide)), by simp; omega⟩
  · rcases List.mem_append.1 hy with hy | hy
    · obtain ⟨O1, r1, n1⟩ := eK.slots y hy
      exact ⟨O1, r1.rest hrest' (RowAt.ne r1 eK.row (by decide)), n1⟩
    · rw [List.mem_singleton] at hy
      subst hy
      exact ⟨_, hsl.rest hrest' (RowAt.ne hsl eK.row (by decide)), hO2⟩
  · rw [hK] at hrest'
    exact (Rest.app (O := Oo)).trans hrest' (Gets.refl _ _)
end Go.Am

set_option linter.unusedSimpArgs false
set_option linter.unusedVariables false
/- Accounts that are told: there are such. -/
namespace Go.Am
open Go Go.Proofs
theorem exists_rising {α : Type} (f : α → Nat) (hf : ∀ {x y : α}, f x = f y → x = y) (X : List α) : ∃ D : List α, D.Pairwise (fun x y => f x < f y) ∧ ∀ x, x ∈ D ↔ x ∈ X := by
  induction X with
  | nil => exact ⟨[], .nil, fun x => Iff.rfl⟩
  | cons a X ih =>
    obtain ⟨D, h1, h2⟩ := ih
    refine ⟨D.filter (fun x => decide (f x < f a)) ++ a :: D.filter (fun x => decide (f a < f x)), ?_, fun x => ?_⟩
    · rw [List.pairwise_append, List.pairwise_cons]
      refine ⟨h1.filter _, ⟨fun y hy => by simpa using (List.mem_filter.1 hy).2, h1.filter _⟩, fun x hx y hy => ?_⟩
      have hx' : f x < f a := by simpa using (List.mem_filter.1 hx).2
      rcases List.mem_cons.1 hy with rfl | hy
      · exact hx'
      · have : f a < f y := by simpa using (List.mem_filter.1 hy).2
        omega
    · simp only [List.mem_append, List.mem_cons, List.mem_filter, decide_eq_true_eq, h2]
      constructor
      · rintro (⟨h, _⟩ | rfl | ⟨h, _⟩)
        · exact .inr h
        · exact .inl rfl
        · exact .inr h
      · rintro (rfl | h)
        · exact .inr (.inl rfl)
        · rcases Nat.lt_trichotomy (f x) (f a) with h3 | h3 | h3
          · exact .inl ⟨h, h3⟩
          · exact .inr (.inl (hf h3))
          · exact .inr (.inr ⟨h, h3⟩)
theorem nodup_rising {α : Type} {f : α → Nat} {D : List α} (h : D.Pairwise (fun x y => f x < f y)) : D.Nodup :=
  h.imp fun {x y} hxy he => by subst he; omega
theorem MFun.keyList {K V : Type} [DecidableEq K] {P : Program} {k : TypeId} {encK : K → Value} {encV : V → Value} {es : Array MapEntry} {clock : Nat} {f : K → Option V} (m : MFun P k encK encV es clock f) (hinj : ∀ x y, encK x = encK y → x = y) : ∃ l : List K, l.length = es.size ∧ ∀ x, x ∈ l ↔ f x ≠ none := by
  obtain ⟨l, hl⟩ : ∃ l : List K, l.map encK = es.toList.map (·.key) := by
    have hk := m.keys
    generalize es.toList = el at hk
    induction el with
    | nil => exact ⟨[], rfl⟩
    | cons e el ih =>
      obtain ⟨l, hl⟩ := ih fun e' he' => hk e' (List.mem_cons_of_mem _ he')
      obtain ⟨x, hx⟩ := hk e (by simp)
      exact ⟨x :: l, by simp [hl, hx]⟩
  refine ⟨l, by simpa using congrArg List.length hl, fun x => ?_⟩
  rw [← m.keys_iff, ← hl, List.mem_map]
  constructor
  · intro h; exact ⟨x, h, rfl⟩
  · rintro ⟨y, h1, h2⟩; rw [← hinj _ _ h2]; exact h1
/-- a world can be told -/
theorem isEnts_exist {S : WS} {lA : List Addr20} {lS : List Plc} (hA : ∀ x, x ∈ lA ↔ S.all x ≠ none) (hS : ∀ x, x ∈ lS ↔ S.slots x ≠ none) : ∃ L, IsEnts S L ∧ L.length ≤ lA.length + lS.length := by
  obtain ⟨L, hL, hLm⟩ := exists_rising Plc.rank plc_inj lS
  have hLm' : ∀ p, p ∈ L ↔ S.slots p ≠ none := fun p => (hLm p).trans (hS p)
  obtain ⟨D, hD, hDm⟩ := exists_rising addrN addrN_inj (lA ++ (L.map (·.addr)).filter fun a => decide (ownF S L a ≠ []))
  have hDm' : ∀ a, a ∈ D ↔ S.all a ≠ none ∨ ownF S L a ≠ [] := fun a => by
    rw [hDm, List.mem_append, hA, List.mem_filter]
    constructor
    · rintro (h | ⟨_, h⟩)
      · exact .inl h
      · exact .inr (by simpa using h)
    · rintro (h | h)
      · exact .inl h
      · refine .inr ⟨?_, by simpa using h⟩
        obtain ⟨s, hs⟩ := List.exists_mem_of_ne_nil _ h
        exact List.mem_map.2 ⟨_, (mem_ownF.1 hs).1, rfl⟩
  refine ⟨_, isEnts_of hL hLm' hD hDm', ?_⟩
  have h1 := List.length_filterMap_le (entOf S (ownF S L)) D
  have h2 := nodup_len (nodup_rising hD) fun x hx => (hDm x).1 hx
  have h3 := nodup_len (nodup_rising hL) fun x hx => (hLm x).1 hx
  have h4 := List.length_filter_le (fun a => decide (ownF S L a ≠ [])) (L.map (·.addr))
  simp only [List.length_append, List.length_map] at h2 h4
  omega
/-- accounts can lie in rows -/
theorem EntsAt.exist (H : AH) (L : List Ent) (hL : L.length < 2 ^ 30) : ∃ h v O xs, EntsAt h H.length v O xs ∧ xs.map (·.1) = L ∧ Rest [] H h := by
  obtain ⟨M, rfl⟩ : ∃ M, L = M.reverse := ⟨L.reverse, by simp⟩
  rw [List.length_reverse] at hL
  induction M with
  | nil => exact ⟨H, .slice none 0 0, [], [], ⟨.nil, by simp, by simp, by simp⟩, rfl, .refl _ _⟩
  | cons e M ih =>
    rw [List.length_cons] at hL
    obtain ⟨h, v, O, xs, e1, e2, e3⟩ := ih (by omega)
    have hb := e3.len
    have hxl : xs.length = M.length := by have := congrArg List.length e2; simpa using this
    have hr : RowAt encSlt 8 (h ++ [.cells (flatV encSlt e.slots.l) 8 true]) (.slice (some ⟨h.length, 0, none⟩) e.slots.l.length e.slots.l.length) [h.length] e.slots.l := by
      refine .inr ⟨h.length, flatV encSlt e.slots.l, e.slots.l.length, rfl, rfl, by simp, flat_size length_encSlt _, Nat.le_refl _, ?_⟩
      have := flat_size length_encSlt e.slots.l
      rw [← this, Array.extract_size]
    obtain ⟨v', H', O', _, m2, m3⟩ := e1.more hb (by omega) e _ hr (by simp; omega) rfl
    refine ⟨H', v', O', _, m2, ?_, (e3.trans m3 (Gets.far fun i hi => .inr (e1.new i hi))).cut (by simp)⟩
    rw [List.map_append, e2]; simp
theorem aconv_row {P : Program} {h : AH} {src dst e : TypeId} {v : Value} {O : List Nat} {l : List UInt8} (hs : P.underlying src = some (.slice e)) (he : P.underlying e = some (.int .u8)) (hd : P.underlying dst = some .string) (r : RowAt encU8 1 h v O l) : aconvert P h src dst v = some (.string (bs l), h) := by
  rcases r with ⟨rfl, rfl, rfl⟩ | ⟨b, c, cap, rfl, rfl, hb, hsz, hc, hx⟩
  · simp only [aconvert, hs, hd, he]; rfl
  · simp only [aconvert, hs, hd, he]
    by_cases h0 : l.length = 0
    · rw [if_pos h0]
      have : l = [] := List.length_eq_zero_iff.1 h0
      subst this; rfl
    · rw [if_neg h0, hb]
      simp only [Nat.zero_add]
      rw [if_pos (by omega)]
      rw [Nat.mul_one] at hx
      rw [hx, flat_u8]
      simp only [bytesIn_u8]
      rfl
/-- accounts that lie in rows are read -/
theorem EntsAt.reads {P : Program} {tE tEe tS tSe tB tStr tU : TypeId} {b1 b2 : Nat} {g1 g2 : Bool} (hE : slc P tE = some (g1, 27, b1)) (hEe : tyc P tEe = some (true, 27)) (hS : slc P tS = some (g2, 8, b2)) (hSe : tyc P tSe = some (true, 8)) (hB : P.underlying tB = some (.slice tU)) (hU : P.underlying tU = some (.int .u8)) (hStr : P.underlying tStr = some .string) {H : AH} {base : Nat} {v : Value} {O : List Nat} {xs : List EV} (e : EntsAt H base v O xs) :
    EntsIn P tE tEe tS tSe tB tStr H (List.range' base (H.length - base)) v (xs.map (·.1)) := by
  have inO : ∀ {γ : Type} {en : γ → List Value} {m : Nat} {v : Value} {O : List Nat} {l : List γ}, RowAt en m H v O l → (∀ i ∈ O, base ≤ i) → ∀ i ∈ O, i ∈ List.range' base (H.length - base) := fun r h i hi => by
    rcases r with ⟨_, _, rfl⟩ | ⟨b, c, cap, _, rfl, hb, _⟩
    · simp at hi
    · rw [List.mem_singleton] at hi
      subst hi
      have h1 := (List.getElem?_eq_some_iff.1 hb).1
      have h2 := h i (by simp)
      rw [List.mem_range'_1]; omega
  have r := rdS_row hE hEe length_encX e.row
  have ag : ∀ H', Agr (List.range' base (H.length - base)) H H' → Agr O H H' := fun H' a i hi => a i (inO e.row e.new i hi)
  refine ⟨fun H' a => by rw [List.length_map]; exact r.len H' (ag H' a), fun H' a i hi => ?_⟩
  have hi' : i < xs.length := by simpa using hi
  obtain ⟨p, h1, h2⟩ := r.at_ H' (ag H' a) i hi'
  refine ⟨p, xs[i].2.1, xs[i].2.2, h1, by rw [List.getElem_map]; exact h2, ?_⟩
  rw [List.getElem_map]
  obtain ⟨O1, c1, c2⟩ := e.code xs[i] (List.getElem_mem hi')
  obtain ⟨O2, s1, s2⟩ := e.slots xs[i] (List.getElem_mem hi')
  refine ⟨fun H'' a' => aconv_row (O := O1) hB hU hStr ?_, ?_⟩
  · rcases c1 with q | ⟨b, c, cap, q1, q2, q3, q4⟩
    · exact .inl q
    · exact .inr ⟨b, c, cap, q1, q2, by rw [a' b (inO (l := xs[i].1.code.l) (.inr ⟨b, c, cap, q1, q2, q3, q4⟩) c2 b (by rw [q2]; simp))]; exact q3, q4⟩
  · have r2 := rdS_row hS hSe length_encSlt s1
    exact ⟨fun H' a' => r2.len H' fun i hi => a' i (inO s1 s2 i hi), fun H' a' => r2.at_ H' fun i hi => a' i (inO s1 s2 i hi)⟩
end Go.Am

