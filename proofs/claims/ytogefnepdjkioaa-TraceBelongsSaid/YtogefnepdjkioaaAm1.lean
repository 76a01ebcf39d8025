import Derived.Test.YtogefnepdjkioaaAm0
set_option linter.unusedVariables false
/- The abstract heap, and what it says of a world. -/
namespace Go.Am
open Go

structure Img where
  blk : Nat
  off : Nat
  n : Nat
  N : Nat
  es : Nat

/-- where blocks lie, and what is known of memory that nobody writes any more -/
structure Emb where
  img : Nat → Img
  rom : Nat → Option (Array Value)

instance : CoeFun Emb (fun _ => Nat → Img) := ⟨Emb.img⟩

def Emb.Agree (L : Nat) (f f' : Emb) : Prop := (∀ b, b < L → f' b = f b) ∧ ∀ r ds, f.rom r = some ds → f'.rom r = some ds
theorem Emb.Agree.refl (L : Nat) (f : Emb) : Emb.Agree L f f := ⟨fun _ _ => rfl, fun _ _ h => h⟩
theorem Emb.Agree.trans {L L' : Nat} {f f1 f2 : Emb} (h : Emb.Agree L f f1) (k : Emb.Agree L' f1 f2) (hl : L ≤ L') : Emb.Agree L f f2 :=
  ⟨fun b hb => (k.1 b (Nat.lt_of_lt_of_le hb hl)).trans (h.1 b hb), fun r ds e => k.2 r ds (h.2 r ds e)⟩

/-- a slice that nobody writes any more: its cells, its length -/
def fz (cs : Array Value) (n : Nat) : Value := .func (.yield 0) cs #[.int .i64 n]
/-- a pointer into such -/
def fp (cs : Array Value) (o : Nat) : Value := .func (.yield 1) cs #[.int .i64 o]

/-- the number beside a row's cells -/
def fzN (ks : Array Value) : Option Nat :=
  match ks.toList with
  | [.int .i64 k] => if 0 ≤ k then some k.toNat else none
  | _ => none
theorem fzN_lit (n : Nat) : fzN #[.int .i64 n] = some n := by simp only [fzN]; rw [if_pos (by omega)]; rfl

def CapRel (I : Img) (o c c' : Nat) : Prop :=
  c' = c ∨ (I.es ≠ 0 ∧ o + c * I.es = I.n ∧ I.off + o + c' * I.es = I.N ∧ c ≤ c')

theorem CapRel.le {I : Img} {o c c' : Nat} (h : CapRel I o c c') : c ≤ c' := by
  rcases h with rfl | ⟨_, _, _, h⟩
  · exact Nat.le_refl _
  · exact h

def Fn.plain : Fn → Bool
  | .func _ => true
  | _ => false

inductive VRel (f : Emb) (L : Nat) : Value → Value → Prop
  | junk (v : Value) : VRel f L junk v
  | bool (b : Bool) : VRel f L (.bool b) (.bool b)
  | int (k : IntKind) (n : Int) : VRel f L (.int k n) (.int k n)
  | string (s : ByteArray) : VRel f L (.string s) (.string s)
  | nilFunc : VRel f L .nilFunc .nilFunc
  | nilIface : VRel f L .nilIface .nilIface
  | nilPtr : VRel f L (.pointer none) (.pointer none)
  | ptr (b o r o' : Nat) (hb : b < L) (hr : r = (f b).blk) (ho : o' = (f b).off + o) : VRel f L (.pointer (some ⟨b, o, none⟩)) (.pointer (some ⟨r, o', none⟩))
  | nilMap : VRel f L (.map none) (.map none)
  | map (b r : Nat) (hb : b < L) (hr : r = (f b).blk) : VRel f L (.map (some b)) (.map (some r))
  | nilSlice (l c : Nat) : VRel f L (.slice none l c) (.slice none l c)
  | slice (b o l c c' r o' : Nat) (hb : b < L) (hr : r = (f b).blk) (ho : o' = (f b).off + o) (hc : CapRel (f b) o c c') :
      VRel f L (.slice (some ⟨b, o, none⟩) l c) (.slice (some ⟨r, o', none⟩) l c')
  | slice0 (a a' : Addr) (hb : a.block < L) : VRel f L (.slice (some a) 0 0) (.slice (some a') 0 0)
  | func (fn : Fn) (xs ys cs ds : Array Value) (hfn : Fn.plain fn = true) (hx : xs.size = ys.size) (hxy : ∀ i : Nat, VRel f L (xs.getD i junk) (ys.getD i junk))
      (hc : cs.size = ds.size) (hcd : ∀ i : Nat, VRel f L (cs.getD i junk) (ds.getD i junk)) : VRel f L (.func fn xs cs) (.func fn ys ds)
  | iface (t : TypeId) (v v' : Value) (hv : VRel f L v v') : VRel f L (.iface t v) (.iface t v')
  | agg (xs ys : Array Value) (hx : xs.size = ys.size) (hxy : ∀ i : Nat, VRel f L (xs.getD i junk) (ys.getD i junk)) (hone : ∀ i : Nat, (ys.getD i junk).oneCell' = true) :
      VRel f L (.agg xs) (.agg ys)
  | tuple (xs ys : Array Value) (hx : xs.size = ys.size) (hxy : ∀ i : Nat, VRel f L (xs.getD i junk) (ys.getD i junk)) : VRel f L (.tuple xs) (.tuple ys)
  | fz (cs : Array Value) (n r o c : Nat) (ds : Array Value) (hrom : f.rom r = some ds) (hle : o + cs.size ≤ ds.size) (hn : n ≤ c)
      (hxy : ∀ i : Nat, VRel f L (cs.getD i junk) (if i < cs.size then ds.getD (o + i) junk else junk)) (hone : ∀ i : Nat, i < cs.size → (ds.getD (o + i) junk).oneCell' = true) :
      VRel f L (.func (.yield 0) cs #[.int .i64 n]) (.slice (some ⟨r, o, none⟩) n c)
  | fz0 (a : Addr) (c : Nat) : VRel f L (.func (.yield 0) #[] #[.int .i64 (0 : Nat)]) (.slice (some a) 0 c)
  | fp (cs : Array Value) (k r o o' : Nat) (ds : Array Value) (hrom : f.rom r = some ds) (hle : o + cs.size ≤ ds.size) (ho : o' = o + k)
      (hxy : ∀ i : Nat, VRel f L (cs.getD i junk) (if i < cs.size then ds.getD (o + i) junk else junk)) (hone : ∀ i : Nat, i < cs.size → (ds.getD (o + i) junk).oneCell' = true) :
      VRel f L (.func (.yield 1) cs #[.int .i64 k]) (.pointer (some ⟨r, o', none⟩))

/-- rows of values -/
def ARel (f : Emb) (L : Nat) (xs ys : Array Value) : Prop := xs.size = ys.size ∧ ∀ i : Nat, VRel f L (xs.getD i junk) (ys.getD i junk)

theorem VRel.mono {f f' : Emb} {L L' : Nat} {v v' : Value} (h : VRel f L v v') (hL : L ≤ L') (hf : Emb.Agree L f f') : VRel f' L' v v' := by
  induction h with
  | junk v => exact .junk v
  | bool b => exact .bool b
  | int k n => exact .int k n
  | string s => exact .string s
  | nilFunc => exact .nilFunc
  | nilIface => exact .nilIface
  | nilPtr => exact .nilPtr
  | ptr b o r o' hb hr ho => exact .ptr b o r o' (by omega) (by rw [hf.1 b hb]; exact hr) (by rw [hf.1 b hb]; exact ho)
  | nilMap => exact .nilMap
  | map b r hb hr => exact .map b r (by omega) (by rw [hf.1 b hb]; exact hr)
  | nilSlice l c => exact .nilSlice l c
  | slice b o l c c' r o' hb hr ho hc => exact .slice b o l c c' r o' (by omega) (by rw [hf.1 b hb]; exact hr) (by rw [hf.1 b hb]; exact ho) (by rw [hf.1 b hb]; exact hc)
  | slice0 a a' hb => exact .slice0 a a' (by omega)
  | func fn xs ys cs ds hfn hx hxy hc hcd ih1 ih2 => exact .func fn xs ys cs ds hfn hx ih1 hc ih2
  | iface t v v' hv ih => exact .iface t v v' ih
  | agg xs ys hx hxy hone ih => exact .agg xs ys hx ih hone
  | tuple xs ys hx hxy ih => exact .tuple xs ys hx ih
  | fz cs n r o c ds hrom hle hn hxy hone ih => exact .fz cs n r o c ds (hf.2 _ _ hrom) hle hn ih hone
  | fz0 a c => exact .fz0 a c
  | fp cs k r o o' ds hrom hle ho hxy hone ih => exact .fp cs k r o o' ds (hf.2 _ _ hrom) hle ho ih hone

theorem ARel.mono {f f' : Emb} {L L' : Nat} {xs ys : Array Value} (h : ARel f L xs ys) (hL : L ≤ L') (hf : Emb.Agree L f f') : ARel f' L' xs ys :=
  ⟨h.1, fun i => (h.2 i).mono hL hf⟩

theorem ARel.set {f : Emb} {L : Nat} {xs ys : Array Value} (h : ARel f L xs ys) (d : Nat) {v v' : Value} (hv : VRel f L v v') :
    ARel f L (xs.setIfInBounds d v) (ys.setIfInBounds d v') := by
  refine ⟨by simpa using h.1, fun i => ?_⟩
  have h1 := h.1
  by_cases hd : d = i
  · subst hd
    by_cases hlt : d < xs.size
    · have hlt' : d < ys.size := by omega
      simp [hlt, hlt', Array.getD]
      exact hv
    · have hlt' : ¬ d < ys.size := by omega
      simp [Array.getD, hlt, hlt']
      exact .junk _
  · have := h.2 i
    simp only [Array.getD_eq_getD_getElem?, Array.getElem?_setIfInBounds_ne hd] at this ⊢
    exact this

/-- The objects of the abstract heap. -/
inductive AObj where
  | dead
  | cells (c : Array Value) (es : Nat) (rw : Bool)
  | map (k : TypeId) (es : Array MapEntry) (clock : Nat)
  | miter (m : Option Nat) (since : Nat) (seen : Array Nat) (stepped : Nat)

def AObj.rw : AObj → Bool
  | .dead => false
  | .cells _ _ r => r
  | .map _ _ _ => true
  | .miter .. => true

def AObj.alive : AObj → Bool
  | .dead => false
  | _ => true

abbrev AH := List AObj

/-- what holds of a map: its keys are of its kind, no two are the same, each entry has its own number -/
structure MapOk (P : Program) (k : TypeId) (es : List MapEntry) (clock : Nat) : Prop where
  ty : keyTy P k = true
  keys : ∀ e ∈ es, keyed P k e.key = true
  apart : (es.map (·.key)).Nodup
  old : ∀ e ∈ es, e.born < clock
  born : (es.map (·.born)).Nodup

def AObj.ok (P : Program) : AObj → Prop
  | .map k es clock => MapOk P k es.toList clock
  | _ => True
theorem ok_cells {P : Program} {c : Array Value} {es : Nat} {rw : Bool} : (AObj.cells c es rw).ok P := trivial

def EntryRel (f : Emb) (L : Nat) (e e' : MapEntry) : Prop := e'.key = e.key ∧ e'.born = e.born ∧ VRel f L e.val e'.val

def ORel (f : Emb) (L : Nat) (I : Img) : AObj → Obj → Prop
  | .dead, _ => True
  | .cells c es rw, o' => ∃ c' elem fr, o' = .cells c' elem fr ∧ c.size = I.n ∧ es = I.es ∧ I.off + I.n ≤ I.N ∧ (rw = true → I.N ≤ c'.size ∧ ∀ i : Nat, i < c'.size → (fr.1 ≤ i && i < fr.2) = false) ∧ I.off + I.n ≤ c'.size ∧
      ∀ i : Nat, i < c.size → VRel f L (c.getD i Am.junk) (c'.getD (I.off + i) Am.junk) ∧ (c'.getD (I.off + i) Am.junk).oneCell' = true
  | .map k es clock, o' => ∃ es', o' = .map es' clock ∧ es.size = es'.size ∧ ∀ (i : Nat) (e : MapEntry), es[i]? = some e → ∃ e' : MapEntry, es'[i]? = some e' ∧ EntryRel f L e e'
  | .miter m since seen stepped, o' => I.off = 0 ∧ ∃ m', o' = .mapIter m' since seen stepped ∧ (match m, m' with | none, none => True | some b, some r => b < L ∧ r = (f b).blk | _, _ => False)

theorem EntryRel.mono {f f' : Emb} {L L' : Nat} {e e' : MapEntry} (h : EntryRel f L e e') (hL : L ≤ L') (hf : Emb.Agree L f f') : EntryRel f' L' e e' :=
  ⟨h.1, h.2.1, h.2.2.mono hL hf⟩

theorem ORel.mono {f f' : Emb} {L L' : Nat} {I : Img} {o : AObj} {o' : Obj} (h : ORel f L I o o') (hL : L ≤ L') (hf : Emb.Agree L f f') : ORel f' L' I o o' := by
  cases o with
  | dead => simp [ORel]
  | cells c es rw =>
    obtain ⟨c', elem, fr, h1, h2, h3, h4, h5, h6, h7⟩ := h
    exact ⟨c', elem, fr, h1, h2, h3, h4, h5, h6, fun i hi => ⟨(h7 i hi).1.mono hL hf, (h7 i hi).2⟩⟩
  | map k es clock =>
    obtain ⟨es', h1, h2, h3⟩ := h
    exact ⟨es', h1, h2, fun i e he => let ⟨e', h4, h5⟩ := h3 i e he; ⟨e', h4, h5.mono hL hf⟩⟩
  | miter m since seen stepped =>
    obtain ⟨h0, m', h1, h2⟩ := h
    refine ⟨h0, m', h1, ?_⟩
    cases m <;> cases m' <;> simp only at h2 ⊢
    obtain ⟨h2, h3⟩ := h2
    exact ⟨by omega, by rw [hf.1 _ h2]; exact h3⟩

/-- The world holds what the abstract heap says. -/
structure Sim (P : Program) (f : Emb) (h : AH) (w : World) : Prop where
  obj : ∀ (b : Nat) (o : AObj), h[b]? = some o → o.alive = true → ∃ o', w.heap[(f b).blk]? = some o' ∧ ORel f h.length (f b) o o'
  sep : ∀ (b b' : Nat) (o o' : AObj), h[b]? = some o → h[b']? = some o' → o.alive = true → o'.alive = true → o.rw = true → b ≠ b' → (f b).blk ≠ (f b').blk
  glob : ∀ g, g < P.globals.size → (f g).blk = g ∧ (f g).off = 0
  size : P.globals.size ≤ h.length
  rom : ∀ r ds, f.rom r = some ds → (∃ elem fr, w.heap[r]? = some (.cells ds elem fr)) ∧ ∀ b o, h[b]? = some o → o.rw = true → (f b).blk ≠ r
  laid : laidOutB P = true
  ok : ∀ (b : Nat) (o : AObj), h[b]? = some o → o.ok P

/-- What a call leaves: only what the heap marks as its own may have turned. -/
structure Keep (f : Emb) (h : AH) (w w' : World) : Prop where
  os : w'.os = w.os
  tape : w'.tape = w.tape
  output : w'.output = w.output
  size : w.heap.size ≤ w'.heap.size
  block : ∀ r, r < w.heap.size → (∀ b o, h[b]? = some o → o.rw = true → (f b).blk ≠ r) → w'.heap[r]? = w.heap[r]?

theorem Keep.refl (f : Emb) (h : AH) (w : World) : Keep f h w w := ⟨rfl, rfl, rfl, Nat.le_refl _, fun _ _ _ => rfl⟩

/-- The state of an activation: the frame, the heap, what it may write. -/
structure Good (P : Program) (f0 : Emb) (h0 : AH) (w0 : World) (f : Emb) (a : Array Value) (h : AH) (a' : Act) (w : World) : Prop where
  sim : Sim P f h w
  tm : ARel f h.length a a'.tmps
  df : a'.defers = []
  keep : Keep f0 h0 w0 w
  own : ∀ b o, h[b]? = some o → o.rw = true → w0.heap.size ≤ (f b).blk ∨ ∃ b0 o0, h0[b0]? = some o0 ∧ o0.rw = true ∧ (f0 b0).blk = (f b).blk
  agree : Emb.Agree h0.length f0 f
  len : h0.length ≤ h.length

/-- One step of an activation. -/
structure Step (P : Program) (f : Emb) (h : AH) (w : World) (f1 : Emb) (h1 : AH) (w1 : World) : Prop where
  sim : Sim P f1 h1 w1
  agree : Emb.Agree h.length f f1
  len : h.length ≤ h1.length
  keep : Keep f h w w1
  own : ∀ b o, h1[b]? = some o → o.rw = true → w.heap.size ≤ (f1 b).blk ∨ ∃ b0 o0, h[b0]? = some o0 ∧ o0.rw = true ∧ (f b0).blk = (f1 b).blk

theorem Step.refl {P : Program} {f : Emb} {h : AH} {w : World} (hs : Sim P f h w) : Step P f h w f h w :=
  ⟨hs, .refl _ _, Nat.le_refl _, Keep.refl _ _ _, fun b o hb ho => .inr ⟨b, o, hb, ho, rfl⟩⟩

theorem Good.step {P : Program} {f0 : Emb} {h0 : AH} {w0 : World} {f : Emb} {a : Array Value} {h : AH} {a' : Act} {w : World} {f1 : Emb} {h1 : AH} {w1 : World}
    (g : Good P f0 h0 w0 f a h a' w) (s : Step P f h w f1 h1 w1) {b : Array Value} {b' : Act} (hb : ARel f1 h1.length b b'.tmps) (hd : b'.defers = []) :
    Good P f0 h0 w0 f1 b h1 b' w1 := by
  refine ⟨s.sim, hb, hd, ?_, ?_, ?_, Nat.le_trans g.len s.len⟩
  · refine ⟨s.keep.os.trans g.keep.os, s.keep.tape.trans g.keep.tape, s.keep.output.trans g.keep.output, Nat.le_trans g.keep.size s.keep.size, fun r hr hno => ?_⟩
    have h1 := g.keep.block r hr hno
    have h2 := s.keep.block r (Nat.lt_of_lt_of_le hr g.keep.size) (fun b o hb ho e => by
      rcases g.own b o hb ho with hge | ⟨b0, o0, hb0, ho0, he⟩
      · omega
      · exact hno b0 o0 hb0 ho0 (he.trans e))
    exact h2.trans h1
  · intro b o hb ho
    rcases s.own b o hb ho with hge | ⟨b0, o0, hb0, ho0, he⟩
    · exact .inl (Nat.le_trans g.keep.size hge)
    · rcases g.own b0 o0 hb0 ho0 with h1 | ⟨b1, o1, h2, h3, h4⟩
      · exact .inl (by omega)
      · exact .inr ⟨b1, o1, h2, h3, h4.trans he⟩
  · exact g.agree.trans s.agree g.len

theorem getD_append_lt {α : Type} (h : List α) (t : List α) (b : Nat) (hb : b < h.length) : (h ++ t)[b]? = h[b]? := by
  rw [List.getElem?_append_left hb]

/-- where a new block lies -/
def upd (f : Emb) (L : Nat) (I : Img) : Emb := ⟨fun b => if b = L then I else f b, f.rom⟩
theorem upd_eq (f : Emb) (L : Nat) (I : Img) : upd f L I L = I := by simp [upd]
theorem upd_lt (f : Emb) (L : Nat) (I : Img) (b : Nat) (h : b < L) : upd f L I b = f b := by simp only [upd]; rw [if_neg (by omega)]
theorem upd_agree (f : Emb) (L : Nat) (I : Img) : Emb.Agree L f (upd f L I) := ⟨fun b hb => upd_lt f L I b hb, fun _ _ h => h⟩

/-- A new block. -/
theorem Step.alloc {P : Program} {f : Emb} {h : AH} {w : World} (hs : Sim P f h w) (o : AObj) (o' : Obj) (I : Img) (hI : I.blk = w.heap.size)
    (ho : ORel f h.length I o o') (hok : o.ok P := by exact trivial) : Step P f h w (upd f h.length I) (h ++ [o]) (w.alloc o') := by
  have hlt : ∀ (b : Nat) (x : AObj), h[b]? = some x → b < h.length := fun b x hb => (List.getElem?_eq_some_iff.1 hb).1
  have hag : ∀ b, b < h.length → upd f h.length I b = f b := fun b hb => upd_lt _ _ _ _ hb
  have hagr := upd_agree f h.length I
  have hcase : ∀ (b : Nat) (x : AObj), (h ++ [o])[b]? = some x → (b < h.length ∧ h[b]? = some x) ∨ (b = h.length ∧ x = o) := by
    intro b x hb
    by_cases hl : b < h.length
    · exact .inl ⟨hl, by rw [List.getElem?_append_left hl] at hb; exact hb⟩
    · rw [List.getElem?_append_right (by omega)] at hb
      by_cases he : b = h.length
      · subst he; simp at hb; exact .inr ⟨rfl, hb.symm⟩
      · exfalso
        have : b - h.length ≠ 0 := by omega
        obtain ⟨k, hk⟩ := Nat.exists_eq_succ_of_ne_zero this
        rw [hk] at hb
        simp at hb
  refine ⟨⟨?_, ?_, ?_, ?_, ?_, hs.laid, fun b x hb => (hcase b x hb).elim (fun ⟨_, h1⟩ => hs.ok b x h1) (fun ⟨_, e⟩ => e ▸ hok)⟩, hagr, by simp, ?_, ?_⟩
  · intro b x hb ha
    rcases hcase b x hb with ⟨hl, hb'⟩ | ⟨rfl, rfl⟩
    · obtain ⟨y, hy, hr⟩ := hs.obj b x hb' ha
      have hbl : (f b).blk < w.heap.size := (Array.getElem?_eq_some_iff.1 hy).1
      refine ⟨y, ?_, ?_⟩
      · rw [hag b hl]
        show (w.heap.push o')[(f b).blk]? = _
        rw [Array.getElem?_push, if_neg (by omega)]
        exact hy
      · rw [hag b hl]
        exact hr.mono (by simp) hagr
    · refine ⟨o', ?_, ?_⟩
      · simp only [upd_eq, hI]
        show (w.heap.push o')[w.heap.size]? = _
        simp
      · simp only [upd_eq]
        exact ho.mono (by simp) hagr
  · intro b b' x x' hb hb' ha ha' hrw hne
    rcases hcase b x hb with ⟨hl, h1⟩ | ⟨rfl, rfl⟩ <;> rcases hcase b' x' hb' with ⟨hl', h1'⟩ | ⟨rfl, rfl⟩
    · rw [hag b hl, hag b' hl']; exact hs.sep b b' x x' h1 h1' ha ha' hrw hne
    · rw [hag b hl]
      obtain ⟨y, hy, _⟩ := hs.obj b x h1 ha
      have hbl : (f b).blk < w.heap.size := (Array.getElem?_eq_some_iff.1 hy).1
      simp only [upd_eq, hI]; omega
    · rw [hag b' hl']
      obtain ⟨y, hy, _⟩ := hs.obj b' x' h1' ha'
      have hbl : (f b').blk < w.heap.size := (Array.getElem?_eq_some_iff.1 hy).1
      simp only [upd_eq, hI]; omega
    · exact absurd rfl hne
  · intro g hg
    rw [hag g (Nat.lt_of_lt_of_le hg hs.size)]
    exact hs.glob g hg
  · have := hs.size
    simp only [List.length_append]
    omega
  · intro r ds hr
    obtain ⟨⟨elem, fr, h1⟩, h2⟩ := hs.rom r ds hr
    have hlt' : r < w.heap.size := (Array.getElem?_eq_some_iff.1 h1).1
    refine ⟨⟨elem, fr, ?_⟩, fun b x hb hrw => ?_⟩
    · show (w.heap.push o')[r]? = _
      rw [Array.getElem?_push, if_neg (by omega)]; exact h1
    · rcases hcase b x hb with ⟨hl, h3⟩ | ⟨rfl, rfl⟩
      · rw [hag b hl]; exact h2 b x h3 hrw
      · simp only [upd_eq, hI]; omega
  · refine ⟨rfl, rfl, rfl, by simp, fun r hr _ => ?_⟩
    show (w.heap.push o')[r]? = _
    rw [Array.getElem?_push, if_neg (by omega)]
  · intro b x hb hrw
    rcases hcase b x hb with ⟨hl, h1⟩ | ⟨rfl, rfl⟩
    · exact .inr ⟨b, x, h1, hrw, by rw [hag b hl]⟩
    · exact .inl (by simp [upd_eq, hI])

/-- A block of one's own is written. -/
theorem Step.write {P : Program} {f : Emb} {h : AH} {w : World} (hs : Sim P f h w) {b : Nat} {o o1 : AObj} (hb : h[b]? = some o) (ho : o.rw = true)
    (ho1 : o1.rw = true) (hok : o1.ok P) {w1 : World} {o1' : Obj}
    (hw : w1.heap[(f b).blk]? = some o1') (hr : ORel f h.length (f b) o1 o1') (hother : ∀ r, r ≠ (f b).blk → w1.heap[r]? = w.heap[r]?)
    (hos : w1.os = w.os) (htape : w1.tape = w.tape) (hout : w1.output = w.output) (hsize : w1.heap.size = w.heap.size) :
    Step P f h w f (h.set b o1) w1 := by
  have hal : ∀ x : AObj, x.rw = true → x.alive = true := fun x hx => by cases x <;> simp_all [AObj.rw, AObj.alive]
  have hlt : b < h.length := (List.getElem?_eq_some_iff.1 hb).1
  have hcase : ∀ (b' : Nat) (x : AObj), (h.set b o1)[b']? = some x → (b' = b ∧ x = o1) ∨ (b' ≠ b ∧ h[b']? = some x) := by
    intro b' x hx
    by_cases he : b = b'
    · subst he
      rw [List.getElem?_set_self hlt] at hx
      exact .inl ⟨rfl, (Option.some.inj hx).symm⟩
    · rw [List.getElem?_set_ne he] at hx
      exact .inr ⟨fun e => he e.symm, hx⟩
  refine ⟨⟨?_, ?_, hs.glob, by simpa using hs.size, ?_, hs.laid, fun b x hb => (hcase b x hb).elim (fun ⟨_, e⟩ => e ▸ hok) (fun ⟨_, h1⟩ => hs.ok b x h1)⟩, .refl _ _, by simp, ⟨hos, htape, hout, by omega, fun r hr' hno => hother r (fun e => hno b o hb ho e.symm)⟩, ?_⟩
  · intro b' x hx ha
    rcases hcase b' x hx with ⟨rfl, rfl⟩ | ⟨hne, hx'⟩
    · exact ⟨o1', hw, by simpa using hr⟩
    · obtain ⟨y, hy, hyr⟩ := hs.obj b' x hx' ha
      have : (f b).blk ≠ (f b').blk := hs.sep b b' o x hb hx' (hal o ho) ha ho (fun e => hne e.symm)
      exact ⟨y, by rw [hother _ (fun e => this e.symm)]; exact hy, by simpa using hyr⟩
  · intro b1 b2 x1 x2 h1 h2 ha1 ha2 hrw hne
    rcases hcase b1 x1 h1 with ⟨rfl, rfl⟩ | ⟨hn1, h1'⟩ <;> rcases hcase b2 x2 h2 with ⟨rfl, rfl⟩ | ⟨hn2, h2'⟩
    · exact absurd rfl hne
    · exact hs.sep b1 b2 o x2 hb h2' (hal o ho) ha2 ho hne
    · exact fun e => hs.sep b2 b1 o x1 hb h1' (hal o ho) ha1 ho (fun e => hne e.symm) e.symm
    · exact hs.sep b1 b2 x1 x2 h1' h2' ha1 ha2 hrw hne
  · intro r ds hr
    obtain ⟨⟨elem, fr, k1⟩, k2⟩ := hs.rom r ds hr
    refine ⟨⟨elem, fr, by rw [hother r (k2 b o hb ho).symm]; exact k1⟩, fun b' x hx hrw => ?_⟩
    rcases hcase b' x hx with ⟨rfl, rfl⟩ | ⟨hne, hx'⟩
    · exact k2 b' o hb ho
    · exact k2 b' x hx' hrw
  · intro b1 x1 h1 hrw
    rcases hcase b1 x1 h1 with ⟨rfl, rfl⟩ | ⟨hn1, h1'⟩
    · exact .inr ⟨b1, o, hb, ho, rfl⟩
    · exact .inr ⟨b1, x1, h1', hrw, rfl⟩

/-- Draws turn nothing. -/
theorem Sim.congr {P : Program} {f : Emb} {h : AH} {w w1 : World} (hs : Sim P f h w) (e : w1.heap = w.heap) : Sim P f h w1 :=
  ⟨fun b o hb ha => by rw [e]; exact hs.obj b o hb ha, hs.sep, hs.glob, hs.size, fun r ds hr => by rw [e]; exact hs.rom r ds hr, hs.laid, hs.ok⟩

theorem Step.trans {P : Program} {f f1 f2 : Emb} {h h1 h2 : AH} {w w1 w2 : World} (s : Step P f h w f1 h1 w1) (t : Step P f1 h1 w1 f2 h2 w2) : Step P f h w f2 h2 w2 := by
  refine ⟨t.sim, s.agree.trans t.agree s.len, Nat.le_trans s.len t.len, ?_, ?_⟩
  · refine ⟨t.keep.os.trans s.keep.os, t.keep.tape.trans s.keep.tape, t.keep.output.trans s.keep.output, Nat.le_trans s.keep.size t.keep.size, fun r hr hno => ?_⟩
    have h1 := s.keep.block r hr hno
    have h2 := t.keep.block r (Nat.lt_of_lt_of_le hr s.keep.size) (fun b o hb ho e => by
      rcases s.own b o hb ho with hge | ⟨b0, o0, hb0, ho0, he⟩
      · omega
      · exact hno b0 o0 hb0 ho0 (he.trans e))
    exact h2.trans h1
  · intro b o hb ho
    rcases t.own b o hb ho with hge | ⟨b0, o0, hb0, ho0, he⟩
    · exact .inl (Nat.le_trans s.keep.size hge)
    · rcases s.own b0 o0 hb0 ho0 with h1 | ⟨b1, o1, h2, h3, h4⟩
      · exact .inl (by omega)
      · exact .inr ⟨b1, o1, h2, h3, h4.trans he⟩

theorem ARel.step {P : Program} {f f1 : Emb} {h h1 : AH} {w w1 : World} (s : Step P f h w f1 h1 w1) {xs ys : Array Value} (ha : ARel f h.length xs ys) : ARel f1 h1.length xs ys :=
  ha.mono s.len s.agree

/-- A contract over abstract heaps. -/
structure ACalls (P : Program) (F : FuncId) (args : Array Value) (h : AH) (R : Value → AH → Prop) : Prop where
  inh : ∃ v h', R v h'
  run : ∀ (f : Emb) (w : World) (args' : Array Value), Sim P f h w → ARel f h.length args args' →
    Calls P F args' w fun e w' => ∃ f' v v' h', e = .returned v' ∧ R v h' ∧ Step P f h w f' h' w' ∧ VRel f' h'.length v v'

theorem ACalls.mono {P : Program} {F : FuncId} {args : Array Value} {h : AH} {R R' : Value → AH → Prop} (hc : ACalls P F args h R) (hr : ∀ v h', R v h' → R' v h') : ACalls P F args h R' :=
  ⟨let ⟨v, h', r⟩ := hc.inh; ⟨v, h', hr v h' r⟩, fun f w args' hs ha => (hc.run f w args' hs ha).mono fun e w' ⟨f', v, v', h', h1, h2, h3, h4⟩ => ⟨f', v, v', h', h1, hr _ _ h2, h3, h4⟩⟩

end Go.Am
