import Derived.Test.YtogefnepdjkioaaAm10
set_option linter.unusedVariables false
set_option linter.unusedSimpArgs false
/- Forgetting: blocks that nobody needs are dropped, the others get other numbers, slots are let go. -/
namespace Go.Am
open Go

/-- the blocks' numbers turn -/
def Emb.ren (f : Emb) (σ : Nat → Nat) : Emb := ⟨fun b => f (σ b), f.rom⟩

/-- 'v1' is what 'v' becomes when the block 'σ b' is called 'b' -/
inductive VRen (σ : Nat → Nat) (L : Nat) : Value → Value → Prop
  | junk (v : Value) : VRen σ L junk v
  | plain (v : Value) (h : plain1 v = true) : VRen σ L v v
  | ptr (b o b' : Nat) (hb : b < L) (e : b' = σ b) : VRen σ L (.pointer (some ⟨b, o, none⟩)) (.pointer (some ⟨b', o, none⟩))
  | map (b b' : Nat) (hb : b < L) (e : b' = σ b) : VRen σ L (.map (some b)) (.map (some b'))
  | slice (b o l c b' : Nat) (hb : b < L) (e : b' = σ b) : VRen σ L (.slice (some ⟨b, o, none⟩) l c) (.slice (some ⟨b', o, none⟩) l c)
  | func (fn : Fn) (xs ys cs ds : Array Value) (hfn : Fn.plain fn = true) (hx : xs.size = ys.size) (hxy : ∀ i : Nat, VRen σ L (xs.getD i junk) (ys.getD i junk))
      (hc : cs.size = ds.size) (hcd : ∀ i : Nat, VRen σ L (cs.getD i junk) (ds.getD i junk)) : VRen σ L (.func fn xs cs) (.func fn ys ds)
  | iface (t : TypeId) (v v' : Value) (hv : VRen σ L v v') : VRen σ L (.iface t v) (.iface t v')
  | agg (xs ys : Array Value) (hx : xs.size = ys.size) (hxy : ∀ i : Nat, VRen σ L (xs.getD i junk) (ys.getD i junk)) : VRen σ L (.agg xs) (.agg ys)
  | tuple (xs ys : Array Value) (hx : xs.size = ys.size) (hxy : ∀ i : Nat, VRen σ L (xs.getD i junk) (ys.getD i junk)) : VRen σ L (.tuple xs) (.tuple ys)
  | fz (xs ys : Array Value) (n : Nat) (hx : xs.size = ys.size) (hxy : ∀ i : Nat, VRen σ L (xs.getD i junk) (ys.getD i junk)) : VRen σ L (.func (.yield 0) xs #[.int .i64 n]) (.func (.yield 0) ys #[.int .i64 n])
  | fp (xs ys : Array Value) (n : Nat) (hx : xs.size = ys.size) (hxy : ∀ i : Nat, VRen σ L (xs.getD i junk) (ys.getD i junk)) : VRen σ L (.func (.yield 1) xs #[.int .i64 n]) (.func (.yield 1) ys #[.int .i64 n])

theorem VRen.comp {σ : Nat → Nat} {f : Emb} {L1 L : Nat} {v1 v v' : Value} (h : VRen σ L1 v1 v) : VRel f L v v' → VRel (f.ren σ) L1 v1 v' := by
  induction h generalizing v' with
  | junk v => intro _; exact .junk _
  | plain v h => intro k; cases plain1_inv h k; exact plain1_refl h
  | ptr b o b' hb e =>
    intro k
    subst e
    cases k with
    | ptr _ _ r o' hb' hr ho => exact .ptr b _ _ _ hb hr ho
  | map b b' hb e =>
    intro k
    subst e
    cases k with
    | map _ r hb' hr => exact .map b _ hb hr
  | slice b o l c b' hb e =>
    intro k
    subst e
    cases k with
    | slice _ _ _ _ c' r o' hb' hr ho hc => exact .slice b _ _ _ _ _ _ hb hr ho hc
    | slice0 a a' hb' => exact .slice0 _ _ hb
  | func fn xs ys cs ds hfn hx hxy hc hcd ih1 ih2 =>
    intro k
    cases k with
    | fz => cases hfn
    | fz0 => cases hfn
    | fp => cases hfn
    | func _ _ zs _ es hfn' hx' hxy' hc' hcd' => exact .func fn xs zs cs es hfn' (hx.trans hx') (fun i => ih1 i (hxy' i)) (hc.trans hc') (fun i => ih2 i (hcd' i))
  | iface t v w hv ih =>
    intro k
    cases k with
    | iface _ _ u hu => exact .iface t v u (ih hu)
  | agg xs ys hx hxy ih =>
    intro k
    cases k with
    | agg _ zs hx' hxy' hone' => exact .agg xs zs (hx.trans hx') (fun i => ih i (hxy' i)) hone'
  | tuple xs ys hx hxy ih =>
    intro k
    cases k with
    | tuple _ zs hx' hxy' => exact .tuple xs zs (hx.trans hx') (fun i => ih i (hxy' i))
  | fz xs ys n hx hxy ih =>
    intro k
    obtain ⟨n0, hn0, hc⟩ := k.fz_inv
    cases hn0
    rcases hc with ⟨r, o, c, ds, rfl, hrom, hle, hn, hxy', hone⟩ | ⟨rfl, rfl, a, c, rfl⟩
    · refine .fz xs n r o c ds hrom (by omega) hn (fun i => ?_) (fun i hi => hone i (by omega))
      have := hxy' i
      rw [← hx] at this
      exact ih i this
    · have : xs = #[] := Array.eq_empty_of_size_eq_zero (by simpa using hx)
      subst this
      exact .fz0 a c
  | fp xs ys n hx hxy ih =>
    intro k
    obtain ⟨n0, r, o, ds, hn0, rfl, hrom, hle, hxy', hone⟩ := k.fp_inv
    cases hn0
    refine .fp xs n r o _ ds hrom (by omega) rfl (fun i => ?_) (fun i hi => hone i (by omega))
    have := hxy' i
    rw [← hx] at this
    exact ih i this

theorem VRel.narrow {f f0 : Emb} {L L0 : Nat} {v v0 v' : Value} (h : VRel f0 L0 v v0) : VRel f L v v' → VRel f L0 v v' := by
  induction h generalizing v' with
  | junk v => intro _; exact .junk _
  | bool b => intro k; cases k; exact .bool b
  | int k n => intro k; cases k; exact .int _ _
  | string s => intro k; cases k; exact .string s
  | nilFunc => intro k; cases k; exact .nilFunc
  | nilIface => intro k; cases k; exact .nilIface
  | nilPtr => intro k; cases k; exact .nilPtr
  | ptr b o r o' hb hr ho => intro k; cases k with | ptr _ _ r o' hb' hr ho => exact .ptr b _ _ _ hb hr ho
  | nilMap => intro k; cases k; exact .nilMap
  | map b r hb hr => intro k; cases k with | map _ r hb' hr => exact .map b _ hb hr
  | nilSlice l c => intro k; cases k; exact .nilSlice l c
  | slice b o l c c' r o' hb hr ho hc =>
    intro k
    cases k with
    | slice _ _ _ _ c' r o' hb' hr ho hc => exact .slice b _ _ _ _ _ _ hb hr ho hc
    | slice0 a a' hb' => exact .slice0 _ _ hb
  | slice0 a a' hb =>
    intro k
    cases k with
    | slice _ _ _ _ c' r o' hb' hr ho hc => exact .slice _ _ _ _ _ _ _ hb hr ho hc
    | slice0 a a' hb' => exact .slice0 _ _ hb
  | func fn xs ys cs ds hfn hx hxy hc hcd ih1 ih2 =>
    intro k
    cases k with
    | fz => cases hfn
    | fz0 => cases hfn
    | fp => cases hfn
    | func _ _ zs _ es hfn' hx' hxy' hc' hcd' => exact .func fn xs zs cs es hfn' hx' (fun i => ih1 i (hxy' i)) hc' (fun i => ih2 i (hcd' i))
  | iface t v w hv ih => intro k; cases k with | iface _ _ u hu => exact .iface t v u (ih hu)
  | agg xs ys hx hxy hone ih => intro k; cases k with | agg _ zs hx' hxy' hone' => exact .agg xs zs hx' (fun i => ih i (hxy' i)) hone'
  | tuple xs ys hx hxy ih => intro k; cases k with | tuple _ zs hx' hxy' => exact .tuple xs zs hx' (fun i => ih i (hxy' i))
  | fz cs n r o c ds hrom hle hn hxy hone ih =>
    intro k
    obtain ⟨n0, hn0, hc⟩ := k.fz_inv
    cases hn0
    rcases hc with ⟨r, o, c, ds, rfl, hrom, hle, hn, hxy', hone⟩ | ⟨rfl, rfl, a, c, rfl⟩
    · exact .fz cs n r o c ds hrom hle hn (fun i => ih i (hxy' i)) hone
    · exact .fz0 a c
  | fz0 a c =>
    intro k
    obtain ⟨n0, hn0, hc⟩ := k.fz_inv
    cases hn0
    rcases hc with ⟨r, o, c, ds, rfl, hrom, hle, hn, hxy', hone⟩ | ⟨_, _, a, c, rfl⟩
    · exact .fz0 _ c
    · exact .fz0 a c
  | fp cs n r o o' ds hrom hle ho hxy hone ih =>
    intro k
    obtain ⟨n0, r, o, ds, hn0, rfl, hrom, hle, hxy', hone⟩ := k.fp_inv
    cases hn0
    exact .fp cs n r o _ ds hrom hle rfl (fun i => ih i (hxy' i)) hone

theorem ORel.narrow {f f0 : Emb} {L L0 : Nat} {I I0 : Img} {o : AObj} {o0 o' : Obj} (h : ORel f0 L0 I0 o o0) (hag : ∀ b, b < L0 → f b = f0 b) (k : ORel f L I o o') : ORel f L0 I o o' := by
  cases o with
  | dead => simp [ORel]
  | cells c es rw =>
    obtain ⟨c0, elem0, fr0, rfl, a2, a3, a4, a5, a6, a7⟩ := h
    obtain ⟨c', elem, fr, k1, k2, k3, k4, k5, k6, k7⟩ := k
    exact ⟨c', elem, fr, k1, k2, k3, k4, k5, k6, fun i hi => ⟨(a7 i hi).1.narrow (k7 i hi).1, (k7 i hi).2⟩⟩
  | map kk es clk =>
    obtain ⟨es0, rfl, a2, a3⟩ := h
    obtain ⟨es', k1, k2, k3⟩ := k
    refine ⟨es', k1, k2, fun i e he => ?_⟩
    obtain ⟨e0, b1, b2, b3, b4⟩ := a3 i e he
    obtain ⟨e', q1, q2, q3, q4⟩ := k3 i e he
    exact ⟨e', q1, q2, q3, b4.narrow q4⟩
  | miter m s seen st =>
    obtain ⟨_, m0, rfl, a2⟩ := h
    obtain ⟨k0, m', k1, k2⟩ := k
    refine ⟨k0, m', k1, ?_⟩
    cases m <;> cases m0 <;> cases m' <;> simp only at a2 k2 ⊢
    exact ⟨a2.1, k2.2⟩

def ORen (σ : Nat → Nat) (L : Nat) : AObj → AObj → Prop
  | .dead, _ => True
  | .cells c1 es1 rw1, o => ∃ c, o = .cells c es1 rw1 ∧ c1.size = c.size ∧ ∀ i : Nat, VRen σ L (c1.getD i junk) (c.getD i junk)
  | .map k1 es1 clk1, o => ∃ es, o = .map k1 es clk1 ∧ es1.size = es.size ∧ ∀ (i : Nat) (e1 : MapEntry), es1[i]? = some e1 → ∃ e : MapEntry, es[i]? = some e ∧ e.key = e1.key ∧ e.born = e1.born ∧ VRen σ L e1.val e.val
  | .miter m1 s1 seen1 st1, o => ∃ m, o = .miter m s1 seen1 st1 ∧ (match m1, m with | none, none => True | some b1, some b => b1 < L ∧ b = σ b1 | _, _ => False)

theorem ORen.comp {σ : Nat → Nat} {f : Emb} {L1 L : Nat} {I : Img} {o1 o : AObj} {o' : Obj} (h : ORen σ L1 o1 o) (k : ORel f L I o o') : ORel (f.ren σ) L1 I o1 o' := by
  cases o1 with
  | dead => simp [ORel]
  | cells c1 es1 rw1 =>
    obtain ⟨c, rfl, h1, h2⟩ := h
    obtain ⟨c', elem, fr, k1, k2, k3, k4, k5, k6, k7⟩ := k
    exact ⟨c', elem, fr, k1, h1.trans k2, k3, k4, k5, k6, fun i hi => ⟨(h2 i).comp (k7 i (by omega)).1, (k7 i (by omega)).2⟩⟩
  | map kk es1 clk1 =>
    obtain ⟨es, rfl, h1, h2⟩ := h
    obtain ⟨es', k1, k2, k3⟩ := k
    refine ⟨es', k1, h1.trans k2, fun i e1 he1 => ?_⟩
    obtain ⟨e, g1, g2, g3, g4⟩ := h2 i e1 he1
    obtain ⟨e', q1, q2, q3, q4⟩ := k3 i e g1
    exact ⟨e', q1, q2.trans g2, q3.trans g3, g4.comp q4⟩
  | miter m1 s1 seen1 st1 =>
    obtain ⟨m, rfl, h1⟩ := h
    obtain ⟨k0, m', k1, k2⟩ := k
    refine ⟨k0, m', k1, ?_⟩
    cases m1 <;> cases m <;> cases m' <;> simp only at h1 k2 ⊢
    obtain ⟨h1, h3⟩ := h1
    exact ⟨h1, by show _ = (f (σ _)).blk; rw [← h3]; exact k2.2⟩

theorem ORen.rw {σ : Nat → Nat} {L : Nat} {o1 o : AObj} (h : ORen σ L o1 o) (ha : o1.alive = true) : o.alive = true ∧ o.rw = o1.rw := by
  cases o1 with
  | dead => simp [AObj.alive] at ha
  | cells c1 es1 rw1 => obtain ⟨c, rfl, _⟩ := h; exact ⟨rfl, rfl⟩
  | map kk es1 clk1 => obtain ⟨c, rfl, _⟩ := h; exact ⟨rfl, rfl⟩
  | miter m1 s1 seen1 st1 => obtain ⟨c, rfl, _⟩ := h; exact ⟨rfl, rfl⟩

/-- The heap 'h', said shorter: 'h1'. -/
structure GC (h0 : AH) (σ : Nat → Nat) (h h1 : AH) : Prop where
  len : h0.length ≤ h1.length
  fix : ∀ b, b < h0.length → σ b = b
  obj : ∀ b o1, h1[b]? = some o1 → o1.alive = true → ∃ o, h[σ b]? = some o ∧ ((b < h0.length ∧ h0[b]? = some o1 ∧ o = o1) ∨ ORen σ h1.length o1 o)
  inj : ∀ b b', b < h1.length → b' < h1.length → σ b = σ b' → b = b'

theorem Sim.gc {P : Program} {f0 f : Emb} {h0 h h1 : AH} {w0 w : World} {σ : Nat → Nat} (s0 : Sim P f0 h0 w0) (hs : Sim P f h w) (hag : Emb.Agree h0.length f0 f) (g : GC h0 σ h h1) :
    Sim P (f.ren σ) h1 w := by
  have hlt : ∀ (b : Nat) (x : AObj), h1[b]? = some x → b < h1.length := fun b x hb => (List.getElem?_eq_some_iff.1 hb).1
  refine ⟨?_, ?_, ?_, Nat.le_trans s0.size g.len, ?_, hs.laid, ?_⟩
  · intro b o1 hb ha
    obtain ⟨o, h2, h3⟩ := g.obj b o1 hb ha
    rcases h3 with ⟨hl, h4, rfl⟩ | h3
    · have e0 : (f.ren σ) b = f b := by show f (σ b) = f b; rw [g.fix b hl]
      rw [g.fix b hl] at h2
      rw [e0]
      obtain ⟨o0, _, h7⟩ := s0.obj b o h4 ha
      obtain ⟨o', h5, h8⟩ := hs.obj b o h2 ha
      have h6 := h7.narrow (fun b hb => hag.1 b hb) h8
      exact ⟨o', h5, h6.mono g.len ⟨fun b' hb' => by show f (σ b') = f b'; rw [g.fix b' hb'], fun _ _ e => e⟩⟩
    · obtain ⟨o', h5, h6⟩ := hs.obj (σ b) o h2 (h3.rw ha).1
      exact ⟨o', h5, h3.comp h6⟩
  · intro b b' o1 o1' hb hb' ha ha' hrw hne
    obtain ⟨o, h2, h3⟩ := g.obj b o1 hb ha
    obtain ⟨o2, h2', h3'⟩ := g.obj b' o1' hb' ha'
    have e1 : o.alive = true ∧ o.rw = true := by
      rcases h3 with ⟨_, _, rfl⟩ | h3
      · exact ⟨ha, hrw⟩
      · exact ⟨(h3.rw ha).1, (h3.rw ha).2.trans hrw⟩
    have e2 : o2.alive = true := by
      rcases h3' with ⟨_, _, rfl⟩ | h3'
      · exact ha'
      · exact (h3'.rw ha').1
    exact hs.sep (σ b) (σ b') o o2 h2 h2' e1.1 e2 e1.2 (fun e => hne (g.inj b b' (hlt _ _ hb) (hlt _ _ hb') e))
  · intro gl hgl
    have : gl < h0.length := Nat.lt_of_lt_of_le hgl s0.size
    show (f (σ gl)).blk = gl ∧ (f (σ gl)).off = 0
    rw [g.fix gl this]
    exact hs.glob gl hgl
  · intro r ds hr
    obtain ⟨k1, k2⟩ := hs.rom r ds hr
    refine ⟨k1, fun b o1 hb hrw => ?_⟩
    have ha : o1.alive = true := by cases o1 <;> simp_all [AObj.rw, AObj.alive]
    obtain ⟨o, h2, h3⟩ := g.obj b o1 hb ha
    have : o.rw = true := by
      rcases h3 with ⟨_, _, rfl⟩ | h3
      · exact hrw
      · exact (h3.rw ha).2.trans hrw
    exact k2 (σ b) o h2 this
  · intro b o1 hb
    cases o1 with
    | map kk es1 clk1 =>
      obtain ⟨o, h2, h3⟩ := g.obj b _ hb rfl
      rcases h3 with ⟨_, _, rfl⟩ | ⟨es, rfl, k1, k2⟩
      · exact hs.ok (σ b) _ h2
      · refine mapOk_of (hs.ok (σ b) _ h2) ?_ ?_
        · apply List.ext_getElem (by simpa using k1)
          intro i q1 q2
          have hi : i < es1.size := by simpa using q1
          obtain ⟨e, p1, p2, p3, _⟩ := k2 i es1[i] (by simp [hi])
          have hi' : i < es.size := by omega
          rw [Array.getElem?_eq_getElem hi'] at p1
          cases p1
          simp [p2]
        · apply List.ext_getElem (by simpa using k1)
          intro i q1 q2
          have hi : i < es1.size := by simpa using q1
          obtain ⟨e, p1, p2, p3, _⟩ := k2 i es1[i] (by simp [hi])
          have hi' : i < es.size := by omega
          rw [Array.getElem?_eq_getElem hi'] at p1
          cases p1
          simp [p3]
    | _ => trivial

end Go.Am
