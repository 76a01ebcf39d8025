import Derived.Test.YtihdilnanhjedaaAm55x
set_option linter.unusedSimpArgs false
set_option linter.unusedVariables false
/- more at the end of what has grown, opaque -/
namespace Go.Am
open Go Go.Proofs
theorem mkApp_outs {α : Type} {enc : α → List Value} {H : AH} {b m by_ : Nat} {g : Bool} {l l2 : List α} (hb : H[b]? = some (outO enc m l)) (hm : ∀ x, (enc x).length = m) (hbd : (2 * (l.length + l2.length) + 192) * by_ ≤ 2 ^ 48 ∧ l.length + l2.length < 2 ^ 62) :
    ∃ b' H', mkApp H (outV b l) (some (g, m, by_)) (some (l2.length, flatV enc l2)) = some (outV b' (l ++ l2), H') ∧ H'[b']? = some (outO enc m (l ++ l2)) ∧ (∀ i, i ≠ b → i < H.length → H'[i]? = H[i]?) ∧ H.length ≤ H'.length ∧ (b' = b ∨ b' = H.length) := by
  cases l2 with
  | nil =>
    refine ⟨b, H, ?_, by rw [List.append_nil]; exact hb, fun _ _ _ => rfl, Nat.le_refl _, .inl rfl⟩
    rw [List.append_nil]
    cases l with
    | nil => rfl
    | cons x l => simp [outV, mkApp]
  | cons y l2 =>
    refine ⟨H.length, _, by rw [mkApp_out hb hm (by simp) hbd, outV_ne (by simp), List.length_append], ?_, fun i hi hl => ?_, by simp, .inr rfl⟩
    · rw [List.getElem?_append_right (by simp)]
      simp only [List.length_set, Nat.sub_self, List.getElem?_cons_zero]
      rw [outO_ne (by simp), flatV_append]
    · rw [List.getElem?_append_left (by simpa using hl), List.getElem?_set_ne (fun e => hi e.symm)]
theorem ACalls.outs {P : Program} {F : FuncId} {α : Type} {enc : α → List Value} {m b : Nat} {l : List α} {h : AH} {R : Value → AH → Prop} (hb : h[b]? = some (outO enc m l)) (hm : ∀ x, (enc x).length = m) (hc : ACalls P F #[slV enc (Sl.app l)] (h.set b .dead) R) : ACalls P F #[outV b l] h R := by
  refine ACalls.freeze (args1 := #[slV enc (Sl.app l)]) HFz.set rfl (fun i => ?_) hc
  cases i with
  | zero => exact Rf.outV hb (List.getElem?_set_self (List.getElem?_eq_some_iff.1 hb).1) hm
  | succ i => simp; exact .same _
theorem ACalls.of_ayG {P : Program} {F : FuncId} {fn : Func} {c : Code} (hf : P.funcs[F]? = some fn) (hb : fn.body = some c) {n : Nat} (hn : fn.ntmps = n) {args : List Value} {h : AH} {R : Value → AH → Prop} (inh : ∃ v h', R v h')
    (ha : ay P h c (apost P h fn R) (args ++ List.replicate (n - args.length) undef).toArray (h ++ [.dead] ++ [.dead])) : ACalls P F args.toArray h R := by
  subst hn
  refine ACalls.of_awp hf hb inh (AWP.ease Eases.ghost (AWP.ease Eases.ghost (ay_sound c _ _ _ ?_)))
  have e : (args.toArray ++ Array.replicate (fn.ntmps - args.toArray.size) undef) = (args ++ List.replicate (fn.ntmps - args.length) undef).toArray := by
    simp
  rw [e]
  exact ha
theorem ACalls.of_awl {P : Program} {F : FuncId} {fn : Func} {c : Code} (hf : P.funcs[F]? = some fn) (hb : fn.body = some c) {n : Nat} (hn : fn.ntmps = n) {args : List Value} {h : AH} {R : Value → AH → Prop} (inh : ∃ v h', R v h')
    (ha : AWP P h c (apost P h fn R) (args ++ List.replicate (n - args.length) undef).toArray h) : ACalls P F args.toArray h R := by
  subst hn
  refine ACalls.of_awp hf hb inh ?_
  have e : (args.toArray ++ Array.replicate (fn.ntmps - args.toArray.size) undef) = (args ++ List.replicate (fn.ntmps - args.length) undef).toArray := by
    simp
  rw [e]
  exact ha
theorem AWP.seqA {P : Program} {h0 : AH} {x y : Code} {Q : Exit → Array Value → AH → Prop} {a : Array Value} {h : AH} (ha : ay P h0 x (thenA (AWP P h0 y Q) Q) a h) : AWP P h0 (.seq x y) Q a h := AWP.seq (ay_sound x _ _ _ ha)
theorem AWP.ofA {P : Program} {h0 : AH} {x : Code} {Q : Exit → Array Value → AH → Prop} {a : Array Value} {h : AH} (ha : ay P h0 x Q a h) : AWP P h0 x Q a h := ay_sound x _ _ _ ha
theorem KeepsF.easeK {P : Program} {h0 H : AH} {l l1 : List Value} (hk : keeps h0 H) (k : KeepsF H (dieNew h0 H) l l1) : Eases P h0 l.toArray H l1.toArray h0 := by
  obtain ⟨t, rfl⟩ : ∃ t, H = h0 ++ t := by
    refine ⟨H.drop h0.length, ?_⟩
    have e : H.take h0.length = h0 := by
      apply List.ext_getElem?
      intro i
      by_cases hi : i < h0.length
      · rw [List.getElem?_take_of_lt hi, hk.2 i hi]
      · rw [List.getElem?_eq_none (by simp; omega), List.getElem?_eq_none (by omega)]
    rw [← e]
    simp only [List.length_take, Nat.min_eq_left hk.1]
    rw [List.take_append_drop]
  exact k.ease
theorem mkApp_outX {h t : AH} {α : Type} {enc : α → List Value} {l : List α} {g : Bool} {k m by_ : Nat} {x : α} (hm : ∀ x, (enc x).length = m) (hbd : (2 * (l.length + 1) + 192) * by_ ≤ 2 ^ 48 ∧ l.length + 1 < 2 ^ 62) (hk : t[k]? = some (outO enc m l)) :
    mkApp (h ++ t) (outV (h.length + k) l) (some (g, m, by_)) (some (1, (enc x).toArray)) = some (outV (h.length + t.length) (l ++ [x]), h ++ (t.set k .dead ++ [outO enc m (l ++ [x])])) := by
  rw [mkApp_outK hm (by omega) hbd hk, outV_snoc, outO_snoc]
end Go.Am
set_option linter.unusedSimpArgs false
set_option linter.unusedVariables false
/- Regions that draw their order, where what they turn is not what they read. -/
namespace Go.Am
open Go Go.Proofs
theorem AWP.loopW {P : Program} {h0 : AH} {c : Code} {Q : Exit → Array Value → AH → Prop} {a : Array Value} {h : AH} {ι : Type} (M : ι → Nat) (Fr : ι → List Value) (Hp : ι → AH) (ok : ι → Prop) (i0 : ι) (hok : ok i0)
    (he : Eases P h0 a h (Fr i0).toArray (Hp i0))
    (round : ∀ i, ok i → AWP P h0 c (thenA (fun a1 h1 => ∃ j, M j < M i ∧ ok j ∧ Eases P h0 a1 h1 (Fr j).toArray (Hp j)) Q) (Fr i).toArray (Hp i)) : AWP P h0 (.loop c) Q a h := by
  refine AWP.ease he (AWP.loopE (fun k a h => ∃ i, k = M i ∧ a = (Fr i).toArray ∧ h = Hp i ∧ ok i) (n := M i0) ⟨i0, rfl, rfl, rfl, hok⟩ ?_)
  rintro n a h ⟨i, rfl, rfl, rfl, hi⟩
  refine AWP.mono (round i hi) fun e a1 h1 hq => ?_
  cases e with
  | normal =>
    obtain ⟨j, h2, h3, h4⟩ := hq
    exact ⟨M j, _, _, h2, h4, j, rfl, rfl, rfl, h3⟩
  | _ => exact hq
end Go.Am
set_option linter.unusedSimpArgs false
set_option linter.unusedVariables false
/- A literal slice that nobody writes: a value. -/
namespace Go.Am
open Go Go.Proofs

/-- a literal slice, as a value -/
def fbuild (P : Program) (t : TypeId) (n : Nat) (parts : List (Nat × Value)) : Option Value :=
  match slz P t with
  | some zc => if n * zc.size ≤ 2 ^ 24 ∧ 0 < n then
      match afill (fun i => some (i * zc.size, zc.size)) (zeros zc (n * zc.size)) parts with
      | some cells => some (fz cells n)
      | none => none
    else none
  | none => none

theorem fbuild_spec {P : Program} {t : TypeId} {n : Nat} {parts : List (Nat × Value)} {v : Value} (hf : fbuild P t n parts = some v) : 0 < n ∧ ∃ (c : Array Value) (es : Nat), v = fz c n ∧ (∀ h, abuildSlice P h t n parts = some (.slice (some ⟨h.length, 0, none⟩) n n, h ++ [.cells c es true])) ∧
    ∀ (f : Emb) (L : Nat) (parts' : List (Nat × Value)), PRel f L parts parts' → ∃ c', CRel f L c c' := by
  unfold fbuild at hf
  split at hf
  · rename_i zc hzc
    split at hf
    · rename_i hb
      split at hf
      · rename_i cells hc
        cases hf
        refine ⟨hb.2, cells, zc.size, rfl, fun h => ?_, fun f L parts' hp => ?_⟩
        · rw [abuildS_eq' hzc, mkBuildS, if_pos hb.1, hc]
        · have hz : ∃ elem, zeroCellsOf P elem = some zc := by
            unfold slz at hzc
            split at hzc
            · exact ⟨_, hzc⟩
            · cases hzc
          obtain ⟨elem, hz⟩ := hz
          obtain ⟨i, z, _, _, _, hall, hsz, hpos⟩ := zeroCellsOf_spec hz
          obtain ⟨c', _, h2⟩ := fill_rel _ _ parts' _ _ cells (zeros_crel (f := f) (L := L) hall (by omega) (n * zc.size)) hp hc
          exact ⟨c', h2⟩
      · cases hf
    · cases hf
  · cases hf

theorem fz_narrow {f f2 : Emb} {L L' n : Nat} {c c0 : Array Value} {v' : Value} (hc : CRel f L c c0) (hn : 0 < n) (hv : VRel f2 L' (fz c n) v') : VRel f2 L (fz c n) v' := by
  obtain ⟨m, hm, hx⟩ := hv.fz_inv
  have e : m = n := by
    have := congrArg (fun a : Array Value => a[0]?) hm
    simp at this
    omega
  subst e
  rcases hx with ⟨r, o, cp, ds, rfl, hrom, hle, hn', hxy, hone⟩ | ⟨h0, _⟩
  · exact .fz c m r o cp ds hrom hle hn' (fun i => (hc.2 i).1.narrow (hxy i)) hone
  · omega

/-- a literal slice that becomes a value at once -/
theorem lit_wp {P : Program} {f0 : Emb} {h0 : AH} {w0 : World} {f : Emb} {a : Array Value} {h : AH} {a' : Act} {w : World} (g : Good P f0 h0 w0 f a h a' w) (o : Oper) {c c0 : Array Value} {n es : Nat}
    (hr : aop P (aeval P a) h o = some (.val (.slice (some ⟨h.length, 0, none⟩) n n) (h ++ [.cells c es true]))) (hn : 0 < n) (hc : CRel f h.length c c0)
    {K : Act → World → Prop} {Q : Exit → Act → World → Prop} (hk : ∀ f1 b' w1, Good P f0 h0 w0 f1 (aput a o.dst (fz c n)) h b' w1 → K b' w1) : ∀ ro, o.wpIn (fenceR ro) 0 P a' w K Q := by
  intro ro
  have hs := sound_aop g.sim (fun x => aeval_rel g.sim g.tm x) o hr
  refine ⟨fun _ _ => trivial, ?_⟩
  rw [show (fenceR ro).round = ro from rfl, semAt_R hr ro]
  obtain ⟨f1, v', w1, e, st, hv⟩ := hs
  rw [e, Oper.uponIn_value]
  have g1 := g.step st ((g.tm.step st).aput o.dst hv) (put_defers _ _ _)
  have hz : HFz (h ++ [.cells c es true]) (h ++ [.dead]) := HFz.last
  obtain ⟨k1, k2⟩ := froze_sim (h1 := h ++ [.dead]) g1.sim hz
  have hag := froze_agree (h1 := h ++ [.dead]) g1.sim
  have hrel := freeze_rel g1.sim hz.len hag k2 (v1 := fz c n) (.slice h.length 0 n n es c c true (by simp) (by simp) (by omega) (Nat.le_refl _) (fun h0 => by omega) fun i _ => by rw [Nat.zero_add]; exact .same _) hv
  refine hk (f1.froze (h ++ [.cells c es true]) (h ++ [.dead]) w1) _ w1 ?_
  generalize f1.froze (h ++ [.cells c es true]) (h ++ [.dead]) w1 = f2 at k1 k2 hag hrel
  have hL : (h ++ [AObj.cells c es true]).length = h.length + 1 := by simp
  have old : ∀ {b : Nat} {o x : AObj}, h[b]? = some o → (h ++ [x])[b]? = some o := fun {b o x} hb => by
    rw [List.getElem?_append_left (List.getElem?_eq_some_iff.1 hb).1]; exact hb
  have ag : Emb.Agree h.length f f2 := st.agree.trans hag (by rw [hL]; omega)
  have hb1 : ∀ {b : Nat} {o : AObj}, h[b]? = some o → f2 b = f1 b := fun {b o} hb => hag.1 b (by rw [hL]; have := (List.getElem?_eq_some_iff.1 hb).1; omega)
  refine ⟨⟨fun b x hb ha => ?_, fun b b' x x' hb hb' => k1.sep b b' x x' (old hb) (old hb'), k1.glob, g.sim.size, fun r ds er => ⟨(k1.rom r ds er).1, fun b x hb ho => (k1.rom r ds er).2 b x (old hb) ho⟩, g.sim.laid, g.sim.ok⟩,
    (ARel.mono g.tm (Nat.le_refl _) ag).aput o.dst (fz_narrow (f := f) (L := h.length) hc hn hrel), g1.df.ren (fun b x hb ho => ⟨b, x, old hb, ho, by rw [hb1 hb]⟩), g1.keep, fun b x hb ho => ?_, g.agree.trans ag g.len, g.len⟩
  · obtain ⟨x', e1, r1⟩ := k1.obj b x (old hb) ha
    obtain ⟨x0, e0, r0⟩ := g.sim.obj b x hb ha
    exact ⟨x', e1, r0.narrow (fun b hb => ag.1 b hb) r1⟩
  · rw [hb1 hb]; exact g1.own b x (old hb) ho
end Go.Am
