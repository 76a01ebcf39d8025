import Derived.Orders
import Derived.Test.YtcnnccalglgnbaaG3
set_option linter.unusedSimpArgs false
set_option linter.unusedVariables false
/- Regions that draw their order, where what they turn is not what they read. -/
namespace Go.Am
open Go Go.Proofs
end Go.Am

set_option linter.unusedSimpArgs false
set_option linter.unusedVariables false
/- A literal slice that nobody writes: a value. -/
namespace Go.Am
open Go Go.Proofs
/-- a literal slice, axs a value -/
def fbuild (P : Program) (t : TypeId) (n : Nat) (parts : List (Nat × Value)) : Option Value :=
  match slz P t with
  | some zc => if n * zc.size ≤ 2 ^ 24 ∧ 0 < n then
      match afill (fun i => some (i * zc.size, zc.size)) (zeros zc (n * zc.size)) parts with
      | some cells => some (fz cells n)
      | none => none
    else none
  | none => none
theorem fbuild_spec {P : Program} {t : TypeId} {n : Nat} {parts : List (Nat × Value)} {v : Value} (hf : fbuild P t n parts = some v) : 0 < n ∧ ∃ (c : Array Value) (es : Nat), v = fz c n ∧ (∀ h, abuildSlice P h t n parts = some (.slice (some ⟨h.length, 0, none⟩) n n, h ++ [.cells c es true])) ∧
    ∀ (f : Emb) (L : Nat) (parts' : List (Nat × Value)), PRel f L parts parts' → ∃ c', CRel f L c c' := by
  unfold fbuild at hf
  split at hf
  · rename_i zc hzc
    split at hf
    · rename_i hb
      split at hf
      · rename_i cells hc
        cases hf
        refine ⟨hb.2, cells, zc.size, rfl, fun h => ?_, fun f L parts' hp => ?_⟩
        · rw [abuildS_eq' hzc, mkBuildS, if_pos hb.1, hc]
        · have hz : ∃ elem, zeroCellsOf P elem = some zc := by
            unfold slz at hzc
            split at hzc
            · exact ⟨_, hzc⟩
            · cases hzc
          obtain ⟨elem, hz⟩ := hz
          obtain ⟨i, z, _, _, _, hall, hsz, hpos⟩ := zeroCellsOf_spec hz
          obtain ⟨c', _, h2⟩ := fill_rel _ _ parts' _ _ cells (zeros_crel (f := f) (L := L) hall (by omega) (n * zc.size)) hp hc
          exact ⟨c', h2⟩
      · cases hf
    · cases hf
  · cases hf
theorem fz_narrow {f f2 : Emb} {L L' n : Nat} {c c0 : Array Value} {v' : Value} (hc : CRel f L c c0) (hn : 0 < n) (hv : VRel f2 L' (fz c n) v') : VRel f2 L (fz c n) v' := by
  obtain ⟨m, hm, hx⟩ := hv.fz_inv
  have e : m = n := by
    have := congrArg (fun a : Array Value => a[0]?) hm
    simp at this
    omega
  subst e
  rcases hx with ⟨r, o, cp, ds, rfl, hrom, hle, hn', hxy, hone⟩ | ⟨h0, _⟩
  · exact .fz c m r o cp ds hrom hle hn' (fun i => (hc.2 i).1.narrow (hxy i)) hone
  · omega
/-- a literal slice that becomes a value at once -/
theorem lit_wp {P : Program} {f0 : Emb} {h0 : AH} {w0 : World} {f : Emb} {a : Array Value} {h : AH} {a' : Act} {w : World} (g : Good P f0 h0 w0 f a h a' w) (o : Oper) {c c0 : Array Value} {n es : Nat}
    (hr : aop P (aeval P a) h o = some (.val (.slice (some ⟨h.length, 0, none⟩) n n) (h ++ [.cells c es true]))) (hn : 0 < n) (hc : CRel f h.length c c0)
    {K : Act → World → Prop} {Q : Exit → Act → World → Prop} (hk : ∀ f1 b' w1, Good P f0 h0 w0 f1 (aput a o.dst (fz c n)) h b' w1 → K b' w1) : ∀ ro, o.wpIn (fenceR ro) 0 P a' w K Q := by
  intro ro
  have hs := sound_aop g.sim (fun x => aeval_rel g.sim g.tm x) o hr
  refine ⟨fun _ _ => trivial, ?_⟩
  rw [show (fenceR ro).round = ro from rfl, semAt_R hr ro]
  obtain ⟨f1, v', w1, e, st, hv⟩ := hs
  rw [e, Oper.uponIn_value]
  have g1 := g.step st ((g.tm.step st).aput o.dst hv) (put_defers _ _ _)
  have hz : HFz (h ++ [.cells c es true]) (h ++ [.dead]) := HFz.last
  obtain ⟨k1, k2⟩ := froze_sim (h1 := h ++ [.dead]) g1.sim hz
  have hag := froze_agree (h1 := h ++ [.dead]) g1.sim
  have hrel := freeze_rel g1.sim hz.len hag k2 (v1 := fz c n) (.slice h.length 0 n n es c c true (by simp) (by simp) (by omega) (Nat.le_refl _) (fun h0 => by omega) fun i _ => by rw [Nat.zero_add]; exact .same _) hv
  refine hk (f1.froze (h ++ [.cells c es true]) (h ++ [.dead]) w1) _ w1 ?_
  generalize f1.froze (h ++ [.cells c es true]) (h ++ [.dead]) w1 = f2 at k1 k2 hag hrel
  have hL : (h ++ [AObj.cells c es true]).length = h.length + 1 := by simp
  have old : ∀ {b : Nat} {o x : AObj}, h[b]? = some o → (h ++ [x])[b]? = some o := fun {b o x} hb => by
    rw [List.getElem?_append_left (List.getElem?_eq_some_iff.1 hb).1]; exact hb
  have ag : Emb.Agree h.length f f2 := st.agree.trans hag (by rw [hL]; omega)
  have hb1 : ∀ {b : Nat} {o : AObj}, h[b]? = some o → f2 b = f1 b := fun {b o} hb => hag.1 b (by rw [hL]; have := (List.getElem?_eq_some_iff.1 hb).1; omega)
  refine ⟨⟨fun b x hb ha => ?_, fun b b' x x' hb hb' => k1.sep b b' x x' (old hb) (old hb'), k1.glob, g.sim.size, fun r ds er => ⟨(k1.rom r ds er).1, fun b x hb ho => (k1.rom r ds er).2 b x (old hb) ho⟩, g.sim.laid, g.sim.ok⟩,
    (ARel.mono g.tm (Nat.le_refl _) ag).aput o.dst (fz_narrow (f := f) (L := h.length) hc hn hrel), g1.df.ren (fun b x hb ho => ⟨b, x, old hb, ho, by rw [hb1 hb]⟩), g1.keep, fun b x hb ho => ?_, g.agree.trans ag g.len, g.len⟩
  · obtain ⟨x', e1, r1⟩ := k1.obj b x (old hb) ha
    obtain ⟨x0, e0, r0⟩ := g.sim.obj b x hb ha
    exact ⟨x', e1, r0.narrow (fun b hb => ag.1 b hb) r1⟩
  · rw [hb1 hb]; exact g1.own b x (old hb) ho
end Go.Am

set_option linter.unusedSimpArgs false
set_option linter.unusedVariables false
/- Heaps that nobody spells out; what accounts are made of. -/
namespace Go.Am
open Go Go.Proofs
/-- what is forgotten of a frame, the heap axs it is -/
inductive KeepsJ : List Value → List Value → Prop
  | nil : KeepsJ [] []
  | junk (v : Value) {l l1 : List Value} (r : KeepsJ l l1) : KeepsJ (v :: l) (Am.junk :: l1)
  | keep (v : Value) {l l1 : List Value} (r : KeepsJ l l1) : KeepsJ (v :: l) (v :: l1)
theorem KeepsJ.length {l l1 : List Value} (k : KeepsJ l l1) : l1.length = l.length := by induction k <;> simp_all
theorem KeepsJ.get {l l1 : List Value} (k : KeepsJ l l1) : ∀ i : Nat, l1.getD i Am.junk = Am.junk ∨ l1.getD i Am.junk = l.getD i Am.junk := by
  induction k with
  | nil => intro i; exact .inr rfl
  | junk v r ih => intro i; cases i with
    | zero => exact .inl rfl
    | succ i => simpa using ih i
  | keep v r ih => intro i; cases i with
    | zero => exact .inr rfl
    | succ i => simpa using ih i
theorem KeepsJ.ease {P : Program} {h0 H : AH} {l l1 : List Value} (k : KeepsJ l l1) : Eases P h0 l.toArray H l1.toArray H := by
  intro f0 w0 f a' w s0 g
  refine ⟨f, g.sim, ⟨by have := g.tm.1; simp only [List.size_toArray] at this ⊢; rw [k.length]; exact this, fun i => ?_⟩, g.df, g.keep, g.own, g.agree, g.len⟩
  have h1 := g.tm.2 i
  have e : ∀ L : List Value, L.toArray.getD i Am.junk = L.getD i Am.junk := fun L => by simp [Array.getD_eq_getD_getElem?, List.getD]
  rw [e] at h1 ⊢
  rcases k.get i with h | h
  · rw [h]; exact .junk _
  · rw [h]; exact h1
/-- what else lives in a heap stays -/
structure Rest (O : List Nat) (H H' : AH) : Prop where
  same : ∀ i o, H[i]? = some o → o.alive = true → i ∉ O → H'[i]? = some o
  len : H.length ≤ H'.length
/-- what a block's owner may have got: his own, or what nothing lay in -/
def Gets (O : List Nat) (H : AH) (O' : List Nat) : Prop := ∀ i ∈ O', i ∈ O ∨ ∀ o, H[i]? = some o → o.alive = false
theorem Rest.refl (O : List Nat) (H : AH) : Rest O H H := ⟨fun _ _ h _ _ => h, Nat.le_refl _⟩
theorem Rest.trans {O O' : List Nat} {H H1 H2 : AH} (a : Rest O H H1) (b : Rest O' H1 H2) (ho : Gets O H O') : Rest O H H2 :=
  ⟨fun i o hi ha hn => b.same i o (a.same i o hi ha hn) ha (fun e => (ho i e).elim hn (fun h => by rw [h o hi] at ha; cases ha)), Nat.le_trans a.len b.len⟩
theorem Rest.mono {O O' : List Nat} {H H' : AH} (a : Rest O H H') (h : ∀ i ∈ O, i ∈ O') : Rest O' H H' := ⟨fun i o hi ha hn => a.same i o hi ha fun e => hn (h i e), a.len⟩
theorem Rest.app {O : List Nat} {H t : AH} : Rest O H (H ++ t) := ⟨fun i o hi _ _ => by rw [List.getElem?_append_left (List.getElem?_eq_some_iff.1 hi).1]; exact hi, by simp⟩
theorem Rest.set {O : List Nat} {H : AH} {b : Nat} {o : AObj} (hb : b ∈ O) : Rest O H (H.set b o) := ⟨fun i x hi _ hn => by rw [List.getElem?_set_ne (fun e => hn (by rw [← e]; exact hb))]; exact hi, by simp⟩
theorem Gets.refl (O : List Nat) (H : AH) : Gets O H O := fun i hi => .inl hi
theorem Gets.trans {O O1 O2 : List Nat} {H H1 : AH} (r : Rest O H H1) (a : Gets O H O1) (b : Gets O1 H1 O2) : Gets O H O2 := fun i hi => by
  rcases b i hi with h | h
  · exact a i h
  · by_cases ho : i ∈ O
    · exact .inl ho
    · refine .inr fun o e => ?_
      cases ha : o.alive with
      | false => rfl
      | true => exact absurd (h o (r.same i o e ha ho)) (by rw [ha]; simp)
theorem Gets.far {O O' : List Nat} {H : AH} (h : ∀ i ∈ O', i ∈ O ∨ H.length ≤ i) : Gets O H O' := fun i hi => (h i hi).imp_right fun hl o e => by
  have := (List.getElem?_eq_some_iff.1 e).1; omega
/-! ### accounts -/
structure Acc where
  nonce : UInt64
  bal : Word4
  code : List UInt8
def encAcc (x : Acc) : List Value := .int .u64 x.nonce.toNat :: (encWord x.bal ++ [.string (bs x.code)])
theorem length_encAcc (x : Acc) : (encAcc x).length = 6 := by simp [encAcc, length_encWord]
def Acc.zero : Acc := ⟨0, zeroW, []⟩
/-- a slot's place -/
structure Plc where
  addr : Addr20
  key : Word4
deriving DecidableEq
def encPlc (p : Plc) : List Value := encAddr p.addr ++ encWord p.key
theorem length_encPlc (p : Plc) : (encPlc p).length = 24 := by simp [encPlc, length_encAddr, length_encWord]
theorem plain_encPlc (p : Plc) : ∀ v ∈ encPlc p, plain1 v = true := by
  intro v hv
  simp only [encPlc, encAddr, encWord, List.mem_append, List.mem_map] at hv
  rcases hv with ⟨_, _, rfl⟩ | ⟨_, _, rfl⟩ <;> rfl
theorem encPlc_inj {a b : Plc} (h : encPlc a = encPlc b) : a = b := by
  have h1 := List.append_inj h (by simp [length_encAddr])
  cases a; cases b
  simp only at h1
  rw [encAddr_inj h1.1, encWord_inj h1.2]
def keyPlc (p : Plc) : Value := .agg (encPlc p).toArray
theorem keyPlc_inj (a b : Plc) (h : keyPlc a = keyPlc b) : a = b := encPlc_inj (by simpa [keyPlc] using h)
def keyAddr (a : Addr20) : Value := .agg (encAddr a).toArray
theorem keyAddr_inj (a b : Addr20) (h : keyAddr a = keyAddr b) : a = b := encAddr_inj (by simpa [keyAddr] using h)
def Plc.rank (p : Plc) : Nat := addrN p.addr * 2 ^ 256 + valW p.key
theorem plc_inj {p q : Plc} (h : p.rank = q.rank) : p = q := by
  unfold Plc.rank at h
  have h1 := valW_lt p.key
  have h2 := valW_lt q.key
  obtain ⟨a, c⟩ := p
  obtain ⟨a', c'⟩ := q
  simp only at *
  rw [addrN_inj (show addrN a = addrN a' by omega), valW_inj (show valW c = valW c' by omega)]
theorem cmpPlc_eq (p q : Plc) : sgn p.rank q.rank = if sgn (addrN p.addr) (addrN q.addr) ≠ 0 then sgn (addrN p.addr) (addrN q.addr) else sgn (valW p.key) (valW q.key) := by
  have h1 := valW_lt p.key
  have h2 := valW_lt q.key
  unfold Plc.rank
  generalize addrN p.addr = m
  generalize addrN q.addr = n
  generalize valW p.key = x at *
  generalize valW q.key = y at *
  unfold sgn
  (repeat' split) <;> first | rfl | omega
/-- a slot -/
structure Slt where
  key : Word4
  val : Word4
deriving DecidableEq
def encSlt (p : Slt) : List Value := encWord p.key ++ encWord p.val
theorem length_encSlt (p : Slt) : (encSlt p).length = 8 := by simp [encSlt, length_encWord]
theorem plain_encSlt (p : Slt) : ∀ v ∈ encSlt p, plain1 v = true := by
  intro v hv
  simp only [encSlt, encWord, List.mem_append, List.mem_map] at hv
  rcases hv with ⟨_, _, rfl⟩ | ⟨_, _, rfl⟩ <;> rfl
theorem tree_encSlt (p : Slt) : ∀ v ∈ encSlt p, Tree v := fun v hv => .plain _ (plain_encSlt p v hv)
/-- an account that is handed in or out -/
structure Ent where
  addr : Addr20
  nonce : UInt64
  bal : Word4
  code : Sl UInt8
  slots : Sl Slt
def encEnt (e : Ent) : List Value := encAddr e.addr ++ (.int .u64 e.nonce.toNat :: (encWord e.bal ++ [slV encU8 e.code, slV encSlt e.slots]))
theorem length_encEnt (e : Ent) : (encEnt e).length = 27 := by simp [encEnt, length_encAddr, length_encWord]
theorem tree_encEnt (e : Ent) : ∀ v ∈ encEnt e, Tree v := by
  intro v hv
  simp only [encEnt, List.mem_append, List.mem_cons, List.not_mem_nil, or_false] at hv
  rcases hv with h | rfl | h | rfl | rfl
  · exact tree_encAddr _ _ h
  · exact .plain _ rfl
  · exact tree_encWord _ _ h
  · exact .slV tree_encU8 _
  · exact .slV tree_encSlt _
end Go.Am

set_option linter.unusedSimpArgs false
set_option linter.unusedVariables false
/- Rows that lie in a heap, perhaps with room behind them. -/
namespace Go.Am
open Go Go.Proofs
/-- a slice value, the list that it holds, the block that it owns -/
def RowAt {α : Type} (enc : α → List Value) (m : Nat) (H : AH) (v : Value) (O : List Nat) (l : List α) : Prop :=
  (v = .slice none 0 0 ∧ l = [] ∧ O = []) ∨ ∃ (b : Nat) (c : Array Value) (cap : Nat), v = .slice (some ⟨b, 0, none⟩) l.length cap ∧ O = [b] ∧ H[b]? = some (.cells c m true) ∧ c.size = cap * m ∧ l.length ≤ cap ∧ c.extract 0 (l.length * m) = flatV enc l
section
variable {α : Type} {enc : α → List Value} {m : Nat} {H H' : AH} {v : Value} {O : List Nat} {l : List α}
theorem flatV_one {β : Type} (e : β → List Value) (x : β) : flatV e [x] = (e x).toArray := by simp [flatV]
theorem RowAt.nil : RowAt enc m H (.slice none 0 0) [] ([] : List α) := .inl ⟨rfl, rfl, rfl⟩
theorem RowAt.below (r : RowAt enc m H v O l) : ∀ i ∈ O, i < H.length := by
  rcases r with ⟨_, _, rfl⟩ | ⟨b, c, cap, _, rfl, hb, _⟩
  · intro i hi; cases hi
  · intro i hi; rw [List.mem_singleton] at hi; subst hi; exact (List.getElem?_eq_some_iff.1 hb).1
theorem RowAt.rest {P : List Nat} (r : RowAt enc m H v O l) (hr : Rest P H H') (hd : ∀ i ∈ O, i ∉ P) : RowAt enc m H' v O l := by
  rcases r with h | ⟨b, c, cap, h1, rfl, hb, h2⟩
  · exact .inl h
  · exact .inr ⟨b, c, cap, h1, rfl, hr.same b _ hb rfl (hd b (by simp)), h2⟩
/-- one more -/
theorem RowAt.append {g : Bool} {by_ : Nat} (r : RowAt enc m H v O l) (hm : ∀ x, (enc x).length = m) (x : α) (hbd : (2 * (l.length + 1) + 192) * by_ ≤ 2 ^ 48 ∧ l.length + 1 < 2 ^ 62) :
    ∃ v' H' O', mkApp H v (some (g, m, by_)) (some (1, (enc x).toArray)) = some (v', H') ∧ RowAt enc m H' v' O' (l ++ [x]) ∧ Rest O H H' ∧ (∀ i ∈ O', i ∈ O ∨ H.length ≤ i) := by
  rcases r with ⟨rfl, rfl, rfl⟩ | ⟨b, c, cap, rfl, rfl, hb, hs, hc, hx⟩
  · refine ⟨.slice (some ⟨H.length, 0, none⟩) 1 1, H ++ [.cells (enc x).toArray m true], [H.length], ?_, .inr ⟨H.length, (enc x).toArray, 1, rfl, rfl, by simp, by simp [hm], Nat.le_refl _, ?_⟩, Rest.app, fun i hi => .inr (by rw [List.mem_singleton] at hi; omega)⟩
    · rw [mkApp_n, if_neg (by omega), if_pos (by simpa using hbd)]
    · have : ((enc x).toArray).size = 1 * m := by simp [hm]
      show (enc x).toArray.extract 0 (1 * m) = _
      rw [← this, Array.extract_size]; simp [flatV]
  · have hlt : b < H.length := (List.getElem?_eq_some_iff.1 hb).1
    have hle : l.length * m ≤ c.size := by rw [hs]; exact Nat.mul_le_mul_right _ hc
    rw [mkApp_s, if_neg (by omega), hb]
    unfold mkAppS
    simp only
    rw [if_pos ⟨by omega, trivial⟩]
    by_cases hroom : l.length + 1 ≤ cap
    · have hle1 : (l.length + 1) * m ≤ c.size := by rw [hs]; exact Nat.mul_le_mul_right _ hroom
      rw [if_pos hroom, if_pos (by omega)]
      refine ⟨_, _, [b], rfl, .inr ⟨b, blit c (0 + l.length * m) (enc x), cap, by simp, rfl, ?_, by rw [size_blit]; exact hs, by simp; omega, ?_⟩, Rest.set (by simp), fun i hi => .inl hi⟩
      · rw [List.getElem?_set_self hlt]
      · obtain ⟨cl, rfl⟩ : ∃ cl, c = ⟨cl⟩ := ⟨c.toList, rfl⟩
        simp only [List.size_toArray] at hle hle1 hs
        have hsplit : cl = cl.take (l.length * m) ++ ((cl.drop (l.length * m)).take m ++ cl.drop ((l.length + 1) * m)) := by
          rw [show (l.length + 1) * m = l.length * m + m by rw [Nat.add_mul, Nat.one_mul], ← List.drop_drop, List.take_append_drop, List.take_append_drop]
        have htk : (cl.take (l.length * m)).length = l.length * m := by simp; omega
        have hmid : ((cl.drop (l.length * m)).take m).length = (enc x).length := by
          rw [hm]; simp; rw [Nat.add_mul, Nat.one_mul] at hle1; omega
        have hx' : cl.take (l.length * m) = l.flatMap enc := by
          have := congrArg Array.toList hx
          simpa [flatV] using this
        have e := blit_mid (enc x) (cl.take (l.length * m)) ((cl.drop (l.length * m)).take m) (cl.drop ((l.length + 1) * m)) hmid
        rw [← hsplit, htk] at e
        rw [Nat.zero_add]
        show (blit cl.toArray (l.length * m) (enc x)).extract 0 _ = _
        rw [e]
        apply Array.ext'
        simp only [Array.toList_extract, List.extract_eq_take_drop, List.drop_zero, Nat.sub_zero, flatV, List.length_append, List.length_singleton, List.flatMap_append, List.flatMap_cons, List.flatMap_nil, List.append_nil]
        rw [hx', ← List.append_assoc, List.take_append_of_le_length (by simp [hm, ← hx', htk, Nat.add_mul]), List.take_of_length_le (by simp [hm, ← hx', htk, Nat.add_mul])]
    · rw [if_neg hroom, if_pos hbd]
      refine ⟨_, _, [H.length], rfl, .inr ⟨H.length, c.extract 0 (0 + l.length * m) ++ (enc x).toArray, l.length + 1, by simp, rfl, by rw [List.getElem?_append_right (by simp)]; simp, ?_, by simp, ?_⟩, ⟨fun i o hi ha hn => ?_, by simp⟩, fun i hi => .inr (by rw [List.mem_singleton] at hi; omega)⟩
      · rw [Nat.zero_add, hx]; simp [flat_size hm, hm, Nat.add_mul]
      · rw [Nat.zero_add, hx, ← flatV_one enc x, ← flatV_append]
        rw [show (l ++ [x]).length * m = (flatV enc (l ++ [x])).size from (flat_size hm _).symm, Array.extract_size]
      · rw [List.mem_singleton] at hn
        rw [List.getElem?_append_left (by simpa using (List.getElem?_eq_some_iff.1 hi).1), List.getElem?_set_ne (fun e => hn e.symm)]; exact hi
end
end Go.Am

set_option linter.unusedSimpArgs false
set_option linter.unusedVariables false
/- What lies where: a list of blocks with what they hold. -/
namespace Go.Am
open Go Go.Proofs
abbrev Lay := List (Nat × AObj)
/-- these blocks hold this; no block twice -/
structure Holds (H : AH) (L : Lay) : Prop where
  at_ : ∀ p ∈ L, H[p.1]? = some p.2
  nd : (L.map (·.1)).Nodup
  al : ∀ p ∈ L, p.2.alive = true
def Lay.own (L : Lay) : List Nat := L.map (·.1)
theorem Holds.get {H : AH} {L : Lay} (h : Holds H L) {b : Nat} {o : AObj} (hm : (b, o) ∈ L) : H[b]? = some o := h.at_ _ hm
theorem Holds.below {H : AH} {L : Lay} (h : Holds H L) : ∀ i ∈ L.own, i < H.length := by
  intro i hi
  obtain ⟨p, hp, rfl⟩ := List.mem_map.1 hi
  exact (List.getElem?_eq_some_iff.1 (h.at_ p hp)).1
theorem Holds.nil {H : AH} : Holds H [] := ⟨(fun p hp => by cases hp), List.nodup_nil, fun p hp => by cases hp⟩
/-- where others write -/
theorem Holds.rest {H H' : AH} {L : Lay} {O : List Nat} (h : Holds H L) (r : Rest O H H') (hd : ∀ i ∈ L.own, i ∉ O) : Holds H' L :=
  ⟨fun p hp => by
    exact r.same p.1 _ (h.at_ p hp) (h.al p hp) (hd _ (List.mem_map_of_mem hp)), h.nd, h.al⟩
theorem Holds.app {H t : AH} {L : Lay} (h : Holds H L) : Holds (H ++ t) L :=
  ⟨fun p hp => by rw [List.getElem?_append_left (h.below _ (List.mem_map_of_mem hp))]; exact h.at_ p hp, h.nd, h.al⟩
/-- a block is written -/
def Lay.put (L : Lay) (b : Nat) (o : AObj) : Lay := L.map fun p => if p.1 = b then (b, o) else p
theorem Lay.own_put (L : Lay) (b : Nat) (o : AObj) : (L.put b o).own = L.own := by
  unfold Lay.own Lay.put
  rw [List.map_map]
  apply List.map_congr_left
  intro p _
  simp only [Function.comp]
  split
  · rename_i h; exact h.symm
  · rfl
theorem Holds.put {H : AH} {L : Lay} (h : Holds H L) {b : Nat} {o : AObj} (hb : b ∈ L.own) (ha : o.alive = true) : Holds (H.set b o) (L.put b o) := by
  refine ⟨fun p hp => ?_, by have := L.own_put b o; unfold Lay.own at this; rw [this]; exact h.nd, fun p hp => by
    obtain ⟨q, hq, rfl⟩ := List.mem_map.1 hp
    by_cases he : q.1 = b
    · rw [if_pos he]; exact ha
    · rw [if_neg he]; exact h.al q hq⟩
  obtain ⟨q, hq, rfl⟩ := List.mem_map.1 hp
  by_cases he : q.1 = b
  · rw [if_pos he]; exact List.getElem?_set_self (h.below b hb)
  · rw [if_neg he]
    rw [List.getElem?_set_ne (fun e => he e.symm)]
    exact h.at_ q hq
/-- a new block -/
theorem Holds.new {H : AH} {L : Lay} (h : Holds H L) (o : AObj) (ha : o.alive = true) : Holds (H ++ [o]) ((H.length, o) :: L) := by
  refine ⟨fun p hp => ?_, ?_, fun p hp => (List.mem_cons.1 hp).elim (fun e => by rw [e]; exact ha) (h.al p)⟩
  · rcases List.mem_cons.1 hp with rfl | hp
    · simp
    · exact h.app.at_ p hp
  · rw [List.map_cons, List.nodup_cons]
    refine ⟨fun hi => ?_, h.nd⟩
    have := h.below _ hi
    simp at this
/-- some of them -/
theorem Holds.sub {H : AH} {L L' : Lay} (h : Holds H L) (hs : L'.Sublist L) : Holds H L' := ⟨fun p hp => h.at_ p (hs.subset hp), h.nd.sublist (hs.map _), fun p hp => h.al p (hs.subset hp)⟩
theorem Holds.perm {H : AH} {L L' : Lay} (h : Holds H L) (hs : L'.Perm L) : Holds H L' := ⟨fun p hp => h.at_ p (hs.mem_iff.1 hp), (hs.map _).nodup_iff.2 h.nd, fun p hp => h.al p (hs.mem_iff.1 hp)⟩
theorem Holds.append {H : AH} {L L' : Lay} (h : Holds H L) (h' : Holds H L') (hd : ∀ i ∈ L.own, i ∉ L'.own) : Holds H (L ++ L') := by
  refine ⟨fun p hp => (List.mem_append.1 hp).elim (h.at_ p) (h'.at_ p), ?_, fun p hp => (List.mem_append.1 hp).elim (h.al p) (h'.al p)⟩
  rw [List.map_append, List.nodup_append]
  exact ⟨h.nd, h'.nd, fun a ha b hb e => hd a ha (e ▸ hb)⟩
/-! rows in a layout -/
/-- a row: none yet; or a block, its cells, its room -/
abbrev Row := Option (Nat × Array Value × Nat)
def Row.val (r : Row) (n : Nat) : Value := match r with | none => .slice none 0 0 | some (b, _, cap) => .slice (some ⟨b, 0, none⟩) n cap
def Row.lay (r : Row) (m : Nat) : Lay := match r with | none => [] | some (b, c, _) => [(b, .cells c m true)]
/-- it holds a list -/
def Row.Is {α : Type} (r : Row) (enc : α → List Value) (m : Nat) (l : List α) : Prop := match r with
  | none => l = []
  | some (_, c, cap) => c.size = cap * m ∧ l.length ≤ cap ∧ c.extract 0 (l.length * m) = flatV enc l
theorem Row.rowAt {α : Type} {enc : α → List Value} {m : Nat} {H : AH} {r : Row} {l : List α} (h : Holds H (r.lay m)) (hi : r.Is enc m l) : RowAt enc m H (r.val l.length) (r.lay m).own l := by
  cases r with
  | none => exact .inl ⟨rfl, hi, rfl⟩
  | some p =>
    obtain ⟨b, c, cap⟩ := p
    exact .inr ⟨b, c, cap, rfl, rfl, h.get (by simp [Row.lay]), hi.1, hi.2.1, hi.2.2⟩
theorem RowAt.row {α : Type} {enc : α → List Value} {m : Nat} {H : AH} {v : Value} {O : List Nat} {l : List α} (h : RowAt enc m H v O l) : ∃ r : Row, v = r.val l.length ∧ O = (r.lay m).own ∧ Holds H (r.lay m) ∧ r.Is enc m l := by
  rcases h with ⟨rfl, rfl, rfl⟩ | ⟨b, c, cap, rfl, rfl, hb, hs, hc, hx⟩
  · exact ⟨none, rfl, rfl, .nil, rfl⟩
  · exact ⟨some (b, c, cap), rfl, rfl, ⟨fun p hp => by simp [Row.lay] at hp; subst hp; exact hb, by simp [Row.lay], fun p hp => by simp [Row.lay] at hp; subst hp; rfl⟩, hs, hc, hx⟩
/-- one more at its end -/
theorem Row.append {α : Type} {enc : α → List Value} {m : Nat} {H : AH} {r : Row} {l : List α} {g : Bool} {by_ : Nat} (h : Holds H (r.lay m)) (hi : r.Is enc m l) (hm : ∀ x, (enc x).length = m) (x : α) (hbd : (2 * (l.length + 1) + 192) * by_ ≤ 2 ^ 48 ∧ l.length + 1 < 2 ^ 62) :
    ∃ (r' : Row) (H' : AH), mkApp H (r.val l.length) (some (g, m, by_)) (some (1, (enc x).toArray)) = some (r'.val (l.length + 1), H') ∧ Holds H' (r'.lay m) ∧ r'.Is enc m (l ++ [x]) ∧ Rest (r.lay m).own H H' ∧ ∀ i ∈ (r'.lay m).own, i ∈ (r.lay m).own ∨ H.length ≤ i := by
  obtain ⟨v', H', O', e1, e2, e3, e4⟩ := (Row.rowAt h hi).append (g := g) hm x hbd
  obtain ⟨r', rfl, rfl, h1, h2⟩ := e2.row
  refine ⟨r', H', ?_, h1, h2, e3, e4⟩
  rw [e1]; simp
end Go.Am

set_option linter.unusedSimpArgs false
set_option linter.unusedVariables false
/- A world of accounts: what its fields hold. -/
namespace Go.Am
open Go Go.Proofs
/-- a step of the journal -/
structure Stp where
  kind : Int
  pl : Plc
  was : Acc
  word : Word4
  n : Int
def encStp (s : Stp) : List Value := .int .i64 s.kind :: (encPlc s.pl ++ (encAcc s.was ++ (encWord s.word ++ [.int .i64 s.n])))
theorem length_encStp (s : Stp) : (encStp s).length = 36 := by simp [encStp, length_encPlc, length_encAcc, length_encWord]
abbrev Mk := Int × Int
def encMk (x : Mk) : List Value := [.int .i64 x.1, .int .i64 x.2]
theorem length_encMk (x : Mk) : (encMk x).length = 2 := rfl
structure Lg where
  addr : Addr20
  topics : Sl Word4
  data : Sl UInt8
def encLg (x : Lg) : List Value := encAddr x.addr ++ [slV encWord x.topics, slV encU8 x.data]
theorem length_encLg (x : Lg) : (encLg x).length = 22 := by simp [encLg, length_encAddr]
/-- a world -/
structure WS where
  all : Addr20 → Option Acc
  slots : Plc → Option Word4
  touched : Addr20 → Option Int
  looked : Plc → Option Int
  orig : Plc → Option Word4
  dead : Addr20 → Option Int
  refund : Int
  logs : List Lg
  journal : List Stp
  marks : List Mk
  next : Int
/-- a map's block: its entries, its clock -/
structure MB where
  b : Nat
  es : Array MapEntry
  ck : Nat
/-- where it lies -/
structure WI where
  b : Nat
  all : MB
  slots : MB
  touched : MB
  looked : MB
  orig : MB
  dead : MB
  logs : Row
  journal : Row
  marks : Row
def MB.obj (m : MB) (t : TypeId) : Nat × AObj := (m.b, .map t m.es m.ck)
def WI.cells (I : WI) (S : WS) : Array Value := #[.map (some I.all.b), .map (some I.slots.b), .map (some I.touched.b), .map (some I.looked.b), .map (some I.orig.b), .map (some I.dead.b), .int .i64 S.refund, I.logs.val S.logs.length, I.journal.val S.journal.length, I.marks.val S.marks.length, .int .i64 S.next]
/-- its blocks; tA, tP: the types of its maps' keys -/
def WI.lay (I : WI) (tA tP : TypeId) (S : WS) : Lay :=
  (I.b, .cells (I.cells S) 0 true) :: I.all.obj tA :: I.slots.obj tP :: I.touched.obj tA :: I.looked.obj tP :: I.orig.obj tP :: I.dead.obj tA :: (I.logs.lay 22 ++ (I.journal.lay 36 ++ I.marks.lay 2))
abbrev encAccV (x : Acc) : Value := .agg (encAcc x).toArray
abbrev encWordV (x : Word4) : Value := .agg (encWord x).toArray
abbrev encIntV (x : Int) : Value := .int .i64 x
/-- a world lies there -/
structure WAt (P : Program) (tA tP : TypeId) (H : AH) (I : WI) (S : WS) : Prop where
  holds : Holds H (I.lay tA tP S)
  all : MFun P tA keyAddr encAccV I.all.es I.all.ck S.all
  slots : MFun P tP keyPlc encWordV I.slots.es I.slots.ck S.slots
  touched : MFun P tA keyAddr encIntV I.touched.es I.touched.ck S.touched
  looked : MFun P tP keyPlc encIntV I.looked.es I.looked.ck S.looked
  orig : MFun P tP keyPlc encWordV I.orig.es I.orig.ck S.orig
  dead : MFun P tA keyAddr encIntV I.dead.es I.dead.ck S.dead
  logs : I.logs.Is encLg 22 S.logs
  journal : I.journal.Is encStp 36 S.journal
  marks : I.marks.Is encMk 2 S.marks
section
variable {P : Program} {tA tP : TypeId} {H H' : AH} {I : WI} {S : WS}
theorem WAt.box (w : WAt P tA tP H I S) : H[I.b]? = some (.cells (I.cells S) 0 true) := w.holds.get (by simp [WI.lay])
theorem WAt.hAll (w : WAt P tA tP H I S) : H[I.all.b]? = some (.map tA I.all.es I.all.ck) := w.holds.get (by simp [WI.lay, MB.obj])
theorem WAt.hSlots (w : WAt P tA tP H I S) : H[I.slots.b]? = some (.map tP I.slots.es I.slots.ck) := w.holds.get (by simp [WI.lay, MB.obj])
theorem WAt.hTouched (w : WAt P tA tP H I S) : H[I.touched.b]? = some (.map tA I.touched.es I.touched.ck) := w.holds.get (by simp [WI.lay, MB.obj])
theorem WAt.hLooked (w : WAt P tA tP H I S) : H[I.looked.b]? = some (.map tP I.looked.es I.looked.ck) := w.holds.get (by simp [WI.lay, MB.obj])
theorem WAt.hOrig (w : WAt P tA tP H I S) : H[I.orig.b]? = some (.map tP I.orig.es I.orig.ck) := w.holds.get (by simp [WI.lay, MB.obj])
theorem WAt.hDead (w : WAt P tA tP H I S) : H[I.dead.b]? = some (.map tA I.dead.es I.dead.ck) := w.holds.get (by simp [WI.lay, MB.obj])
/-- where others write, it stays -/
theorem WAt.rest {O : List Nat} (w : WAt P tA tP H I S) (r : Rest O H H') (hd : ∀ i ∈ (I.lay tA tP S).own, i ∉ O) : WAt P tA tP H' I S :=
  { w with holds := w.holds.rest r hd }
theorem WAt.app {t : AH} (w : WAt P tA tP H I S) : WAt P tA tP (H ++ t) I S := { w with holds := w.holds.app }
end
def WI.own (I : WI) : List Nat := I.b :: I.all.b :: I.slots.b :: I.touched.b :: I.looked.b :: I.orig.b :: I.dead.b :: ((I.logs.lay 22).own ++ ((I.journal.lay 36).own ++ (I.marks.lay 2).own))
theorem WI.own_lay (I : WI) (tA tP : TypeId) (S : WS) : (I.lay tA tP S).own = I.own := by simp [WI.lay, WI.own, Lay.own, MB.obj]
end Go.Am

set_option linter.unusedVariables false
set_option linter.unusedSimpArgs false
/- Regions that draw their order: what they turn is not what they read. -/
namespace Go.Am.S
open Go Go.Am Go.Proofs
/-- an operation that makes a literal slice -/
def isBS : Op → Bool
  | .buildSlice .. => true
  | _ => false
def isW (P : Program) (op : Op) : Bool := isBS op || isV P op
/-- what an operation does, where a literal slice is a value -/
def sop (P : Program) (ρ : Operand → Value) (h : AH) (o : Oper) : Option ARes :=
  match o.op with
  | .buildSlice t n ps => (fbuild P t n (ps.toList.map fun (i, x) => (i, ρ x))).map fun v => .val v h
  | _ => aop P ρ h o
theorem sop_of {P : Program} {ρ : Operand → Value} {h : AH} {o : Oper} (hb : isBS o.op = false) : sop P ρ h o = aop P ρ h o := by
  obtain ⟨dst, op, type, pos, after, guard⟩ := o
  cases op <;> first | rfl | cases hb
theorem sop_congr {P : Program} {ρ ρ' : Operand → Value} {h : AH} (o : Oper) (hρ : ∀ x ∈ o.op.operands, ρ x = ρ' x) : sop P ρ h o = sop P ρ' h o := by
  cases hb : isBS o.op with
  | false => rw [sop_of hb, sop_of hb]; exact aop_congr o hρ
  | true =>
    obtain ⟨dst, op, type, pos, after, guard⟩ := o
    cases op <;> simp only [isBS] at hb <;> (try (cases hb; done))
    rename_i t n ps
    have e : (ps.toList.map fun (i, x) => (i, ρ x)) = (ps.toList.map fun (i, x) => (i, ρ' x)) := List.map_congr_left fun p hm => by
      obtain ⟨i, x⟩ := p
      have h1 : ρ x = ρ' x := hρ x (by
        simp only [Op.operands, Array.toList_map, List.mem_toArray, List.mem_map, Array.mem_map]
        first | exact ⟨(i, x), hm, rfl⟩ | exact ⟨(i, x), by simpa using hm, rfl⟩)
      show (i, ρ x) = (i, ρ' x)
      rw [h1]
    show (fbuild P t n _).map _ = (fbuild P t n _).map _
    rw [e]
theorem sop_aput {P : Program} {ops : Array Oper} {a : Array Value} {h : AH} (o : Oper) (dst : Option Tmp) (v : Value) (hd : ∀ d, dst = some d → d ∉ o.looksAt ops) : sop P (aeval P (aput a dst v)) h o = sop P (aeval P a) h o :=
  sop_congr o fun x hx => aeval_aput fun d hd' hxd => hd d hd' (by
    subst hxd
    exact List.mem_append_left _ (List.mem_filterMap.2 ⟨.tmp d, by simpa using hx, rfl⟩))
/-! ### a region, in whatever order -/
/-- Does this operation leave alone what was there, axs far axs the operations behind it read it? -/
def leaves (H0 : AH) (rest : List Oper) (o : Oper) (h1 : AH) : Prop := Pres H0 h1
/-- operations in the order of the text, such that any order that their edges allow comes to the same -/
def awd (P : Program) (ops : Array Oper) (H0 : AH) (Q : Exit → Array Value → AH → Prop) : List Oper → Array Value → AH → Prop
  | [], a, h => Q .normal a h
  | o :: rest, a, h =>
    match gval ops a o with
    | some false => awd P ops H0 Q rest (aput a o.dst undef) h
    | some true =>
      if isW P o.op then (match sop P (aeval P a) H0 o with
        | some (.val v _) => awd P ops H0 Q rest (aput a o.dst v) h
        | _ => False)
      else match sop P (aeval P a) h o with
      | some (.val v h1) => leaves H0 rest o h1 ∧ awd P ops H0 Q rest (aput a o.dst v) h1
      | some (.skip h1) => leaves H0 rest o h1 ∧ awd P ops H0 Q rest (aput a o.dst undef) h1
      | some (.enter F args) => ∃ R, ACalls P F args h R ∧ Calm P ops F args h R ∧ ∀ v h1, R v h1 → Pres H0 h1 ∧ awd P ops H0 Q rest (aput a o.dst v) h1
      | _ => False
    | none => False
/-- may these two (x ahead of i in the text) be carried out in either order? -/
def swapOk (P : Program) (ops : Array Oper) (x i : Oper) : Bool :=
  x.apart ops i && ((isW P x.op || isW P i.op) ||
    (isAlloc i.op && i.guard.isNone && isFn P x.op && hasAlloc ops))
theorem aop_at {P : Program} {ops : Array Oper} {a : Array Value} {h : AH} {x i : Oper} (hap : x.apart ops i = true) (v : Value) : sop P (aeval P (aput a x.dst v)) h i = sop P (aeval P a) h i :=
  sop_aput (ops := ops) i x.dst v (Oper.apart_spec hap).1
theorem aop_at' {P : Program} {ops : Array Oper} {a : Array Value} {h : AH} {x i : Oper} (hap : x.apart ops i = true) (v : Value) : sop P (aeval P (aput a i.dst v)) h x = sop P (aeval P a) h x :=
  sop_aput (ops := ops) x i.dst v (Oper.apart_spec hap).2.2
theorem gval_at {ops : Array Oper} {a : Array Value} {x i : Oper} (hap : x.apart ops i = true) (v : Value) : gval ops (aput a x.dst v) i = gval ops a i := gval_aput i x.dst v (Oper.apart_spec hap).1
theorem gval_at' {ops : Array Oper} {a : Array Value} {x i : Oper} (hap : x.apart ops i = true) (v : Value) : gval ops (aput a i.dst v) x = gval ops a x := gval_aput x i.dst v (Oper.apart_spec hap).2.2
theorem aput_at {ops : Array Oper} {a : Array Value} {x i : Oper} (hap : x.apart ops i = true) (v u : Value) : aput (aput a x.dst v) i.dst u = aput (aput a i.dst u) x.dst v := aput_comm a v u (Oper.apart_spec hap).2.1
/-- what one operation does to the frame and the heap, in such a region; 'K' for what follows -/
def awd1 (P : Program) (ops : Array Oper) (H0 : AH) (rest : List Oper) (K : Array Value → AH → Prop) (o : Oper) (a : Array Value) (h : AH) : Prop :=
    match gval ops a o with
    | some false => K (aput a o.dst undef) h
    | some true =>
      if isW P o.op then (match sop P (aeval P a) H0 o with
        | some (.val v _) => K (aput a o.dst v) h
        | _ => False)
      else match sop P (aeval P a) h o with
      | some (.val v h1) => leaves H0 rest o h1 ∧ K (aput a o.dst v) h1
      | some (.skip h1) => leaves H0 rest o h1 ∧ K (aput a o.dst undef) h1
      | some (.enter F args) => ∃ R, ACalls P F args h R ∧ Calm P ops F args h R ∧ ∀ v h1, R v h1 → Pres H0 h1 ∧ K (aput a o.dst v) h1
      | _ => False
    | none => False
theorem awd_cons {P : Program} {ops : Array Oper} {H0 : AH} {Q : Exit → Array Value → AH → Prop} {o : Oper} {rest : List Oper} {a : Array Value} {h : AH} : awd P ops H0 Q (o :: rest) a h = awd1 P ops H0 rest (awd P ops H0 Q rest) o a h := rfl
theorem awd1_map {P : Program} {ops : Array Oper} {H0 : AH} {rest rest' : List Oper} {K K' : Array Value → AH → Prop} {o : Oper} {a a' : Array Value} {h : AH} (hg : gval ops a' o = gval ops a o) (ha : ∀ h, sop P (aeval P a') h o = sop P (aeval P a) h o)
    (hl : ∀ h1, leaves H0 rest o h1 → leaves H0 rest' o h1) (hk : ∀ v h1, K (aput a o.dst v) h1 → K' (aput a' o.dst v) h1) (H : awd1 P ops H0 rest K o a h) : awd1 P ops H0 rest' K' o a' h := by
  unfold awd1 at H ⊢
  rw [hg, ha H0, ha h]
  split at H
  · exact hk _ _ H
  · split at H
    · rename_i hv
      simp only [hv, if_true]
      split at H
      · exact hk _ _ H
      · exact H.elim
    · rename_i hv
      simp only [hv, Bool.false_eq_true, if_false]
      split at H
      · exact ⟨hl _ H.1, hk _ _ H.2⟩
      · exact ⟨hl _ H.1, hk _ _ H.2⟩
      · obtain ⟨R, hc, hcm, hR⟩ := H
        exact ⟨R, hc, hcm, fun v h1 hr => ⟨(hR v h1 hr).1, hk _ _ (hR v h1 hr).2⟩⟩
      · exact H.elim
  · exact H.elim
theorem awd1_some {P : Program} {ops : Array Oper} {H0 : AH} {rest : List Oper} {K : Array Value → AH → Prop} {o : Oper} {a : Array Value} {h : AH} (H : awd1 P ops H0 rest K o a h) : ∃ v h1, K (aput a o.dst v) h1 := by
  unfold awd1 at H
  split at H
  · exact ⟨_, _, H⟩
  · split at H
    · split at H
      · exact ⟨_, _, H⟩
      · exact H.elim
    · split at H
      · exact ⟨_, _, H.2⟩
      · exact ⟨_, _, H.2⟩
      · obtain ⟨R, hc, _, hR⟩ := H
        obtain ⟨v, h1, hr⟩ := hc.inh
        exact ⟨v, h1, (hR v h1 hr).2⟩
      · exact H.elim
  · exact H.elim
theorem awd1_v {P : Program} {ops : Array Oper} {H0 : AH} {rest : List Oper} {K : Array Value → AH → Prop} {o : Oper} {a : Array Value} {h : AH} (hv : isW P o.op = true) :
    awd1 P ops H0 rest K o a h ↔ (gval ops a o = some false ∧ K (aput a o.dst undef) h) ∨ (gval ops a o = some true ∧ ∃ u h2, sop P (aeval P a) H0 o = some (.val u h2) ∧ K (aput a o.dst u) h) := by
  unfold awd1
  constructor
  · intro H
    split at H
    · rename_i hg; exact .inl ⟨hg, H⟩
    · rename_i hg
      rw [if_pos hv] at H
      split at H
      · rename_i u h2 hu; exact .inr ⟨hg, u, h2, hu, H⟩
      · exact H.elim
    · exact H.elim
  · rintro (⟨hg, hk⟩ | ⟨hg, u, h2, hu, hk⟩)
    · rw [hg]; exact hk
    · rw [hg]
      simp only [hv, if_true, hu]
      exact hk
theorem swap_v_any {P : Program} {ops : Array Oper} {H0 : AH} {K : Array Value → AH → Prop} {x i : Oper} {l : List Oper} {a : Array Value} {h : AH} (hap : x.apart ops i = true) (hi : isW P i.op = true)
    (H : awd1 P ops H0 (i :: l) (awd1 P ops H0 l K i) x a h) : awd1 P ops H0 (x :: l) (awd1 P ops H0 l K x) i a h := by
  have hlv : ∀ h1, leaves H0 (i :: l) x h1 → leaves H0 l x h1 := fun h1 hl => hl
  rw [awd1_v hi]
  obtain ⟨v0, h10, hw0⟩ := awd1_some H
  rw [awd1_v hi, gval_at hap, aop_at hap] at hw0
  rcases hw0 with ⟨hg, _⟩ | ⟨hg, u, h2, hu, _⟩
  · refine .inl ⟨hg, awd1_map (gval_at' hap _) (fun _ => aop_at' hap _) hlv (fun v h1 hk => ?_) H⟩
    rw [awd1_v hi, gval_at hap, aop_at hap] at hk
    rcases hk with ⟨_, hk⟩ | ⟨hg2, _⟩
    · rw [← aput_at hap]; exact hk
    · rw [hg] at hg2; cases hg2
  · refine .inr ⟨hg, u, h2, hu, awd1_map (gval_at' hap _) (fun _ => aop_at' hap _) hlv (fun v h1 hk => ?_) H⟩
    rw [awd1_v hi, gval_at hap, aop_at hap] at hk
    rcases hk with ⟨hg2, _⟩ | ⟨_, u2, h3, hu2, hk⟩
    · rw [hg] at hg2; cases hg2
    · rw [hu] at hu2; cases hu2; rw [← aput_at hap]; exact hk
theorem swap_any_v {P : Program} {ops : Array Oper} {H0 : AH} {K : Array Value → AH → Prop} {x i : Oper} {l : List Oper} {a : Array Value} {h : AH} (hap : x.apart ops i = true) (hx : isW P x.op = true)
    (H : awd1 P ops H0 (i :: l) (awd1 P ops H0 l K i) x a h) : awd1 P ops H0 (x :: l) (awd1 P ops H0 l K x) i a h := by
  have hlv : ∀ h1, leaves H0 l i h1 → leaves H0 (x :: l) i h1 := fun h1 hl => hl
  rw [awd1_v hx] at H
  rcases H with ⟨hg, H2⟩ | ⟨hg, u, h2, hu, H2⟩
  · refine awd1_map (gval_at hap _).symm (fun _ => (aop_at hap _).symm) hlv (fun v h1 hk => ?_) H2
    rw [awd1_v hx, gval_at' hap, aop_at' hap]
    rw [aput_at hap] at hk
    exact .inl ⟨hg, hk⟩
  · refine awd1_map (gval_at hap _).symm (fun _ => (aop_at hap _).symm) hlv (fun v h1 hk => ?_) H2
    rw [awd1_v hx, gval_at' hap, aop_at' hap]
    rw [aput_at hap] at hk
    exact .inr ⟨hg, u, h2, hu, hk⟩
theorem isFn_enter {P : Program} {a : Array Value} {x : Oper} (hf : isFn P x.op = true) : isW P x.op = false ∧ ∃ F args, ∀ h, sop P (aeval P a) h x = some (.enter F args) := by
  obtain ⟨dst, op, type, pos, after, guard⟩ := x
  simp only at hf
  unfold isFn at hf
  split at hf
  · rename_i F args ts
    refine ⟨rfl, F, #[] ++ args.map (aeval P a) ++ #[], fun h => ?_⟩
    show acall P h (.func (.func F) #[] #[]) (args.map (aeval P a)) = _
    simp only [acall, hf, if_true]
  · cases hf
theorem isAlloc_val {P : Program} {a a' : Array Value} {i : Oper} (hi : isAlloc i.op = true) : isW P i.op = false ∧ isWriter i.op = false ∧ (∀ h, sop P (aeval P a') h i = sop P (aeval P a) h i) ∧ ∀ h r, sop P (aeval P a) h i = some r → ∃ v z, r = .val v (h ++ [z]) := by
  obtain ⟨dst, op, type, pos, after, guard⟩ := i
  cases op <;> simp only [isAlloc] at hi <;> (try (cases hi; done))
  refine ⟨rfl, rfl, fun h => rfl, fun h r hr => ?_⟩
  obtain ⟨v, h1, h2, rfl⟩ := avalh_some (show avalh (aalloc P h _) = some r from hr)
  unfold aalloc at h2
  split at h2
  · split at h2
    · split at h2
      · unfold abld at h2
        split at h2
        · cases h2; exact ⟨_, _, rfl⟩
        · cases h2
      split at h2
      · cases h2; exact ⟨_, _, rfl⟩
      · cases h2
    · cases h2
  · cases h2
theorem swap_alloc {P : Program} {ops : Array Oper} {H0 : AH} {K : Array Value → AH → Prop} {x i : Oper} {l : List Oper} {a : Array Value} {h : AH} (hap : x.apart ops i = true) (hi : isAlloc i.op = true) (hg : i.guard.isNone = true) (hx : isFn P x.op = true) (hal : hasAlloc ops = true)
    (H : awd1 P ops H0 (i :: l) (awd1 P ops H0 l K i) x a h) : awd1 P ops H0 (x :: l) (awd1 P ops H0 l K x) i a h := by
  have hgi : ∀ b, gval ops b i = some true := fun b => by
    unfold gval
    cases hh : i.guard with
    | none => rfl
    | some p => rw [hh] at hg; cases hg
  obtain ⟨v1, v2, _, v4⟩ := isAlloc_val (P := P) (a := a) (a' := a) hi
  have inner : ∀ b, awd1 P ops H0 l K i b h → ∃ p z, sop P (aeval P a) h i = some (.val p (h ++ [z])) ∧ leaves H0 l i (h ++ [z]) ∧ K (aput b i.dst p) (h ++ [z]) := by
    intro b hb
    obtain ⟨_, _, w3, _⟩ := isAlloc_val (P := P) (a := a) (a' := b) hi
    unfold awd1 at hb
    rw [hgi, v1] at hb
    simp only [Bool.false_eq_true, if_false, w3] at hb
    split at hb
    · rename_i v h1 hv
      obtain ⟨p, z, e⟩ := v4 h _ hv
      cases e
      exact ⟨_, _, hv, hb.1, hb.2⟩
    · rename_i h1 hv
      obtain ⟨p, z, e⟩ := v4 h _ hv
      cases e
    · rename_i F args hv
      obtain ⟨p, z, e⟩ := v4 h _ hv
      cases e
    · exact hb.elim
  have lift : ∀ z, leaves H0 l i (h ++ [z]) → Pres H0 (h ++ [z]) := fun z hl => hl
  have out : ∀ p z, sop P (aeval P a) h i = some (.val p (h ++ [z])) → leaves H0 l i (h ++ [z]) → awd1 P ops H0 l K x (aput a i.dst p) (h ++ [z]) → awd1 P ops H0 (x :: l) (awd1 P ops H0 l K x) i a h := by
    intro p z e1 e2 e3
    unfold awd1
    rw [hgi, v1]
    simp only [Bool.false_eq_true, if_false, e1]
    exact ⟨lift z e2, e3⟩
  obtain ⟨f1, F, args, f2⟩ := isFn_enter (P := P) (a := a) hx
  unfold awd1 at H
  split at H
  · rename_i hgx
    obtain ⟨p, z, e1, e2, e3⟩ := inner _ H
    refine out p z e1 e2 ?_
    unfold awd1
    rw [gval_at' hap, hgx]
    rw [aput_at hap] at e3
    exact e3
  · rename_i hgx
    rw [f1] at H
    simp only [Bool.false_eq_true, if_false, f2] at H
    obtain ⟨R, hc, hcm, hR⟩ := H
    rcases hcm with hcm | ⟨c1, c2⟩
    · rw [hal] at hcm; cases hcm
    obtain ⟨v0, h0, r0⟩ := hc.inh
    have hR2 : ∀ v, R v h → awd1 P ops H0 l K i (aput a x.dst v) h := fun v hr => (hR v h hr).2
    have r0' : R v0 h := by rw [← c1 v0 h0 r0]; rw [c1 v0 h0 r0]; rw [c1 v0 h0 r0] at r0; exact r0
    obtain ⟨p, z, e1, e2, _⟩ := inner _ (hR2 v0 r0')
    refine out p z e1 e2 ?_
    unfold awd1
    rw [gval_at' hap, hgx, f1]
    simp only [Bool.false_eq_true, if_false]
    have e4 : sop P (aeval P (aput a i.dst p)) (h ++ [z]) x = some (.enter F args) := by rw [aop_at' hap]; exact f2 _
    simp only [e4]
    refine ⟨fun v h1 => R v h ∧ h1 = h ++ [z], c2 [z], .inr ⟨fun v h1 hr => hr.2, fun y => ?_⟩, fun v h1 hr => ?_⟩
    · have := c2 ([z] ++ y)
      rw [← List.append_assoc] at this
      exact this.mono fun v h1 hr => ⟨⟨hr.1, rfl⟩, hr.2⟩
    · obtain ⟨hr1, rfl⟩ := hr
      obtain ⟨p', z', e1', e2', e3'⟩ := inner _ (hR2 v hr1)
      rw [e1] at e1'
      simp only [Option.some.injEq, ARes.val.injEq] at e1'
      obtain ⟨rfl, e6⟩ := e1'
      rw [e6]
      refine ⟨lift _ e2', ?_⟩
      rw [aput_at hap] at e3'
      exact e3'
  · exact H.elim
theorem awd_front {P : Program} {ops : Array Oper} {H0 : AH} {Q : Exit → Array Value → AH → Prop} {i : Oper} {l2 : List Oper} (l1 : List Oper) : ∀ {a : Array Value} {h : AH}, (∀ x ∈ l1, swapOk P ops x i = true) →
    awd P ops H0 Q (l1 ++ i :: l2) a h → awd P ops H0 Q (i :: (l1 ++ l2)) a h := by
  induction l1 with
  | nil => intro a h _ H; exact H
  | cons x r ih =>
    intro a h hs H
    have hx := hs x (by simp)
    simp only [swapOk, Bool.and_eq_true, Bool.not_eq_true', Bool.or_eq_true] at hx
    obtain ⟨h1, hx⟩ := hx
    have H2 : awd1 P ops H0 (i :: (r ++ l2)) (awd1 P ops H0 (r ++ l2) (awd P ops H0 Q (r ++ l2)) i) x a h := by
      have H3 : awd1 P ops H0 (r ++ i :: l2) (awd P ops H0 Q (r ++ i :: l2)) x a h := H
      refine awd1_map rfl (fun _ => rfl) (fun h1 hl => hl) (fun v h1 hk => ?_) H3
      exact ih (fun y hy => hs y (List.mem_cons_of_mem _ hy)) hk
    show awd1 P ops H0 (x :: (r ++ l2)) (awd1 P ops H0 (r ++ l2) (awd P ops H0 Q (r ++ l2)) x) i a h
    rcases hx with h2 | ⟨⟨⟨h2, h3⟩, h4⟩, h5⟩
    · rcases h2 with h2 | h2
      · exact swap_any_v h1 h2 H2
      · exact swap_v_any h1 h2 H2
    · exact swap_alloc h1 h2 h3 h4 h5 H2
/-! ### which orders there are -/
/-- of each operation: those that its edges put ahead of it, axs bits -/
def deps (ops : List Oper) : List Nat :=
  ops.foldl (fun tbl o => tbl ++ [o.after.toList.foldl (fun s e => if Region.binds .any e then s ||| 2 ^ e.on ||| tbl.getD e.on 0 else s) 0]) []
/-- i hangs on x -/
inductive Hangs (ops : List Oper) : Nat → Nat → Prop
  | one (i x : Nat) (o : Oper) (e : Edge) (ho : ops[i]? = some o) (he : e ∈ o.after) (hb : Region.binds .any e = true) (hx : e.on = x) : Hangs ops i x
  | more (i j x : Nat) (o : Oper) (e : Edge) (ho : ops[i]? = some o) (he : e ∈ o.after) (hb : Region.binds .any e = true) (hj : e.on = j) (h : Hangs ops j x) : Hangs ops i x
theorem Hangs.append {ops l : List Oper} {i x : Nat} (h : Hangs ops i x) : Hangs (ops ++ l) i x := by
  induction h with
  | one i x o e ho he hb hx => exact .one i x o e (by rw [List.getElem?_append_left (List.getElem?_eq_some_iff.1 ho).1]; exact ho) he hb hx
  | more i j x o e ho he hb hj _ ih => exact .more i j x o e (by rw [List.getElem?_append_left (List.getElem?_eq_some_iff.1 ho).1]; exact ho) he hb hj ih
theorem deps_step (tbl : List Nat) (es : List Edge) : ∀ (s0 : Nat) (x : Nat), (es.foldl (fun s e => if Region.binds .any e then s ||| 2 ^ e.on ||| tbl.getD e.on 0 else s) s0).testBit x = true →
    s0.testBit x = true ∨ ∃ e ∈ es, Region.binds .any e = true ∧ (e.on = x ∨ (tbl.getD e.on 0).testBit x = true) := by
  induction es with
  | nil => intro s0 x h; exact .inl h
  | cons e r ih =>
    intro s0 x h
    simp only [List.foldl_cons] at h
    rcases ih _ _ h with h1 | ⟨e', he', h2⟩
    · split at h1
      · rename_i hb
        simp only [Nat.testBit_or, Bool.or_eq_true] at h1
        rcases h1 with (h1 | h1) | h1
        · exact .inl h1
        · rw [Nat.testBit_two_pow] at h1
          exact .inr ⟨e, by simp, hb, .inl (by simpa using h1)⟩
        · exact .inr ⟨e, by simp, hb, .inr h1⟩
      · exact .inl h1
    · exact .inr ⟨e', List.mem_cons_of_mem _ he', h2⟩
theorem deps_spec (ops : List Oper) : (deps ops).length = ops.length ∧ ∀ i x, ((deps ops).getD i 0).testBit x = true → Hangs ops i x := by
  suffices H : ∀ (l pre : List Oper) (tbl : List Nat), tbl.length = pre.length → (∀ i x, (tbl.getD i 0).testBit x = true → Hangs pre i x) →
      (l.foldl (fun tbl (o : Oper) => tbl ++ [o.after.toList.foldl (fun s e => if Region.binds .any e then s ||| 2 ^ e.on ||| tbl.getD e.on 0 else s) 0]) tbl).length = (pre ++ l).length ∧
      ∀ i x, ((l.foldl (fun tbl (o : Oper) => tbl ++ [o.after.toList.foldl (fun s e => if Region.binds .any e then s ||| 2 ^ e.on ||| tbl.getD e.on 0 else s) 0]) tbl).getD i 0).testBit x = true → Hangs (pre ++ l) i x by
    have := H ops [] [] rfl (fun i x h => by simp at h)
    simp only [List.nil_append] at this
    exact this
  intro l
  induction l with
  | nil => intro pre tbl h1 h2; simpa using ⟨h1, h2⟩
  | cons o r ih =>
    intro pre tbl h1 h2
    simp only [List.foldl_cons]
    have := ih (pre ++ [o]) (tbl ++ [o.after.toList.foldl (fun s e => if Region.binds .any e then s ||| 2 ^ e.on ||| tbl.getD e.on 0 else s) 0]) (by simp [h1]) (fun i x h => by
      by_cases hi : i < tbl.length
      · rw [List.getD_eq_getElem?_getD, List.getElem?_append_left hi, ← List.getD_eq_getElem?_getD] at h
        exact (h2 i x h).append
      · by_cases he : i = tbl.length
        · subst he
          have e1 : (tbl ++ [o.after.toList.foldl (fun s e => if Region.binds .any e then s ||| 2 ^ e.on ||| tbl.getD e.on 0 else s) 0]).getD tbl.length 0 = o.after.toList.foldl (fun s e => if Region.binds .any e then s ||| 2 ^ e.on ||| tbl.getD e.on 0 else s) 0 := by
            simp [List.getD]
          rw [e1] at h
          have ho : (pre ++ [o])[tbl.length]? = some o := by rw [h1]; simp
          rcases deps_step tbl _ _ _ h with h3 | ⟨e, he, hb, h3⟩
          · simp at h3
          · rcases h3 with h3 | h3
            · exact .one _ _ o e ho (by simpa using he) hb h3
            · exact .more _ e.on _ o e ho (by simpa using he) hb rfl (h2 _ _ h3).append
        · have e2 : (tbl ++ [o.after.toList.foldl (fun s e => if Region.binds .any e then s ||| 2 ^ e.on ||| tbl.getD e.on 0 else s) 0])[i]? = none := List.getElem?_eq_none (by simp only [List.length_append, List.length_singleton]; omega)
          rw [List.getD_eq_getElem?_getD, e2] at h
          simp at h)
    simpa only [List.append_assoc, List.singleton_append] using this
/-- May the region be read in the order of its text, whatever order is drawn? -/
def okDraw (P : Program) (ops : List Oper) : Bool :=
  let d := deps ops
  (ops.zipIdx.all fun (o, i) => o.after.all fun e => !Region.binds .any e || decide (e.on < i)) &&
  ops.zipIdx.all fun (o, i) => ops.zipIdx.all fun (x, j) => !decide (j < i) || (d.getD i 0).testBit j || swapOk P ops.toArray x o
theorem okDraw_back {P : Program} {ops : List Oper} (h : okDraw P ops = true) {i : Nat} {o : Oper} (ho : ops[i]? = some o) {e : Edge} (he : e ∈ o.after) (hb : Region.binds .any e = true) : e.on < i := by
  simp only [okDraw, Bool.and_eq_true, List.all_eq_true] at h
  have := h.1 (o, i) (by rw [List.mem_zipIdx_iff_getElem?]; exact ho)
  simp only [Array.all_eq_true_iff_forall_mem, Bool.or_eq_true, Bool.not_eq_true', decide_eq_true_eq] at this
  rcases this e he with h1 | h1
  · rw [hb] at h1; cases h1
  · exact h1
theorem okDraw_swap {P : Program} {ops : List Oper} (h : okDraw P ops = true) {i j : Nat} {o x : Oper} (ho : ops[i]? = some o) (hx : ops[j]? = some x) (hlt : j < i) : Hangs ops i j ∨ swapOk P ops.toArray x o = true := by
  simp only [okDraw, Bool.and_eq_true, List.all_eq_true] at h
  have := h.2 (o, i) (by rw [List.mem_zipIdx_iff_getElem?]; exact ho) (x, j) (by rw [List.mem_zipIdx_iff_getElem?]; exact hx)
  simp only [Bool.or_eq_true, Bool.not_eq_true', decide_eq_false_iff_not] at this
  rcases this with (h1 | h1) | h1
  · exact absurd hlt h1
  · exact .inl ((deps_spec ops).2 i j h1)
  · exact .inr h1
/-- listed numbers are closed under what they hang on -/
def Closed (ops : List Oper) (listed : Array Bool) : Prop := ∀ i o e, ops[i]? = some o → listed.getD i false = true → e ∈ o.after → Region.binds .any e = true → listed.getD e.on false = true
theorem Closed.hangs {ops : List Oper} {listed : Array Bool} (hc : Closed ops listed) {i x : Nat} (h : Hangs ops i x) : listed.getD i false = true → listed.getD x false = true := by
  induction h with
  | one i x o e ho he hb hx => intro hl; rw [← hx]; exact hc i o e ho hl he hb
  | more i j x o e ho he hb hj _ ih => intro hl; exact ih (by rw [← hj]; exact hc i o e ho hl he hb)
theorem ready_hangs {ops : List Oper} {listed : Array Bool} (hc : Closed ops listed) {i x : Nat} (hr : i ∈ Region.ready .any ops.toArray listed) (h : Hangs ops i x) : listed.getD x false = true := by
  rw [mem_ready] at hr
  obtain ⟨_, o, ho, hall⟩ := hr
  cases h with
  | one _ _ o' e ho' he hb hx =>
    rw [List.getElem?_toArray] at ho
    rw [ho] at ho'; cases ho'
    rw [← hx]; exact hall e he hb
  | more _ j _ o' e ho' he hb hj h2 =>
    rw [List.getElem?_toArray] at ho
    rw [ho] at ho'; cases ho'
    exact hc.hangs h2 (by rw [← hj]; exact hall e he hb)
/-- the operations that are still to come, in the order of the text -/
def left (listed : Array Bool) (l : List (Oper × Nat)) : List Oper := (l.filter fun p => !listed.getD p.2 false).map (·.1)
theorem left_true {listed : Array Bool} {x : Oper} {j : Nat} {r : List (Oper × Nat)} (h : listed.getD j false = true) : left listed ((x, j) :: r) = left listed r := by
  unfold left
  rw [List.filter_cons]
  simp only [h, Bool.not_true, Bool.false_eq_true, if_false]
theorem left_false {listed : Array Bool} {x : Oper} {j : Nat} {r : List (Oper × Nat)} (h : listed.getD j false = false) : left listed ((x, j) :: r) = x :: left listed r := by
  unfold left
  rw [List.filter_cons]
  simp only [h, Bool.not_false, if_true, List.map_cons]
theorem left_split {listed : Array Bool} {i : Nat} {o : Oper} (l : List (Oper × Nat)) (hn : ∀ p ∈ l, ∀ q ∈ l, p.2 = q.2 → p = q) (hnd : (l.map (·.2)).Nodup) (hm : (o, i) ∈ l) (hi : listed.getD i false = false) (hs : i < listed.size) :
    ∃ l1 l2, left listed l = l1 ++ o :: l2 ∧ left (listed.setIfInBounds i true) l = l1 ++ l2 ∧ ∀ x ∈ l1, ∃ j, (x, j) ∈ l.takeWhile (fun p => p.2 != i) ∧ listed.getD j false = false := by
  induction l with
  | nil => simp at hm
  | cons p r ih =>
    simp only [List.map_cons, List.nodup_cons] at hnd
    obtain ⟨x, j⟩ := p
    have hset : ∀ k, k ≠ i → (listed.setIfInBounds i true).getD k false = listed.getD k false := fun k hk => getD_set_ne false (fun e => hk e.symm)
    have hself : (listed.setIfInBounds i true).getD i false = true := by simp [hs]
    by_cases hj : j = i
    · subst hj
      have hxo : x = o := by
        have := hn (x, j) (by simp) (o, j) hm rfl
        cases this; rfl
      subst hxo
      refine ⟨[], left listed r, left_false hi, ?_, by simp⟩
      have : ∀ q ∈ r, q.2 ≠ j := fun q hq e => hnd.1 (List.mem_map.2 ⟨q, hq, e⟩)
      rw [left_true hself, List.nil_append]
      unfold left
      congr 1
      apply List.filter_congr
      intro q hq
      rw [hset q.2 (this q hq)]
    · have hm' : (o, i) ∈ r := by
        rcases List.mem_cons.1 hm with h | h
        · cases h; exact absurd rfl hj
        · exact h
      obtain ⟨l1, l2, h1, h2, h3⟩ := ih (fun p hp q hq => hn p (List.mem_cons_of_mem _ hp) q (List.mem_cons_of_mem _ hq)) hnd.2 hm'
      have htw : List.takeWhile (fun p : Oper × Nat => p.2 != i) ((x, j) :: r) = (x, j) :: r.takeWhile (fun p => p.2 != i) := by
        simp [List.takeWhile_cons, hj]
      cases hl : listed.getD j false with
      | true =>
        refine ⟨l1, l2, by rw [left_true hl]; exact h1, by rw [left_true ((hset j hj).trans hl)]; exact h2, fun y hy => ?_⟩
        obtain ⟨k, hk, hk2⟩ := h3 y hy
        exact ⟨k, by rw [htw]; exact List.mem_cons_of_mem _ hk, hk2⟩
      | false =>
        refine ⟨x :: l1, l2, by rw [left_false hl, h1]; rfl, by rw [left_false ((hset j hj).trans hl), h2]; rfl, fun y hy => ?_⟩
        rcases List.mem_cons.1 hy with rfl | hy
        · exact ⟨j, by rw [htw]; simp, hl⟩
        · obtain ⟨k, hk, hk2⟩ := h3 y hy
          exact ⟨k, by rw [htw]; exact List.mem_cons_of_mem _ hk, hk2⟩
theorem zipIdx_nodup (l : List Oper) : ∀ k, ((l.zipIdx k).map (·.2)).Nodup ∧ ∀ p ∈ l.zipIdx k, k ≤ p.2 := by
  induction l with
  | nil => intro k; simp
  | cons o r ih =>
    intro k
    obtain ⟨h1, h2⟩ := ih (k + 1)
    simp only [List.zipIdx_cons, List.map_cons, List.nodup_cons, List.mem_map, List.mem_cons]
    refine ⟨⟨?_, h1⟩, ?_⟩
    · rintro ⟨q, hq, e⟩
      have := h2 q hq
      omega
    · rintro p (rfl | hp)
      · exact Nat.le_refl _
      · have := h2 p hp; omega
theorem mem_takeWhile_lt (l : List Oper) (i : Nat) : ∀ k, ∀ p ∈ (l.zipIdx k).takeWhile (fun p => p.2 != i), k ≤ i → p.2 < i ∧ p ∈ l.zipIdx k := by
  induction l with
  | nil => intro k p hp; simp at hp
  | cons o r ih =>
    intro k p hp hk
    rw [List.zipIdx_cons, List.takeWhile_cons] at hp
    by_cases he : k = i
    · subst he; simp at hp
    · have hb : ((o, k).2 != i) = true := by simpa using he
      rw [hb] at hp
      simp only [if_true, List.mem_cons] at hp
      rcases hp with rfl | hp
      · exact ⟨by simp only; omega, by simp⟩
      · obtain ⟨h1, h2⟩ := ih (k + 1) p hp (by omega)
        exact ⟨h1, by rw [List.zipIdx_cons]; exact List.mem_cons_of_mem _ h2⟩
/-- from a state in which some are listed: whatever is ready may go next -/
theorem awd_any {P : Program} {ops : List Oper} {H0 : AH} {Q : Exit → Array Value → AH → Prop} {f0 : Emb} {h0 : AH} {w0 : World} (hok : okDraw P ops = true) (ro : Option Nat) : ∀ (fuel : Nat) (listed : Array Bool) (f : Emb) (a : Array Value) (h : AH) (a' : Act) (w : World),
    listed.size = ops.length → Closed ops listed → (left listed ops.zipIdx).length ≤ fuel → (∀ x ∈ left listed ops.zipIdx, isLoad x.op = true → Pres H0 h ∨ ∃ t, softOf t x.op = true ∧ SoftT P t H0 h) → awd P ops.toArray H0 Q (left listed ops.zipIdx) a h →
    Good P f0 h0 w0 f a h a' w → wpAnyIn (fenceR ro) 0 P .any ops.toArray (Lift P f0 h0 w0 Q) fuel listed a' w := by
  have hnd := zipIdx_nodup ops 0
  have hinj : ∀ p ∈ ops.zipIdx, ∀ q ∈ ops.zipIdx, p.2 = q.2 → p = q := by
    intro p hp q hq e
    rw [List.mem_zipIdx_iff_getElem?] at hp hq
    rw [e, hq] at hp
    obtain ⟨p1, p2⟩ := p
    obtain ⟨q1, q2⟩ := q
    simp only at e hp
    cases e
    cases hp
    rfl
  -- nothing ready: nothing left
  have done : ∀ (listed : Array Bool), listed.size = ops.length → Closed ops listed → Region.ready .any ops.toArray listed = [] → left listed ops.zipIdx = [] := by
    intro listed hsz hcl hr
    by_cases hx : ∃ i, i < ops.length ∧ listed.getD i false = false
    · exfalso
      obtain ⟨i, hi, hl⟩ := hx
      induction i using Nat.strongRecOn with
      | _ i ih =>
        have : i ∈ Region.ready .any ops.toArray listed ∨ ∃ j, j < i ∧ listed.getD j false = false := by
          by_cases hex : ∃ j, j < i ∧ listed.getD j false = false
          · exact .inr hex
          · left
            rw [mem_ready]
            refine ⟨?_, ops[i], by simp, fun e he hb => ?_⟩
            · have : i < listed.size := by omega
              simp only [Array.getD, this, dite_true] at hl ⊢
              exact hl
            · have hlt := okDraw_back hok (List.getElem?_eq_getElem hi) he hb
              cases hle : listed.getD e.on false with
              | true => rfl
              | false => exact absurd ⟨e.on, hlt, hle⟩ hex
        rcases this with h1 | ⟨j, hj, hjl⟩
        · rw [hr] at h1; cases h1
        · exact ih j hj (by omega) hjl
    · unfold left
      rw [List.map_eq_nil_iff, List.filter_eq_nil_iff]
      rintro ⟨o, i⟩ hm
      rw [List.mem_zipIdx_iff_getElem?] at hm
      have hi := (List.getElem?_eq_some_iff.1 hm).1
      cases hl : listed.getD i false with
      | true => simp [hl]
      | false => exact absurd ⟨i, hi, hl⟩ hx
  -- one of them goes
  have go : ∀ (fuel : Nat), (∀ (listed : Array Bool) (f : Emb) (a : Array Value) (h : AH) (a' : Act) (w : World),
      listed.size = ops.length → Closed ops listed → (left listed ops.zipIdx).length ≤ fuel → (∀ x ∈ left listed ops.zipIdx, isLoad x.op = true → Pres H0 h ∨ ∃ t, softOf t x.op = true ∧ SoftT P t H0 h) → awd P ops.toArray H0 Q (left listed ops.zipIdx) a h →
      Good P f0 h0 w0 f a h a' w → wpAnyIn (fenceR ro) 0 P .any ops.toArray (Lift P f0 h0 w0 Q) fuel listed a' w) →
      ∀ (listed : Array Bool) (f : Emb) (a : Array Value) (h : AH) (a' : Act) (w : World),
      listed.size = ops.length → Closed ops listed → (left listed ops.zipIdx).length ≤ fuel + 1 → (∀ x ∈ left listed ops.zipIdx, isLoad x.op = true → Pres H0 h ∨ ∃ t, softOf t x.op = true ∧ SoftT P t H0 h) → awd P ops.toArray H0 Q (left listed ops.zipIdx) a h →
      Good P f0 h0 w0 f a h a' w → ∀ i ∈ Region.ready .any ops.toArray listed, wpOpIn (fenceR ro) 0 P ops.toArray (Lift P f0 h0 w0 Q) i (wpAnyIn (fenceR ro) 0 P .any ops.toArray (Lift P f0 h0 w0 Q) fuel (listed.setIfInBounds i true)) a' w := by
    intro fuel ih listed f a h a' w hsz hcl hlen hpres H g i hi
    have hi0 := hi
    rw [mem_ready] at hi0
    obtain ⟨hun, o, ho, hall⟩ := hi0
    have ho' : ops[i]? = some o := by simpa using ho
    have hlt : i < ops.length := (List.getElem?_eq_some_iff.1 ho').1
    have hun' : listed.getD i false = false := by
      have : i < listed.size := by omega
      simp only [Array.getD, this, dite_true] at hun ⊢
      exact hun
    obtain ⟨l1, l2, e1, e2, e3⟩ := left_split (listed := listed) (i := i) (o := o) ops.zipIdx hinj hnd.1 (by rw [List.mem_zipIdx_iff_getElem?]; exact ho') hun' (by omega)
    have hsw : ∀ x ∈ l1, swapOk P ops.toArray x o = true := by
      intro x hx
      obtain ⟨j, hj, hjl⟩ := e3 x hx
      obtain ⟨hji, hm⟩ := mem_takeWhile_lt ops i 0 _ hj (Nat.zero_le _)
      rw [List.mem_zipIdx_iff_getElem?] at hm
      rcases okDraw_swap hok ho' hm hji with hh | hh
      · have := ready_hangs hcl hi hh
        rw [hjl] at this; cases this
      · exact hh
    rw [e1] at H hpres hlen
    have H2 := awd_front l1 hsw H
    rw [awd_cons] at H2
    have hcl2 : Closed ops (listed.setIfInBounds i true) := by
      intro k ok e hk hkl he hb
      by_cases hki : k = i
      · subst hki
        rw [ho'] at hk; cases hk
        exact getD_set_true (hall e he hb)
      · rw [getD_set_ne false (fun e => hki e.symm)] at hkl
        exact getD_set_true (hcl k ok e hk hkl he hb)
    have hlen2 : (left (listed.setIfInBounds i true) ops.zipIdx).length ≤ fuel := by
      rw [e2]; simp at hlen ⊢; omega
    have hsub : ∀ x ∈ l1 ++ l2, x ∈ l1 ++ o :: l2 := fun x hx => (by
      simp only [List.mem_append, List.mem_cons] at hx ⊢
      rcases hx with hx | hx
      · exact .inl hx
      · exact .inr (.inr hx))
    have next : ∀ (f1 : Emb) (b : Array Value) (h1 : AH) (b' : Act) (w1 : World), (∀ x ∈ l1 ++ l2, isLoad x.op = true → Pres H0 h1 ∨ ∃ t, softOf t x.op = true ∧ SoftT P t H0 h1) → awd P ops.toArray H0 Q (l1 ++ l2) b h1 → Good P f0 h0 w0 f1 b h1 b' w1 →
        wpAnyIn (fenceR ro) 0 P .any ops.toArray (Lift P f0 h0 w0 Q) fuel (listed.setIfInBounds i true) b' w1 := fun f1 b h1 b' w1 hp hk g1 =>
      ih _ f1 b h1 b' w1 (by simpa using hsz) hcl2 hlen2 (by rw [e2]; exact hp) (by rw [e2]; exact hk) g1
    unfold wpOpIn
    simp only [ho]
    unfold awd1 at H2
    split at H2
    · rename_i hg
      rw [if_neg (by simp [gval_wanted g.tm hg])]
      exact ⟨fun _ _ => trivial, next f _ h _ w (fun x hx => hpres x (hsub x hx)) H2 (g.step (Step.refl g.sim) (g.tm.aput o.dst undef_rel) (put_defers _ _ _))⟩
    · rename_i hg
      rw [if_pos (gval_wanted g.tm hg)]
      split at H2
      · rename_i hv
        split at H2
        · rename_i v h2 hval
          cases hbs : isBS o.op with
          | true =>
            obtain ⟨dst, op, type, pos, after, guard⟩ := o
            cases op <;> simp only [isBS] at hbs <;> (try (cases hbs; done))
            rename_i t n ps
            change (fbuild P t n (ps.toList.map fun (i, x) => (i, aeval P a x))).map _ = _ at hval
            cases hfb : fbuild P t n (ps.toList.map fun (i, x) => (i, aeval P a x)) with
            | none => rw [hfb] at hval; cases hval
            | some v1 =>
              rw [hfb] at hval
              cases hval
              obtain ⟨hn, c, es, rfl, hb1, hb2⟩ := fbuild_spec hfb
              obtain ⟨c0, hc⟩ := hb2 f h.length _ (prel_map (fun x => aeval_rel g.sim g.tm x) ps.toList)
              have hr : aop P (aeval P a) h ⟨dst, .buildSlice t n ps, type, pos, after, guard⟩ = some (.val (.slice (some ⟨h.length, 0, none⟩) n n) (h ++ [.cells c es true])) := by
                show avalh (abuildSlice P h t n _) = _
                rw [hb1 h]; rfl
              exact lit_wp g _ hr hn hc (fun f1 b' w1 g1 => next f1 _ h b' w1 (fun x hx => hpres x (hsub x hx)) H2 g1) ro
          | false =>
          have hvv : isV P o.op = true := by simpa [isW, hbs] using hv
          rw [sop_of hbs] at hval
          have hval2 : aop P (aeval P a) h o = some (.val v h) := by
            obtain ⟨u, hu⟩ := isV_val hvv hval
            cases hu
            cases hl : isLoad o.op with
            | false => exact vop_pure hvv hl hval
            | true =>
              rcases hpres o (by simp) hl with hp | ⟨t, hs, hp⟩
              · exact vop_load hp hl hval
              · exact vop_soft hp hs hval
          exact oper_wp g o hval2 (fun f1 b' w1 g1 => next f1 _ h b' w1 (fun x hx => hpres x (hsub x hx)) H2 g1) ro
        · exact H2.elim
      · rename_i hv
        have hbs : isBS o.op = false := by
          cases hb : isBS o.op with
          | false => rfl
          | true => simp [isW, hb] at hv
        rw [sop_of hbs] at H2
        have hlv : ∀ h1, (∀ t, isEntry t o.op = true → SoftT P t h h1) → leaves H0 (l1 ++ l2) o h1 → (∀ x ∈ l1 ++ l2, isLoad x.op = true → Pres H0 h1 ∨ ∃ t, softOf t x.op = true ∧ SoftT P t H0 h1) := fun h1 hent hl => by
          intro x hx hlx
          exact .inl hl
        have hent : ∀ (v : Value) (h1 : AH), aop P (aeval P a) h o = some (.val v h1) → ∀ t, isEntry t o.op = true → SoftT P t h h1 := by
          intro v h1 hval t ht
          obtain ⟨dst, op, type, pos, after, guard⟩ := o
          cases op <;> simp only [isEntry] at ht <;> (try (cases ht; done))
          simp only [beq_iff_eq] at ht
          subst ht
          obtain ⟨v2, h2, h3, h4⟩ := avalh_some (show avalh (amEntry P h _ _ _) = _ from hval)
          cases h4
          exact soft_entry g.sim.ok h3
        split at H2
        · rename_i v h1 hval
          exact oper_wp g o hval (fun f1 b' w1 g1 => next f1 _ h1 b' w1 (hlv h1 (hent v h1 hval) H2.1) H2.2 g1) ro
        · rename_i h1 hval
          refine oper_wp g o hval (fun f1 b' w1 g1 => next f1 _ h1 b' w1 (hlv h1 (fun t ht => ?_) H2.1) H2.2 g1) ro
          exfalso
          obtain ⟨dst, op, type, pos, after, guard⟩ := o
          cases op <;> simp only [isEntry] at ht <;> (try (cases ht; done))
          obtain ⟨v2, h2, h3, h4⟩ := avalh_some (show avalh (amEntry P h _ _ _) = _ from hval)
          cases h4
        · rename_i F args hval
          obtain ⟨R, hc, _, hR⟩ := H2
          exact oper_wp g o hval ⟨R, hc, fun v h1 hr f1 b' w1 g1 => next f1 _ h1 b' w1 (fun x hx _ => .inl (hR v h1 hr).1) (hR v h1 hr).2 g1⟩ ro
        · exact H2.elim
    · exact H2.elim
  intro fuel
  induction fuel with
  | zero =>
    intro listed f a h a' w hsz hcl hlen hpres H g
    have : left listed ops.zipIdx = [] := List.length_eq_zero_iff.1 (by omega)
    have hr : Region.ready .any ops.toArray listed = [] := by
      cases hr : Region.ready .any ops.toArray listed with
      | nil => rfl
      | cons i r =>
        have hi : i ∈ Region.ready .any ops.toArray listed := by rw [hr]; simp
        rw [mem_ready] at hi
        obtain ⟨hun, o, ho, _⟩ := hi
        have ho' : ops[i]? = some o := by simpa using ho
        have hlt : i < ops.length := (List.getElem?_eq_some_iff.1 ho').1
        have hun' : listed.getD i false = false := by
          have : i < listed.size := by omega
          simp only [Array.getD, this, dite_true] at hun ⊢
          exact hun
        obtain ⟨l1, l2, e1, _⟩ := left_split (listed := listed) (i := i) (o := o) ops.zipIdx hinj hnd.1 (by rw [List.mem_zipIdx_iff_getElem?]; exact ho') hun' (by omega)
        rw [this] at e1
        simp at e1
    rw [this] at H
    exact ⟨hr, ⟨f, a, h, H, g⟩⟩
  | succ fuel ih =>
    intro listed f a h a' w hsz hcl hlen hpres H g
    refine ⟨fun hr => ?_, go fuel ih listed f a h a' w hsz hcl hlen hpres H g⟩
    rw [done listed hsz hcl hr] at H
    exact ⟨f, a, h, H, g⟩
theorem AWP.drawS {P : Program} {h0 : AH} {id : Nat} {l : List Oper} {Q : Exit → Array Value → AH → Prop} {a : Array Value} {h : AH} (HS : AH) (hS : Pres HS h) (hm : P.follows .mixedOrders = true) (hok : okDraw P l = true) (ha : awd P l.toArray HS Q l a h) :
    AWP P h0 (.region id l.toArray true) Q a h := by
  intro f0 w0 f a' w s0 g ro hrb
  refine wpIn_region_any hm ?_
  have hl : left (Array.replicate l.length false) l.zipIdx = l := by
    have : ∀ (r : List Oper) (k : Nat), left (Array.replicate l.length false) (r.zipIdx k) = r := by
      intro r
      induction r with
      | nil => intro k; rfl
      | cons x r ih =>
        intro k
        rw [List.zipIdx_cons, left_false (by simp only [Array.getD_eq_getD_getElem?, Array.getElem?_replicate]; split <;> rfl), ih]
    exact this l 0
  have := awd_any (H0 := HS) (Q := Q) (f0 := f0) (h0 := h0) (w0 := w0) hok ro l.length (Array.replicate l.length false) f a h a' w.drew (by simp) (fun i o e _ hl _ _ => by
    exfalso
    simp only [Array.getD_eq_getD_getElem?, Array.getElem?_replicate] at hl
    split at hl <;> cases hl) (by rw [hl]; exact Nat.le_refl _) (fun x _ _ => .inl hS) (by rw [hl]; exact ha) (g.step (Step.drew g.sim) g.tm rfl)
  simpa using this
section
variable {P : Program} {ops : Array Oper} {Q : Exit → Array Value → AH → Prop} {rest : List Oper} {a : Array Value} {h H0 h0 : AH} {dst : Option Tmp} {ty : TypeId} {pos : String} {after : Array Edge}
/-- what follows an operation, in a region that draws -/
def dstep (P : Program) (ops : Array Oper) (H0 : AH) (Q : Exit → Array Value → AH → Prop) (rest : List Oper) (o : Oper) (a : Array Value) (h : AH) : Option ARes → Prop
  | some (.val v h1) => leaves H0 rest o h1 ∧ awd P ops H0 Q rest (aput a o.dst v) h1
  | some (.skip h1) => leaves H0 rest o h1 ∧ awd P ops H0 Q rest (aput a o.dst undef) h1
  | some (.enter F args) => ∃ R, ACalls P F args h R ∧ Calm P ops F args h R ∧ ∀ v h1, R v h1 → Pres H0 h1 ∧ awd P ops H0 Q rest (aput a o.dst v) h1
  | _ => False
def dvstep (P : Program) (ops : Array Oper) (H0 : AH) (Q : Exit → Array Value → AH → Prop) (rest : List Oper) (dst : Option Tmp) (a : Array Value) (h : AH) : Option ARes → Prop
  | some (.val v _) => awd P ops H0 Q rest (aput a dst v) h
  | _ => False
def dgate (P : Program) (ops : Array Oper) (H0 : AH) (Q : Exit → Array Value → AH → Prop) (rest : List Oper) (o : Oper) (a : Array Value) (h : AH) : Option Bool → Prop
  | some false => awd P ops H0 Q rest (aput a o.dst undef) h
  | some true => bif isW P o.op then dvstep P ops H0 Q rest o.dst a h (sop P (aeval P a) H0 o) else dstep P ops H0 Q rest o a h (sop P (aeval P a) h o)
  | none => False
theorem awd_nil : awd P ops H0 Q [] a h = Q .normal a h := rfl
theorem awd_gate {o : Oper} : awd P ops H0 Q (o :: rest) a h = dgate P ops H0 Q rest o a h (gval ops a o) := by
  simp only [awd]
  unfold dgate dvstep dstep
  cases gval ops a o with
  | none => rfl
  | some b =>
    cases b with
    | false => rfl
    | true =>
      simp only []
      cases hv : isW P o.op <;> simp only [cond_true, cond_false, if_true, if_false, Bool.false_eq_true] <;> rfl
theorem dgate_true {o : Oper} : dgate P ops H0 Q rest o a h (some true) = bif isW P o.op then dvstep P ops H0 Q rest o.dst a h (sop P (aeval P a) H0 o) else dstep P ops H0 Q rest o a h (sop P (aeval P a) h o) := rfl
theorem dvstep_val {v : Value} {h1 : AH} : dvstep P ops H0 Q rest dst a h (some (.val v h1)) = awd P ops H0 Q rest (aput a dst v) h := rfl
theorem dstep_val {o : Oper} {v : Value} {h1 : AH} : dstep P ops H0 Q rest o a h (some (.val v h1)) = (leaves H0 rest o h1 ∧ awd P ops H0 Q rest (aput a o.dst v) h1) := rfl
theorem dstep_skip {o : Oper} {h1 : AH} : dstep P ops H0 Q rest o a h (some (.skip h1)) = (leaves H0 rest o h1 ∧ awd P ops H0 Q rest (aput a o.dst undef) h1) := rfl
theorem leaves_pre {l l' : AH} {o : Oper} (hp : Pre l l') : leaves (h ++ l) rest o (h ++ l') = True := eq_true (pres_pre hp)
end
attribute [go_sem] isW isBS
attribute [go_sem ↓] awd_nil awd_gate dgate_true dvstep_val dstep_val dstep_skip
attribute [go_sem] leaves_pre
end Go.Am.S

set_option linter.unusedVariables false
set_option linter.unusedSimpArgs false
/- Regions that draw their order: maps that are made in any order. -/
namespace Go.Am.D
open Go Go.Am Go.Proofs
/-- an operation that makes an empty map -/
def isMk : Op → Bool
  | .makeMap _ none => true
  | _ => false
/-- the map that it makes -/
def mkOb (P : Program) : Op → Option AObj
  | .makeMap t none => match P.underlying t with
    | some (.map k _) => if keyTy P k then some (.map k #[] 0) else none
    | _ => none
  | _ => none
/-- nothing lies there -/
def Fresh (h : AH) (b : Nat) : Prop := ∀ o, h[b]? = some o → o.alive = false
/-- a new block, wherever -/
def hset (h : AH) (b : Nat) (o : AObj) : AH := if b < h.length then h.set b o else h ++ (List.replicate (b - h.length) .dead ++ [o])
theorem hset_get (h : AH) (b : Nat) (o : AObj) (i : Nat) : (hset h b o)[i]? = if i = b then some o else if i < h.length then h[i]? else if i < b then some .dead else none := by
  unfold hset
  by_cases hb : b < h.length
  · rw [if_pos hb]
    by_cases hi : i = b
    · subst hi; rw [if_pos rfl, List.getElem?_set_self hb]
    · rw [if_neg hi, List.getElem?_set_ne (fun e => hi e.symm)]
      by_cases hl : i < h.length
      · rw [if_pos hl]
      · rw [if_neg hl, if_neg (by omega), List.getElem?_eq_none (by omega)]
  · rw [if_neg hb]
    by_cases hl : i < h.length
    · rw [List.getElem?_append_left hl, if_neg (by omega), if_pos hl]
    · rw [List.getElem?_append_right (by omega)]
      by_cases hi : i = b
      · subst hi; rw [if_pos rfl, List.getElem?_append_right (by simp)]; simp
      · rw [if_neg hi, if_neg hl]
        by_cases hlt : i < b
        · rw [if_pos hlt, List.getElem?_append_left (by simp; omega), List.getElem?_replicate, if_pos (by omega)]
        · rw [if_neg hlt, List.getElem?_eq_none (by simp; omega)]
theorem hset_comm {h : AH} {b1 b2 : Nat} {o1 o2 : AObj} (hne : b1 ≠ b2) : hset (hset h b1 o1) b2 o2 = hset (hset h b2 o2) b1 o1 := by
  have hl : ∀ (h : AH) (b : Nat) (o : AObj), (hset h b o).length = max h.length (b + 1) := fun h b o => by
    unfold hset; split <;> simp <;> omega
  apply List.ext_getElem?
  intro i
  simp only [hset_get, hl]
  by_cases e1 : i = b1
  · subst e1
    rw [if_neg hne, if_pos rfl, if_pos rfl, if_pos (by omega)]
  · by_cases e2 : i = b2
    · subst e2
      rw [if_pos rfl, if_neg e1, if_pos (by omega), if_pos rfl]
    · rw [if_neg e2, if_neg e1, if_neg e1, if_neg e2]
      by_cases hi : i < h.length
      · simp only [if_pos hi, if_pos (show i < max h.length (b1 + 1) by omega), if_pos (show i < max h.length (b2 + 1) by omega)]
      · simp only [if_neg hi]
        (repeat' split) <;> first | rfl | omega
theorem hset_end {h : AH} {o : AObj} : hset h h.length o = h ++ [o] := by
  unfold hset; rw [if_neg (by omega), Nat.sub_self]; rfl
theorem fresh_end {h : AH} : Fresh h h.length := fun o ho => by
  have := (List.getElem?_eq_some_iff.1 ho).1; omega
theorem fresh_back {h : AH} {b1 b2 : Nat} {o2 : AObj} (h2 : Fresh h b2) (ha : o2.alive = true) (h1 : Fresh (hset h b2 o2) b1) : b1 ≠ b2 ∧ Fresh h b1 := by
  have hne : b1 ≠ b2 := fun e => by
    subst e
    have := h1 o2 (by rw [hset_get, if_pos rfl])
    rw [ha] at this; cases this
  refine ⟨hne, fun o ho => h1 o ?_⟩
  rw [hset_get, if_neg hne, if_pos (List.getElem?_eq_some_iff.1 ho).1]; exact ho
theorem fresh_fore {h : AH} {b1 b2 : Nat} {o1 : AObj} (h2 : Fresh h b2) (hne : b2 ≠ b1) : Fresh (hset h b1 o1) b2 := fun o ho => by
  rw [hset_get, if_neg hne] at ho
  split at ho
  · exact h2 o ho
  · split at ho
    · cases ho; rfl
    · cases ho
theorem mkOb_alive {P : Program} {op : Op} {o : AObj} (h : mkOb P op = some o) : o.alive = true ∧ isMk op = true ∧ isV P op = false := by
  unfold mkOb at h
  split at h
  · split at h
    · split at h
      · cases h; exact ⟨rfl, rfl, rfl⟩
      · cases h
    · cases h
  · cases h
/-! ### a region, in whatever order -/
/-- operations in the order of the text, such that any order that their edges allow comes to the same -/
def awd (P : Program) (ops : Array Oper) (H0 : AH) (Q : Exit → Array Value → AH → Prop) : List Oper → Array Value → AH → Prop
  | [], a, h => Q .normal a h
  | o :: rest, a, h =>
    match gval ops a o with
    | some false => awd P ops H0 Q rest (aput a o.dst undef) h
    | some true =>
      if isV P o.op then (match aop P (aeval P a) H0 o with
        | some (.val v _) => awd P ops H0 Q rest (aput a o.dst v) h
        | _ => False)
      else if isMk o.op then (match mkOb P o.op with
        | some ob => ∀ b, Fresh h b → awd P ops H0 Q rest (aput a o.dst (.map (some b))) (hset h b ob)
        | none => False)
      else match aop P (aeval P a) h o with
      | some (.val v h1) => leaves H0 rest o h1 ∧ awd P ops H0 Q rest (aput a o.dst v) h1
      | some (.skip h1) => leaves H0 rest o h1 ∧ awd P ops H0 Q rest (aput a o.dst undef) h1
      | some (.enter F args) => ∃ R, ACalls P F args h R ∧ Calm P ops F args h R ∧ ∀ v h1, R v h1 → Pres H0 h1 ∧ awd P ops H0 Q rest (aput a o.dst v) h1
      | _ => False
    | none => False
/-- may these two (x ahead of i in the text) be carried out in either order? -/
def swapOk (P : Program) (ops : Array Oper) (x i : Oper) : Bool :=
  x.apart ops i && (((isV P x.op || isV P i.op) && !(isLoad x.op && isWriter i.op && !softPair x.op i.op) && !(isWriter x.op && isLoad i.op && !softPair i.op x.op)) ||
    (isMk x.op && isMk i.op))
theorem aop_at {P : Program} {ops : Array Oper} {a : Array Value} {h : AH} {x i : Oper} (hap : x.apart ops i = true) (v : Value) : aop P (aeval P (aput a x.dst v)) h i = aop P (aeval P a) h i :=
  aop_aput (ops := ops) i x.dst v (Oper.apart_spec hap).1
theorem aop_at' {P : Program} {ops : Array Oper} {a : Array Value} {h : AH} {x i : Oper} (hap : x.apart ops i = true) (v : Value) : aop P (aeval P (aput a i.dst v)) h x = aop P (aeval P a) h x :=
  aop_aput (ops := ops) x i.dst v (Oper.apart_spec hap).2.2
theorem gval_at {ops : Array Oper} {a : Array Value} {x i : Oper} (hap : x.apart ops i = true) (v : Value) : gval ops (aput a x.dst v) i = gval ops a i := gval_aput i x.dst v (Oper.apart_spec hap).1
theorem gval_at' {ops : Array Oper} {a : Array Value} {x i : Oper} (hap : x.apart ops i = true) (v : Value) : gval ops (aput a i.dst v) x = gval ops a x := gval_aput x i.dst v (Oper.apart_spec hap).2.2
theorem aput_at {ops : Array Oper} {a : Array Value} {x i : Oper} (hap : x.apart ops i = true) (v u : Value) : aput (aput a x.dst v) i.dst u = aput (aput a i.dst u) x.dst v := aput_comm a v u (Oper.apart_spec hap).2.1
/-- what one operation does to the frame and the heap, in such a region; 'K' for what follows -/
def awd1 (P : Program) (ops : Array Oper) (H0 : AH) (rest : List Oper) (K : Array Value → AH → Prop) (o : Oper) (a : Array Value) (h : AH) : Prop :=
    match gval ops a o with
    | some false => K (aput a o.dst undef) h
    | some true =>
      if isV P o.op then (match aop P (aeval P a) H0 o with
        | some (.val v _) => K (aput a o.dst v) h
        | _ => False)
      else if isMk o.op then (match mkOb P o.op with
        | some ob => ∀ b, Fresh h b → K (aput a o.dst (.map (some b))) (hset h b ob)
        | none => False)
      else match aop P (aeval P a) h o with
      | some (.val v h1) => leaves H0 rest o h1 ∧ K (aput a o.dst v) h1
      | some (.skip h1) => leaves H0 rest o h1 ∧ K (aput a o.dst undef) h1
      | some (.enter F args) => ∃ R, ACalls P F args h R ∧ Calm P ops F args h R ∧ ∀ v h1, R v h1 → Pres H0 h1 ∧ K (aput a o.dst v) h1
      | _ => False
    | none => False
theorem awd_cons {P : Program} {ops : Array Oper} {H0 : AH} {Q : Exit → Array Value → AH → Prop} {o : Oper} {rest : List Oper} {a : Array Value} {h : AH} : awd P ops H0 Q (o :: rest) a h = awd1 P ops H0 rest (awd P ops H0 Q rest) o a h := rfl
theorem awd1_map {P : Program} {ops : Array Oper} {H0 : AH} {rest rest' : List Oper} {K K' : Array Value → AH → Prop} {o : Oper} {a a' : Array Value} {h : AH} (hg : gval ops a' o = gval ops a o) (ha : ∀ h, aop P (aeval P a') h o = aop P (aeval P a) h o)
    (hl : ∀ h1, leaves H0 rest o h1 → leaves H0 rest' o h1) (hk : ∀ v h1, K (aput a o.dst v) h1 → K' (aput a' o.dst v) h1) (H : awd1 P ops H0 rest K o a h) : awd1 P ops H0 rest' K' o a' h := by
  unfold awd1 at H ⊢
  rw [hg, ha H0, ha h]
  split at H
  · exact hk _ _ H
  · split at H
    · rename_i hv
      simp only [hv, if_true]
      split at H
      · exact hk _ _ H
      · exact H.elim
    · rename_i hv
      simp only [hv, Bool.false_eq_true, if_false]
      split at H
      · rename_i hmk
        simp only [hmk, if_true]
        split at H
        · exact fun b hb => hk _ _ (H b hb)
        · exact H.elim
      rename_i hmk
      simp only [hmk, Bool.false_eq_true, if_false]
      split at H
      · exact ⟨hl _ H.1, hk _ _ H.2⟩
      · exact ⟨hl _ H.1, hk _ _ H.2⟩
      · obtain ⟨R, hc, hcm, hR⟩ := H
        exact ⟨R, hc, hcm, fun v h1 hr => ⟨(hR v h1 hr).1, hk _ _ (hR v h1 hr).2⟩⟩
      · exact H.elim
  · exact H.elim
theorem awd1_some {P : Program} {ops : Array Oper} {H0 : AH} {rest : List Oper} {K : Array Value → AH → Prop} {o : Oper} {a : Array Value} {h : AH} (H : awd1 P ops H0 rest K o a h) : ∃ v h1, K (aput a o.dst v) h1 := by
  unfold awd1 at H
  split at H
  · exact ⟨_, _, H⟩
  · split at H
    · split at H
      · exact ⟨_, _, H⟩
      · exact H.elim
    · split at H
      · split at H
        · exact ⟨_, _, H h.length fresh_end⟩
        · exact H.elim
      split at H
      · exact ⟨_, _, H.2⟩
      · exact ⟨_, _, H.2⟩
      · obtain ⟨R, hc, _, hR⟩ := H
        obtain ⟨v, h1, hr⟩ := hc.inh
        exact ⟨v, h1, (hR v h1 hr).2⟩
      · exact H.elim
  · exact H.elim
theorem awd1_v {P : Program} {ops : Array Oper} {H0 : AH} {rest : List Oper} {K : Array Value → AH → Prop} {o : Oper} {a : Array Value} {h : AH} (hv : isV P o.op = true) :
    awd1 P ops H0 rest K o a h ↔ (gval ops a o = some false ∧ K (aput a o.dst undef) h) ∨ (gval ops a o = some true ∧ ∃ u h2, aop P (aeval P a) H0 o = some (.val u h2) ∧ K (aput a o.dst u) h) := by
  unfold awd1
  constructor
  · intro H
    split at H
    · rename_i hg; exact .inl ⟨hg, H⟩
    · rename_i hg
      rw [if_pos hv] at H
      split at H
      · rename_i u h2 hu; exact .inr ⟨hg, u, h2, hu, H⟩
      · exact H.elim
    · exact H.elim
  · rintro (⟨hg, hk⟩ | ⟨hg, u, h2, hu, hk⟩)
    · rw [hg]; exact hk
    · rw [hg]
      simp only [hv, if_true, hu]
      exact hk
theorem swap_v_any {P : Program} {ops : Array Oper} {H0 : AH} {K : Array Value → AH → Prop} {x i : Oper} {l : List Oper} {a : Array Value} {h : AH} (hap : x.apart ops i = true) (hi : isV P i.op = true) (hw : (isWriter x.op && isLoad i.op && !softPair i.op x.op) = false)
    (H : awd1 P ops H0 (i :: l) (awd1 P ops H0 l K i) x a h) : awd1 P ops H0 (x :: l) (awd1 P ops H0 l K x) i a h := by
  have hlv : ∀ h1, leaves H0 (i :: l) x h1 → leaves H0 l x h1 := fun h1 hl => hl.imp id fun ⟨h2, h3⟩ => ⟨h2, fun y hy => h3 y (List.mem_cons_of_mem _ hy)⟩
  rw [awd1_v hi]
  obtain ⟨v0, h10, hw0⟩ := awd1_some H
  rw [awd1_v hi, gval_at hap, aop_at hap] at hw0
  rcases hw0 with ⟨hg, _⟩ | ⟨hg, u, h2, hu, _⟩
  · refine .inl ⟨hg, awd1_map (gval_at' hap _) (fun _ => aop_at' hap _) hlv (fun v h1 hk => ?_) H⟩
    rw [awd1_v hi, gval_at hap, aop_at hap] at hk
    rcases hk with ⟨_, hk⟩ | ⟨hg2, _⟩
    · rw [← aput_at hap]; exact hk
    · rw [hg] at hg2; cases hg2
  · refine .inr ⟨hg, u, h2, hu, awd1_map (gval_at' hap _) (fun _ => aop_at' hap _) hlv (fun v h1 hk => ?_) H⟩
    rw [awd1_v hi, gval_at hap, aop_at hap] at hk
    rcases hk with ⟨hg2, _⟩ | ⟨_, u2, h3, hu2, hk⟩
    · rw [hg] at hg2; cases hg2
    · rw [hu] at hu2; cases hu2; rw [← aput_at hap]; exact hk
theorem swap_any_v {P : Program} {ops : Array Oper} {H0 : AH} {K : Array Value → AH → Prop} {x i : Oper} {l : List Oper} {a : Array Value} {h : AH} (hap : x.apart ops i = true) (hx : isV P x.op = true) (hw : (isLoad x.op && isWriter i.op && !softPair x.op i.op) = false)
    (H : awd1 P ops H0 (i :: l) (awd1 P ops H0 l K i) x a h) : awd1 P ops H0 (x :: l) (awd1 P ops H0 l K x) i a h := by
  have hlv : ∀ h1, leaves H0 l i h1 → leaves H0 (x :: l) i h1 := fun h1 hl => hl.imp id fun ⟨h2, h3⟩ => ⟨h2, fun y hy => by
    rcases List.mem_cons.1 hy with rfl | hy
    · intro hl
      simpa [h2, hl] using hw
    · exact h3 y hy⟩
  rw [awd1_v hx] at H
  rcases H with ⟨hg, H2⟩ | ⟨hg, u, h2, hu, H2⟩
  · refine awd1_map (gval_at hap _).symm (fun _ => (aop_at hap _).symm) hlv (fun v h1 hk => ?_) H2
    rw [awd1_v hx, gval_at' hap, aop_at' hap]
    rw [aput_at hap] at hk
    exact .inl ⟨hg, hk⟩
  · refine awd1_map (gval_at hap _).symm (fun _ => (aop_at hap _).symm) hlv (fun v h1 hk => ?_) H2
    rw [awd1_v hx, gval_at' hap, aop_at' hap]
    rw [aput_at hap] at hk
    exact .inr ⟨hg, u, h2, hu, hk⟩
theorem swap_mk {P : Program} {ops : Array Oper} {H0 : AH} {K : Array Value → AH → Prop} {x i : Oper} {l : List Oper} {a : Array Value} {h : AH} (hap : x.apart ops i = true) (hx : isMk x.op = true) (hi : isMk i.op = true)
    (H : awd1 P ops H0 (i :: l) (awd1 P ops H0 l K i) x a h) : awd1 P ops H0 (x :: l) (awd1 P ops H0 l K x) i a h := by
  have key : ∀ (o : Oper), isMk o.op = true → isV P o.op = false := fun o ho => by
    unfold isMk at ho
    split at ho
    · rename_i heq; rw [heq]; rfl
    · cases ho
  have unf : ∀ {rest : List Oper} {K : Array Value → AH → Prop} {o : Oper} {a : Array Value} {h : AH}, isMk o.op = true → (awd1 P ops H0 rest K o a h ↔ (gval ops a o = some false ∧ K (aput a o.dst undef) h) ∨ (gval ops a o = some true ∧ ∃ ob, mkOb P o.op = some ob ∧ ∀ b, Fresh h b → K (aput a o.dst (.map (some b))) (hset h b ob))) := by
    intro rest K o a h ho
    have hw := key o ho
    unfold awd1
    constructor
    · intro H
      split at H
      · rename_i hg; exact .inl ⟨hg, H⟩
      · rename_i hg
        rw [hw] at H
        simp only [Bool.false_eq_true, if_false, ho, if_true] at H
        split at H
        · rename_i ob hob; exact .inr ⟨hg, ob, hob, H⟩
        · exact H.elim
      · exact H.elim
    · rintro (⟨hg, hk⟩ | ⟨hg, ob, hob, hk⟩)
      · rw [hg]; exact hk
      · rw [hg]
        simp only [hw, Bool.false_eq_true, if_false, ho, if_true, hob]
        exact hk
  rw [unf hx] at H
  rw [unf hi]
  rcases H with ⟨hg, H2⟩ | ⟨hg, ob, hob, H2⟩
  · rw [unf hi, gval_at hap] at H2
    rcases H2 with ⟨hg2, hk⟩ | ⟨hg2, ob2, hob2, hk⟩
    · exact .inl ⟨hg2, (unf hx).2 (.inl ⟨by rw [gval_at' hap]; exact hg, by rw [← aput_at hap]; exact hk⟩)⟩
    · exact .inr ⟨hg2, ob2, hob2, fun b hb => (unf hx).2 (.inl ⟨by rw [gval_at' hap]; exact hg, by rw [← aput_at hap]; exact hk b hb⟩)⟩
  · have H0' := H2 h.length fresh_end
    rw [unf hi, gval_at hap] at H0'
    rcases H0' with ⟨hg2, _⟩ | ⟨hg2, ob2, hob2, _⟩
    · refine .inl ⟨hg2, (unf hx).2 (.inr ⟨by rw [gval_at' hap]; exact hg, ob, hob, fun b hb => ?_⟩)⟩
      have := H2 b hb
      rw [unf hi, gval_at hap] at this
      rcases this with ⟨_, hk⟩ | ⟨hg3, _⟩
      · rw [← aput_at hap]; exact hk
      · rw [hg2] at hg3; cases hg3
    · refine .inr ⟨hg2, ob2, hob2, fun b2 hb2 => (unf hx).2 (.inr ⟨by rw [gval_at' hap]; exact hg, ob, hob, fun b1 hb1 => ?_⟩)⟩
      obtain ⟨hne, hf1⟩ := fresh_back hb2 (mkOb_alive hob2).1 hb1
      have := H2 b1 hf1
      rw [unf hi, gval_at hap] at this
      rcases this with ⟨hg3, _⟩ | ⟨_, ob3, hob3, hk⟩
      · rw [hg2] at hg3; cases hg3
      · rw [hob2] at hob3; cases hob3
        have := hk b2 (fresh_fore hb2 (fun e => hne e.symm))
        rw [aput_at hap, hset_comm hne] at this
        exact this
theorem awd_front {P : Program} {ops : Array Oper} {H0 : AH} {Q : Exit → Array Value → AH → Prop} {i : Oper} {l2 : List Oper} (l1 : List Oper) : ∀ {a : Array Value} {h : AH}, (∀ x ∈ l1, swapOk P ops x i = true) →
    awd P ops H0 Q (l1 ++ i :: l2) a h → awd P ops H0 Q (i :: (l1 ++ l2)) a h := by
  induction l1 with
  | nil => intro a h _ H; exact H
  | cons x r ih =>
    intro a h hs H
    have hx := hs x (by simp)
    simp only [swapOk, Bool.and_eq_true, Bool.not_eq_true', Bool.or_eq_true] at hx
    obtain ⟨h1, hx⟩ := hx
    have H2 : awd1 P ops H0 (i :: (r ++ l2)) (awd1 P ops H0 (r ++ l2) (awd P ops H0 Q (r ++ l2)) i) x a h := by
      have H3 : awd1 P ops H0 (r ++ i :: l2) (awd P ops H0 Q (r ++ i :: l2)) x a h := H
      refine awd1_map rfl (fun _ => rfl) (fun h1 hl => hl.imp id fun ⟨h2, h3⟩ => ⟨h2, fun y hy => h3 y (by
        simp only [List.mem_cons, List.mem_append] at hy ⊢
        rcases hy with h | h | h
        · exact .inr (.inl h)
        · exact .inl h
        · exact .inr (.inr h))⟩) (fun v h1 hk => ?_) H3
      exact ih (fun y hy => hs y (List.mem_cons_of_mem _ hy)) hk
    show awd1 P ops H0 (x :: (r ++ l2)) (awd1 P ops H0 (r ++ l2) (awd P ops H0 Q (r ++ l2)) x) i a h
    rcases hx with ⟨⟨h2, h3⟩, h4⟩ | ⟨h2, h3⟩
    · rcases h2 with h2 | h2
      · exact swap_any_v h1 h2 h3 H2
      · exact swap_v_any h1 h2 h4 H2
    · exact swap_mk h1 h2 h3 H2
/-! ### which orders there are -/
/-- of each operation: those that its edges put ahead of it, axs bits -/
def deps (ops : List Oper) : List Nat :=
  ops.foldl (fun tbl o => tbl ++ [o.after.toList.foldl (fun s e => if Region.binds .any e then s ||| 2 ^ e.on ||| tbl.getD e.on 0 else s) 0]) []
/-- i hangs on x -/
inductive Hangs (ops : List Oper) : Nat → Nat → Prop
  | one (i x : Nat) (o : Oper) (e : Edge) (ho : ops[i]? = some o) (he : e ∈ o.after) (hb : Region.binds .any e = true) (hx : e.on = x) : Hangs ops i x
  | more (i j x : Nat) (o : Oper) (e : Edge) (ho : ops[i]? = some o) (he : e ∈ o.after) (hb : Region.binds .any e = true) (hj : e.on = j) (h : Hangs ops j x) : Hangs ops i x
theorem Hangs.append {ops l : List Oper} {i x : Nat} (h : Hangs ops i x) : Hangs (ops ++ l) i x := by
  induction h with
  | one i x o e ho he hb hx => exact .one i x o e (by rw [List.getElem?_append_left (List.getElem?_eq_some_iff.1 ho).1]; exact ho) he hb hx
  | more i j x o e ho he hb hj _ ih => exact .more i j x o e (by rw [List.getElem?_append_left (List.getElem?_eq_some_iff.1 ho).1]; exact ho) he hb hj ih
theorem deps_step (tbl : List Nat) (es : List Edge) : ∀ (s0 : Nat) (x : Nat), (es.foldl (fun s e => if Region.binds .any e then s ||| 2 ^ e.on ||| tbl.getD e.on 0 else s) s0).testBit x = true →
    s0.testBit x = true ∨ ∃ e ∈ es, Region.binds .any e = true ∧ (e.on = x ∨ (tbl.getD e.on 0).testBit x = true) := by
  induction es with
  | nil => intro s0 x h; exact .inl h
  | cons e r ih =>
    intro s0 x h
    simp only [List.foldl_cons] at h
    rcases ih _ _ h with h1 | ⟨e', he', h2⟩
    · split at h1
      · rename_i hb
        simp only [Nat.testBit_or, Bool.or_eq_true] at h1
        rcases h1 with (h1 | h1) | h1
        · exact .inl h1
        · rw [Nat.testBit_two_pow] at h1
          exact .inr ⟨e, by simp, hb, .inl (by simpa using h1)⟩
        · exact .inr ⟨e, by simp, hb, .inr h1⟩
      · exact .inl h1
    · exact .inr ⟨e', List.mem_cons_of_mem _ he', h2⟩
theorem deps_spec (ops : List Oper) : (deps ops).length = ops.length ∧ ∀ i x, ((deps ops).getD i 0).testBit x = true → Hangs ops i x := by
  suffices H : ∀ (l pre : List Oper) (tbl : List Nat), tbl.length = pre.length → (∀ i x, (tbl.getD i 0).testBit x = true → Hangs pre i x) →
      (l.foldl (fun tbl (o : Oper) => tbl ++ [o.after.toList.foldl (fun s e => if Region.binds .any e then s ||| 2 ^ e.on ||| tbl.getD e.on 0 else s) 0]) tbl).length = (pre ++ l).length ∧
      ∀ i x, ((l.foldl (fun tbl (o : Oper) => tbl ++ [o.after.toList.foldl (fun s e => if Region.binds .any e then s ||| 2 ^ e.on ||| tbl.getD e.on 0 else s) 0]) tbl).getD i 0).testBit x = true → Hangs (pre ++ l) i x by
    have := H ops [] [] rfl (fun i x h => by simp at h)
    simp only [List.nil_append] at this
    exact this
  intro l
  induction l with
  | nil => intro pre tbl h1 h2; simpa using ⟨h1, h2⟩
  | cons o r ih =>
    intro pre tbl h1 h2
    simp only [List.foldl_cons]
    have := ih (pre ++ [o]) (tbl ++ [o.after.toList.foldl (fun s e => if Region.binds .any e then s ||| 2 ^ e.on ||| tbl.getD e.on 0 else s) 0]) (by simp [h1]) (fun i x h => by
      by_cases hi : i < tbl.length
      · rw [List.getD_eq_getElem?_getD, List.getElem?_append_left hi, ← List.getD_eq_getElem?_getD] at h
        exact (h2 i x h).append
      · by_cases he : i = tbl.length
        · subst he
          have e1 : (tbl ++ [o.after.toList.foldl (fun s e => if Region.binds .any e then s ||| 2 ^ e.on ||| tbl.getD e.on 0 else s) 0]).getD tbl.length 0 = o.after.toList.foldl (fun s e => if Region.binds .any e then s ||| 2 ^ e.on ||| tbl.getD e.on 0 else s) 0 := by
            simp [List.getD]
          rw [e1] at h
          have ho : (pre ++ [o])[tbl.length]? = some o := by rw [h1]; simp
          rcases deps_step tbl _ _ _ h with h3 | ⟨e, he, hb, h3⟩
          · simp at h3
          · rcases h3 with h3 | h3
            · exact .one _ _ o e ho (by simpa using he) hb h3
            · exact .more _ e.on _ o e ho (by simpa using he) hb rfl (h2 _ _ h3).append
        · have e2 : (tbl ++ [o.after.toList.foldl (fun s e => if Region.binds .any e then s ||| 2 ^ e.on ||| tbl.getD e.on 0 else s) 0])[i]? = none := List.getElem?_eq_none (by simp only [List.length_append, List.length_singleton]; omega)
          rw [List.getD_eq_getElem?_getD, e2] at h
          simp at h)
    simpa only [List.append_assoc, List.singleton_append] using this
/-- May the region be read in the order of its text, whatever order is drawn? -/
def okDraw (P : Program) (ops : List Oper) : Bool :=
  let d := deps ops
  (ops.zipIdx.all fun (o, i) => o.after.all fun e => !Region.binds .any e || decide (e.on < i)) &&
  ops.zipIdx.all fun (o, i) => ops.zipIdx.all fun (x, j) => !decide (j < i) || (d.getD i 0).testBit j || swapOk P ops.toArray x o
theorem okDraw_back {P : Program} {ops : List Oper} (h : okDraw P ops = true) {i : Nat} {o : Oper} (ho : ops[i]? = some o) {e : Edge} (he : e ∈ o.after) (hb : Region.binds .any e = true) : e.on < i := by
  simp only [okDraw, Bool.and_eq_true, List.all_eq_true] at h
  have := h.1 (o, i) (by rw [List.mem_zipIdx_iff_getElem?]; exact ho)
  simp only [Array.all_eq_true_iff_forall_mem, Bool.or_eq_true, Bool.not_eq_true', decide_eq_true_eq] at this
  rcases this e he with h1 | h1
  · rw [hb] at h1; cases h1
  · exact h1
theorem okDraw_swap {P : Program} {ops : List Oper} (h : okDraw P ops = true) {i j : Nat} {o x : Oper} (ho : ops[i]? = some o) (hx : ops[j]? = some x) (hlt : j < i) : Hangs ops i j ∨ swapOk P ops.toArray x o = true := by
  simp only [okDraw, Bool.and_eq_true, List.all_eq_true] at h
  have := h.2 (o, i) (by rw [List.mem_zipIdx_iff_getElem?]; exact ho) (x, j) (by rw [List.mem_zipIdx_iff_getElem?]; exact hx)
  simp only [Bool.or_eq_true, Bool.not_eq_true', decide_eq_false_iff_not] at this
  rcases this with (h1 | h1) | h1
  · exact absurd hlt h1
  · exact .inl ((deps_spec ops).2 i j h1)
  · exact .inr h1
/-- listed numbers are closed under what they hang on -/
def Closed (ops : List Oper) (listed : Array Bool) : Prop := ∀ i o e, ops[i]? = some o → listed.getD i false = true → e ∈ o.after → Region.binds .any e = true → listed.getD e.on false = true
theorem Closed.hangs {ops : List Oper} {listed : Array Bool} (hc : Closed ops listed) {i x : Nat} (h : Hangs ops i x) : listed.getD i false = true → listed.getD x false = true := by
  induction h with
  | one i x o e ho he hb hx => intro hl; rw [← hx]; exact hc i o e ho hl he hb
  | more i j x o e ho he hb hj _ ih => intro hl; exact ih (by rw [← hj]; exact hc i o e ho hl he hb)
theorem ready_hangs {ops : List Oper} {listed : Array Bool} (hc : Closed ops listed) {i x : Nat} (hr : i ∈ Region.ready .any ops.toArray listed) (h : Hangs ops i x) : listed.getD x false = true := by
  rw [mem_ready] at hr
  obtain ⟨_, o, ho, hall⟩ := hr
  cases h with
  | one _ _ o' e ho' he hb hx =>
    rw [List.getElem?_toArray] at ho
    rw [ho] at ho'; cases ho'
    rw [← hx]; exact hall e he hb
  | more _ j _ o' e ho' he hb hj h2 =>
    rw [List.getElem?_toArray] at ho
    rw [ho] at ho'; cases ho'
    exact hc.hangs h2 (by rw [← hj]; exact hall e he hb)
/-- the operations that are still to come, in the order of the text -/
def left (listed : Array Bool) (l : List (Oper × Nat)) : List Oper := (l.filter fun p => !listed.getD p.2 false).map (·.1)
theorem left_true {listed : Array Bool} {x : Oper} {j : Nat} {r : List (Oper × Nat)} (h : listed.getD j false = true) : left listed ((x, j) :: r) = left listed r := by
  unfold left
  rw [List.filter_cons]
  simp only [h, Bool.not_true, Bool.false_eq_true, if_false]
theorem left_false {listed : Array Bool} {x : Oper} {j : Nat} {r : List (Oper × Nat)} (h : listed.getD j false = false) : left listed ((x, j) :: r) = x :: left listed r := by
  unfold left
  rw [List.filter_cons]
  simp only [h, Bool.not_false, if_true, List.map_cons]
theorem left_split {listed : Array Bool} {i : Nat} {o : Oper} (l : List (Oper × Nat)) (hn : ∀ p ∈ l, ∀ q ∈ l, p.2 = q.2 → p = q) (hnd : (l.map (·.2)).Nodup) (hm : (o, i) ∈ l) (hi : listed.getD i false = false) (hs : i < listed.size) :
    ∃ l1 l2, left listed l = l1 ++ o :: l2 ∧ left (listed.setIfInBounds i true) l = l1 ++ l2 ∧ ∀ x ∈ l1, ∃ j, (x, j) ∈ l.takeWhile (fun p => p.2 != i) ∧ listed.getD j false = false := by
  induction l with
  | nil => simp at hm
  | cons p r ih =>
    simp only [List.map_cons, List.nodup_cons] at hnd
    obtain ⟨x, j⟩ := p
    have hset : ∀ k, k ≠ i → (listed.setIfInBounds i true).getD k false = listed.getD k false := fun k hk => getD_set_ne false (fun e => hk e.symm)
    have hself : (listed.setIfInBounds i true).getD i false = true := by simp [hs]
    by_cases hj : j = i
    · subst hj
      have hxo : x = o := by
        have := hn (x, j) (by simp) (o, j) hm rfl
        cases this; rfl
      subst hxo
      refine ⟨[], left listed r, left_false hi, ?_, by simp⟩
      have : ∀ q ∈ r, q.2 ≠ j := fun q hq e => hnd.1 (List.mem_map.2 ⟨q, hq, e⟩)
      rw [left_true hself, List.nil_append]
      unfold left
      congr 1
      apply List.filter_congr
      intro q hq
      rw [hset q.2 (this q hq)]
    · have hm' : (o, i) ∈ r := by
        rcases List.mem_cons.1 hm with h | h
        · cases h; exact absurd rfl hj
        · exact h
      obtain ⟨l1, l2, h1, h2, h3⟩ := ih (fun p hp q hq => hn p (List.mem_cons_of_mem _ hp) q (List.mem_cons_of_mem _ hq)) hnd.2 hm'
      have htw : List.takeWhile (fun p : Oper × Nat => p.2 != i) ((x, j) :: r) = (x, j) :: r.takeWhile (fun p => p.2 != i) := by
        simp [List.takeWhile_cons, hj]
      cases hl : listed.getD j false with
      | true =>
        refine ⟨l1, l2, by rw [left_true hl]; exact h1, by rw [left_true ((hset j hj).trans hl)]; exact h2, fun y hy => ?_⟩
        obtain ⟨k, hk, hk2⟩ := h3 y hy
        exact ⟨k, by rw [htw]; exact List.mem_cons_of_mem _ hk, hk2⟩
      | false =>
        refine ⟨x :: l1, l2, by rw [left_false hl, h1]; rfl, by rw [left_false ((hset j hj).trans hl), h2]; rfl, fun y hy => ?_⟩
        rcases List.mem_cons.1 hy with rfl | hy
        · exact ⟨j, by rw [htw]; simp, hl⟩
        · obtain ⟨k, hk, hk2⟩ := h3 y hy
          exact ⟨k, by rw [htw]; exact List.mem_cons_of_mem _ hk, hk2⟩
theorem zipIdx_nodup (l : List Oper) : ∀ k, ((l.zipIdx k).map (·.2)).Nodup ∧ ∀ p ∈ l.zipIdx k, k ≤ p.2 := by
  induction l with
  | nil => intro k; simp
  | cons o r ih =>
    intro k
    obtain ⟨h1, h2⟩ := ih (k + 1)
    simp only [List.zipIdx_cons, List.map_cons, List.nodup_cons, List.mem_map, List.mem_cons]
    refine ⟨⟨?_, h1⟩, ?_⟩
    · rintro ⟨q, hq, e⟩
      have := h2 q hq
      omega
    · rintro p (rfl | hp)
      · exact Nat.le_refl _
      · have := h2 p hp; omega
theorem mem_takeWhile_lt (l : List Oper) (i : Nat) : ∀ k, ∀ p ∈ (l.zipIdx k).takeWhile (fun p => p.2 != i), k ≤ i → p.2 < i ∧ p ∈ l.zipIdx k := by
  induction l with
  | nil => intro k p hp; simp at hp
  | cons o r ih =>
    intro k p hp hk
    rw [List.zipIdx_cons, List.takeWhile_cons] at hp
    by_cases he : k = i
    · subst he; simp at hp
    · have hb : ((o, k).2 != i) = true := by simpa using he
      rw [hb] at hp
      simp only [if_true, List.mem_cons] at hp
      rcases hp with rfl | hp
      · exact ⟨by simp only; omega, by simp⟩
      · obtain ⟨h1, h2⟩ := ih (k + 1) p hp (by omega)
        exact ⟨h1, by rw [List.zipIdx_cons]; exact List.mem_cons_of_mem _ h2⟩
/-- from a state in which some are listed: whatever is ready may go next -/
theorem awd_any {P : Program} {ops : List Oper} {H0 : AH} {Q : Exit → Array Value → AH → Prop} {f0 : Emb} {h0 : AH} {w0 : World} (hok : okDraw P ops = true) (ro : Option Nat) : ∀ (fuel : Nat) (listed : Array Bool) (f : Emb) (a : Array Value) (h : AH) (a' : Act) (w : World),
    listed.size = ops.length → Closed ops listed → (left listed ops.zipIdx).length ≤ fuel → (∀ x ∈ left listed ops.zipIdx, isLoad x.op = true → Pres H0 h ∨ ∃ t, softOf t x.op = true ∧ SoftT P t H0 h) → awd P ops.toArray H0 Q (left listed ops.zipIdx) a h →
    Good P f0 h0 w0 f a h a' w → wpAnyIn (fenceR ro) 0 P .any ops.toArray (Lift P f0 h0 w0 Q) fuel listed a' w := by
  have hnd := zipIdx_nodup ops 0
  have hinj : ∀ p ∈ ops.zipIdx, ∀ q ∈ ops.zipIdx, p.2 = q.2 → p = q := by
    intro p hp q hq e
    rw [List.mem_zipIdx_iff_getElem?] at hp hq
    rw [e, hq] at hp
    obtain ⟨p1, p2⟩ := p
    obtain ⟨q1, q2⟩ := q
    simp only at e hp
    cases e
    cases hp
    rfl
  -- nothing ready: nothing left
  have done : ∀ (listed : Array Bool), listed.size = ops.length → Closed ops listed → Region.ready .any ops.toArray listed = [] → left listed ops.zipIdx = [] := by
    intro listed hsz hcl hr
    by_cases hx : ∃ i, i < ops.length ∧ listed.getD i false = false
    · exfalso
      obtain ⟨i, hi, hl⟩ := hx
      induction i using Nat.strongRecOn with
      | _ i ih =>
        have : i ∈ Region.ready .any ops.toArray listed ∨ ∃ j, j < i ∧ listed.getD j false = false := by
          by_cases hex : ∃ j, j < i ∧ listed.getD j false = false
          · exact .inr hex
          · left
            rw [mem_ready]
            refine ⟨?_, ops[i], by simp, fun e he hb => ?_⟩
            · have : i < listed.size := by omega
              simp only [Array.getD, this, dite_true] at hl ⊢
              exact hl
            · have hlt := okDraw_back hok (List.getElem?_eq_getElem hi) he hb
              cases hle : listed.getD e.on false with
              | true => rfl
              | false => exact absurd ⟨e.on, hlt, hle⟩ hex
        rcases this with h1 | ⟨j, hj, hjl⟩
        · rw [hr] at h1; cases h1
        · exact ih j hj (by omega) hjl
    · unfold left
      rw [List.map_eq_nil_iff, List.filter_eq_nil_iff]
      rintro ⟨o, i⟩ hm
      rw [List.mem_zipIdx_iff_getElem?] at hm
      have hi := (List.getElem?_eq_some_iff.1 hm).1
      cases hl : listed.getD i false with
      | true => simp [hl]
      | false => exact absurd ⟨i, hi, hl⟩ hx
  -- one of them goes
  have go : ∀ (fuel : Nat), (∀ (listed : Array Bool) (f : Emb) (a : Array Value) (h : AH) (a' : Act) (w : World),
      listed.size = ops.length → Closed ops listed → (left listed ops.zipIdx).length ≤ fuel → (∀ x ∈ left listed ops.zipIdx, isLoad x.op = true → Pres H0 h ∨ ∃ t, softOf t x.op = true ∧ SoftT P t H0 h) → awd P ops.toArray H0 Q (left listed ops.zipIdx) a h →
      Good P f0 h0 w0 f a h a' w → wpAnyIn (fenceR ro) 0 P .any ops.toArray (Lift P f0 h0 w0 Q) fuel listed a' w) →
      ∀ (listed : Array Bool) (f : Emb) (a : Array Value) (h : AH) (a' : Act) (w : World),
      listed.size = ops.length → Closed ops listed → (left listed ops.zipIdx).length ≤ fuel + 1 → (∀ x ∈ left listed ops.zipIdx, isLoad x.op = true → Pres H0 h ∨ ∃ t, softOf t x.op = true ∧ SoftT P t H0 h) → awd P ops.toArray H0 Q (left listed ops.zipIdx) a h →
      Good P f0 h0 w0 f a h a' w → ∀ i ∈ Region.ready .any ops.toArray listed, wpOpIn (fenceR ro) 0 P ops.toArray (Lift P f0 h0 w0 Q) i (wpAnyIn (fenceR ro) 0 P .any ops.toArray (Lift P f0 h0 w0 Q) fuel (listed.setIfInBounds i true)) a' w := by
    intro fuel ih listed f a h a' w hsz hcl hlen hpres H g i hi
    have hi0 := hi
    rw [mem_ready] at hi0
    obtain ⟨hun, o, ho, hall⟩ := hi0
    have ho' : ops[i]? = some o := by simpa using ho
    have hlt : i < ops.length := (List.getElem?_eq_some_iff.1 ho').1
    have hun' : listed.getD i false = false := by
      have : i < listed.size := by omega
      simp only [Array.getD, this, dite_true] at hun ⊢
      exact hun
    obtain ⟨l1, l2, e1, e2, e3⟩ := left_split (listed := listed) (i := i) (o := o) ops.zipIdx hinj hnd.1 (by rw [List.mem_zipIdx_iff_getElem?]; exact ho') hun' (by omega)
    have hsw : ∀ x ∈ l1, swapOk P ops.toArray x o = true := by
      intro x hx
      obtain ⟨j, hj, hjl⟩ := e3 x hx
      obtain ⟨hji, hm⟩ := mem_takeWhile_lt ops i 0 _ hj (Nat.zero_le _)
      rw [List.mem_zipIdx_iff_getElem?] at hm
      rcases okDraw_swap hok ho' hm hji with hh | hh
      · have := ready_hangs hcl hi hh
        rw [hjl] at this; cases this
      · exact hh
    rw [e1] at H hpres hlen
    have H2 := awd_front l1 hsw H
    rw [awd_cons] at H2
    have hcl2 : Closed ops (listed.setIfInBounds i true) := by
      intro k ok e hk hkl he hb
      by_cases hki : k = i
      · subst hki
        rw [ho'] at hk; cases hk
        exact getD_set_true (hall e he hb)
      · rw [getD_set_ne false (fun e => hki e.symm)] at hkl
        exact getD_set_true (hcl k ok e hk hkl he hb)
    have hlen2 : (left (listed.setIfInBounds i true) ops.zipIdx).length ≤ fuel := by
      rw [e2]; simp at hlen ⊢; omega
    have hsub : ∀ x ∈ l1 ++ l2, x ∈ l1 ++ o :: l2 := fun x hx => (by
      simp only [List.mem_append, List.mem_cons] at hx ⊢
      rcases hx with hx | hx
      · exact .inl hx
      · exact .inr (.inr hx))
    have next : ∀ (f1 : Emb) (b : Array Value) (h1 : AH) (b' : Act) (w1 : World), (∀ x ∈ l1 ++ l2, isLoad x.op = true → Pres H0 h1 ∨ ∃ t, softOf t x.op = true ∧ SoftT P t H0 h1) → awd P ops.toArray H0 Q (l1 ++ l2) b h1 → Good P f0 h0 w0 f1 b h1 b' w1 →
        wpAnyIn (fenceR ro) 0 P .any ops.toArray (Lift P f0 h0 w0 Q) fuel (listed.setIfInBounds i true) b' w1 := fun f1 b h1 b' w1 hp hk g1 =>
      ih _ f1 b h1 b' w1 (by simpa using hsz) hcl2 hlen2 (by rw [e2]; exact hp) (by rw [e2]; exact hk) g1
    unfold wpOpIn
    simp only [ho]
    unfold awd1 at H2
    split at H2
    · rename_i hg
      rw [if_neg (by simp [gval_wanted g.tm hg])]
      exact ⟨fun _ _ => trivial, next f _ h _ w (fun x hx => hpres x (hsub x hx)) H2 (g.step (Step.refl g.sim) (g.tm.aput o.dst undef_rel) (put_defers _ _ _))⟩
    · rename_i hg
      rw [if_pos (gval_wanted g.tm hg)]
      split at H2
      · rename_i hv
        split at H2
        · rename_i v h2 hval
          have hval2 : aop P (aeval P a) h o = some (.val v h) := by
            obtain ⟨u, hu⟩ := isV_val hv hval
            cases hu
            cases hl : isLoad o.op with
            | false => exact vop_pure hv hl hval
            | true =>
              rcases hpres o (by simp) hl with hp | ⟨t, hs, hp⟩
              · exact vop_load hp hl hval
              · exact vop_soft hp hs hval
          exact oper_wp g o hval2 (fun f1 b' w1 g1 => next f1 _ h b' w1 (fun x hx => hpres x (hsub x hx)) H2 g1) ro
        · exact H2.elim
      · rename_i hv
        split at H2
        · rename_i hmk
          split at H2
          · rename_i ob hob
            have hval : aop P (aeval P a) h o = some (.val (.map (some h.length)) (h ++ [ob])) := by
              obtain ⟨dst, op, type, pos, after, guard⟩ := o
              unfold mkOb at hob
              simp only at hob
              split at hob
              · rename_i t
                show avalh (amMake P h t) = _
                unfold amMake
                split at hob
                · split at hob
                  · rename_i k e hu hk
                    cases hob
                    rw [hu]; simp only [hk, if_true]; rfl
                  · cases hob
                · cases hob
              · cases hob
            have hk := H2 h.length fresh_end
            rw [hset_end] at hk
            exact oper_wp g o hval (fun f1 b' w1 g1 => next f1 _ _ b' w1 (fun x hx hlx => by
              rcases hpres x (hsub x hx) hlx with hp | ⟨t, hs, hp⟩
              · exact .inl fun b hb => by
                  have := hp b hb
                  rw [← this]
                  exact List.getElem?_append_left (by
                    have h1 : H0[b]? = some H0[b] := List.getElem?_eq_getElem hb
                    rw [h1] at this
                    exact (List.getElem?_eq_some_iff.1 this).1)
              · exact .inr ⟨t, hs, fun b o hb => by
                  have old : ∀ {x : AObj}, h[b]? = some x → (h ++ [ob])[b]? = some x := fun {x} hx => by rw [List.getElem?_append_left (List.getElem?_eq_some_iff.1 hx).1]; exact hx
                  rcases hp b o hb with h1 | ⟨k, e, z, es, es', clk, clk', q1, q2, q3, q4, q5⟩
                  · exact .inl (old h1)
                  · exact .inr ⟨k, e, z, es, es', clk, clk', q1, q2, q3, old q4, q5⟩⟩) hk g1) ro
          · exact H2.elim
        have hlv : ∀ h1, (∀ t, isEntry t o.op = true → SoftT P t h h1) → leaves H0 (l1 ++ l2) o h1 → (∀ x ∈ l1 ++ l2, isLoad x.op = true → Pres H0 h1 ∨ ∃ t, softOf t x.op = true ∧ SoftT P t H0 h1) := fun h1 hent hl => by
          intro x hx hlx
          rcases hl with hl | ⟨_, hl⟩
          · exact .inl hl
          · right
            have hsp := hl x hx hlx
            unfold softPair at hsp
            split at hsp
            · rename_i t m0 k0 hop
              refine ⟨t, hsp, ?_⟩
              have hs0 : SoftT P t H0 h := by
                rcases hpres x (hsub x hx) hlx with hp | ⟨t', hs', hp⟩
                · exact .of_pres hp
                · have : t' = t := by
                    unfold softOf at hs' hsp
                    split at hs'
                    · rename_i t2 _ _ heq; rw [heq] at hsp; simp only [beq_iff_eq] at hs' hsp; exact hs'.symm.trans hsp
                    · cases hs'
                  subst this; exact hp
              exact hs0.then (hent t (by rw [hop]; simp [isEntry]))
            · cases hsp
        have hent : ∀ (v : Value) (h1 : AH), aop P (aeval P a) h o = some (.val v h1) → ∀ t, isEntry t o.op = true → SoftT P t h h1 := by
          intro v h1 hval t ht
          obtain ⟨dst, op, type, pos, after, guard⟩ := o
          cases op <;> simp only [isEntry] at ht <;> (try (cases ht; done))
          simp only [beq_iff_eq] at ht
          subst ht
          obtain ⟨v2, h2, h3, h4⟩ := avalh_some (show avalh (amEntry P h _ _ _) = _ from hval)
          cases h4
          exact soft_entry g.sim.ok h3
        split at H2
        · rename_i v h1 hval
          exact oper_wp g o hval (fun f1 b' w1 g1 => next f1 _ h1 b' w1 (hlv h1 (hent v h1 hval) H2.1) H2.2 g1) ro
        · rename_i h1 hval
          refine oper_wp g o hval (fun f1 b' w1 g1 => next f1 _ h1 b' w1 (hlv h1 (fun t ht => ?_) H2.1) H2.2 g1) ro
          exfalso
          obtain ⟨dst, op, type, pos, after, guard⟩ := o
          cases op <;> simp only [isEntry] at ht <;> (try (cases ht; done))
          obtain ⟨v2, h2, h3, h4⟩ := avalh_some (show avalh (amEntry P h _ _ _) = _ from hval)
          cases h4
        · rename_i F args hval
          obtain ⟨R, hc, _, hR⟩ := H2
          exact oper_wp g o hval ⟨R, hc, fun v h1 hr f1 b' w1 g1 => next f1 _ h1 b' w1 (fun x hx _ => .inl (hR v h1 hr).1) (hR v h1 hr).2 g1⟩ ro
        · exact H2.elim
    · exact H2.elim
  intro fuel
  induction fuel with
  | zero =>
    intro listed f a h a' w hsz hcl hlen hpres H g
    have : left listed ops.zipIdx = [] := List.length_eq_zero_iff.1 (by omega)
    have hr : Region.ready .any ops.toArray listed = [] := by
      cases hr : Region.ready .any ops.toArray listed with
      | nil => rfl
      | cons i r =>
        have hi : i ∈ Region.ready .any ops.toArray listed := by rw [hr]; simp
        rw [mem_ready] at hi
        obtain ⟨hun, o, ho, _⟩ := hi
        have ho' : ops[i]? = some o := by simpa using ho
        have hlt : i < ops.length := (List.getElem?_eq_some_iff.1 ho').1
        have hun' : listed.getD i false = false := by
          have : i < listed.size := by omega
          simp only [Array.getD, this, dite_true] at hun ⊢
          exact hun
        obtain ⟨l1, l2, e1, _⟩ := left_split (listed := listed) (i := i) (o := o) ops.zipIdx hinj hnd.1 (by rw [List.mem_zipIdx_iff_getElem?]; exact ho') hun' (by omega)
        rw [this] at e1
        simp at e1
    rw [this] at H
    exact ⟨hr, ⟨f, a, h, H, g⟩⟩
  | succ fuel ih =>
    intro listed f a h a' w hsz hcl hlen hpres H g
    refine ⟨fun hr => ?_, go fuel ih listed f a h a' w hsz hcl hlen hpres H g⟩
    rw [done listed hsz hcl hr] at H
    exact ⟨f, a, h, H, g⟩
theorem AWP.drawS {P : Program} {h0 : AH} {id : Nat} {l : List Oper} {Q : Exit → Array Value → AH → Prop} {a : Array Value} {h : AH} (HS : AH) (hS : Pres HS h) (hm : P.follows .mixedOrders = true) (hok : okDraw P l = true) (ha : awd P l.toArray HS Q l a h) :
    AWP P h0 (.region id l.toArray true) Q a h := by
  intro f0 w0 f a' w s0 g ro hrb
  refine wpIn_region_any hm ?_
  have hl : left (Array.replicate l.length false) l.zipIdx = l := by
    have : ∀ (r : List Oper) (k : Nat), left (Array.replicate l.length false) (r.zipIdx k) = r := by
      intro r
      induction r with
      | nil => intro k; rfl
      | cons x r ih =>
        intro k
        rw [List.zipIdx_cons, left_false (by simp only [Array.getD_eq_getD_getElem?, Array.getElem?_replicate]; split <;> rfl), ih]
    exact this l 0
  have := awd_any (H0 := HS) (Q := Q) (f0 := f0) (h0 := h0) (w0 := w0) hok ro l.length (Array.replicate l.length false) f a h a' w.drew (by simp) (fun i o e _ hl _ _ => by
    exfalso
    simp only [Array.getD_eq_getD_getElem?, Array.getElem?_replicate] at hl
    split at hl <;> cases hl) (by rw [hl]; exact Nat.le_refl _) (fun x _ _ => .inl hS) (by rw [hl]; exact ha) (g.step (Step.drew g.sim) g.tm rfl)
  simpa using this
section
variable {P : Program} {ops : Array Oper} {Q : Exit → Array Value → AH → Prop} {rest : List Oper} {a : Array Value} {h H0 h0 : AH} {dst : Option Tmp} {ty : TypeId} {pos : String} {after : Array Edge}
/-- what follows an operation, in a region that draws -/
def dstep (P : Program) (ops : Array Oper) (H0 : AH) (Q : Exit → Array Value → AH → Prop) (rest : List Oper) (o : Oper) (a : Array Value) (h : AH) : Option ARes → Prop
  | some (.val v h1) => leaves H0 rest o h1 ∧ awd P ops H0 Q rest (aput a o.dst v) h1
  | some (.skip h1) => leaves H0 rest o h1 ∧ awd P ops H0 Q rest (aput a o.dst undef) h1
  | some (.enter F args) => ∃ R, ACalls P F args h R ∧ Calm P ops F args h R ∧ ∀ v h1, R v h1 → Pres H0 h1 ∧ awd P ops H0 Q rest (aput a o.dst v) h1
  | _ => False
def dvstep (P : Program) (ops : Array Oper) (H0 : AH) (Q : Exit → Array Value → AH → Prop) (rest : List Oper) (dst : Option Tmp) (a : Array Value) (h : AH) : Option ARes → Prop
  | some (.val v _) => awd P ops H0 Q rest (aput a dst v) h
  | _ => False
def dmk (P : Program) (ops : Array Oper) (H0 : AH) (Q : Exit → Array Value → AH → Prop) (rest : List Oper) (dst : Option Tmp) (a : Array Value) (h : AH) : Option AObj → Prop
  | some ob => ∀ b, Fresh h b → awd P ops H0 Q rest (aput a dst (.map (some b))) (hset h b ob)
  | none => False
def dgate (P : Program) (ops : Array Oper) (H0 : AH) (Q : Exit → Array Value → AH → Prop) (rest : List Oper) (o : Oper) (a : Array Value) (h : AH) : Option Bool → Prop
  | some false => awd P ops H0 Q rest (aput a o.dst undef) h
  | some true => bif isV P o.op then dvstep P ops H0 Q rest o.dst a h (aop P (aeval P a) H0 o) else bif isMk o.op then dmk P ops H0 Q rest o.dst a h (mkOb P o.op) else dstep P ops H0 Q rest o a h (aop P (aeval P a) h o)
  | none => False
theorem awd_nil : awd P ops H0 Q [] a h = Q .normal a h := rfl
theorem awd_gate {o : Oper} : awd P ops H0 Q (o :: rest) a h = dgate P ops H0 Q rest o a h (gval ops a o) := by
  simp only [awd]
  unfold dgate dvstep dstep dmk
  cases gval ops a o with
  | none => rfl
  | some b =>
    cases b with
    | false => rfl
    | true =>
      simp only []
      cases hv : isV P o.op <;> cases hm : isMk o.op <;> simp only [cond_true, cond_false, if_true, if_false, Bool.false_eq_true] <;> rfl
theorem dgate_true {o : Oper} : dgate P ops H0 Q rest o a h (some true) = bif isV P o.op then dvstep P ops H0 Q rest o.dst a h (aop P (aeval P a) H0 o) else bif isMk o.op then dmk P ops H0 Q rest o.dst a h (mkOb P o.op) else dstep P ops H0 Q rest o a h (aop P (aeval P a) h o) := rfl
theorem dvstep_val {v : Value} {h1 : AH} : dvstep P ops H0 Q rest dst a h (some (.val v h1)) = awd P ops H0 Q rest (aput a dst v) h := rfl
theorem dstep_val {o : Oper} {v : Value} {h1 : AH} : dstep P ops H0 Q rest o a h (some (.val v h1)) = (leaves H0 rest o h1 ∧ awd P ops H0 Q rest (aput a o.dst v) h1) := rfl
theorem dstep_skip {o : Oper} {h1 : AH} : dstep P ops H0 Q rest o a h (some (.skip h1)) = (leaves H0 rest o h1 ∧ awd P ops H0 Q rest (aput a o.dst undef) h1) := rfl
theorem dmk_some {ob : AObj} : dmk P ops H0 Q rest dst a h (some ob) = ∀ b, Fresh h b → awd P ops H0 Q rest (aput a dst (.map (some b))) (hset h b ob) := rfl
end
attribute [go_sem] isMk
attribute [go_sem ↓] dmk_some awd_nil awd_gate dgate_true dvstep_val dstep_val dstep_skip
end Go.Am.D

set_option linter.unusedSimpArgs false
set_option linter.unusedVariables false
/- New blocks wherever, in layouts; a transaction begins. -/
namespace Go.Am
open Go Go.Proofs Go.Am.D
theorem Rest.hset {O : List Nat} {H : AH} {b : Nat} {o : AObj} (hf : Fresh H b) : Rest O H (hset H b o) :=
  ⟨fun i x hi ha _ => by
    have hne : i ≠ b := fun e => by subst e; rw [hf x hi] at ha; cases ha
    rw [hset_get, if_neg hne, if_pos (List.getElem?_eq_some_iff.1 hi).1]; exact hi, by unfold D.hset; split <;> simp⟩
theorem Holds.hnew {H : AH} {L : Lay} (h : Holds H L) {b : Nat} {o : AObj} (hf : Fresh H b) (ha : o.alive = true) : Holds (hset H b o) ((b, o) :: L) := by
  have hd : ∀ i ∈ L.own, i ∉ ([] : List Nat) := fun i _ => by simp
  have h2 := h.rest (Rest.hset (O := []) (o := o) hf) hd
  refine ⟨fun p hp => ?_, ?_, fun p hp => (List.mem_cons.1 hp).elim (fun e => by rw [e]; exact ha) (h.al p)⟩
  · rcases List.mem_cons.1 hp with rfl | hp
    · simp only [hset_get, if_true]
    · exact h2.at_ p hp
  · rw [List.map_cons, List.nodup_cons]
    refine ⟨fun hi => ?_, h.nd⟩
    obtain ⟨p, hp, e⟩ := List.mem_map.1 hi
    have e' : p.1 = b := e
    have h3 := hf p.2 (by rw [← e']; exact h.at_ p hp)
    rw [h.al p hp] at h3; cases h3
/-- a transaction begins -/
def WS.begun (S : WS) : WS := { S with touched := fun _ => none, looked := fun _ => none, orig := fun _ => none, dead := fun _ => none, refund := 0, logs := [], journal := [], marks := [], next := 0 }
/-- what a call of a world leaves -/
structure WOk (P : Program) (tA tP : TypeId) (H : AH) (I : WI) (H' : AH) (I' : WI) (S' : WS) : Prop where
  at_ : WAt P tA tP H' I' S'
  rest : Rest I.own H H'
  gets : Gets I.own H I'.own
  b : I'.b = I.b
theorem begun_at {P : Program} {tA tP : TypeId} {H : AH} {I : WI} {S : WS} (w : WAt P tA tP H I S) (kA : ∀ x : Addr20, Am.keyed P tA (keyAddr x) = true) (kP : ∀ x : Plc, Am.keyed P tP (keyPlc x) = true) (yA : keyTy P tA = true) (yP : keyTy P tP = true)
    {b1 b2 b3 b4 : Nat} (f1 : Fresh H b1) (f2 : Fresh (hset H b1 (.map tA #[] 0)) b2) (f3 : Fresh (hset (hset H b1 (.map tA #[] 0)) b2 (.map tP #[] 0)) b3) (f4 : Fresh (hset (hset (hset H b1 (.map tA #[] 0)) b2 (.map tP #[] 0)) b3 (.map tP #[] 0)) b4) :
    ∃ I', WOk P tA tP H I ((hset (hset (hset (hset H b1 (.map tA #[] 0)) b2 (.map tP #[] 0)) b3 (.map tP #[] 0)) b4 (.map tA #[] 0)).set I.b (.cells #[.map (some I.all.b), .map (some I.slots.b), .map (some b1), .map (some b2), .map (some b3), .map (some b4), .int .i64 0, .slice none 0 0, .slice none 0 0, .slice none 0 0, .int .i64 0] 0 true)) I' S.begun := by
  have h0 : Holds H [(I.b, .cells (I.cells S) 0 true), I.all.obj tA, I.slots.obj tP] := w.holds.sub (by
    unfold WI.lay
    exact ((List.nil_sublist _).cons_cons _).cons_cons _ |>.cons_cons _)
  have h4 := (((h0.hnew (o := .map tA #[] 0) f1 rfl).hnew (o := .map tP #[] 0) f2 rfl).hnew (o := .map tP #[] 0) f3 rfl).hnew (o := .map tA #[] 0) f4 rfl
  have h5 := h4.put (b := I.b) (o := .cells #[.map (some I.all.b), .map (some I.slots.b), .map (some b1), .map (some b2), .map (some b3), .map (some b4), .int .i64 0, .slice none 0 0, .slice none 0 0, .slice none 0 0, .int .i64 0] 0 true) (by simp [Lay.own]) rfl
  have nd := h4.nd
  simp only [List.map_cons, List.map_nil, MB.obj, List.nodup_cons, List.mem_cons, List.not_mem_nil, or_false, not_or] at nd
  obtain ⟨n4, n3, n2, n1, nb, _⟩ := nd
  refine ⟨⟨I.b, I.all, I.slots, ⟨b1, #[], 0⟩, ⟨b2, #[], 0⟩, ⟨b3, #[], 0⟩, ⟨b4, #[], 0⟩, none, none, none⟩, ⟨?_, w.all, w.slots, MFun.empty yA kA keyAddr_inj, MFun.empty yP kP keyPlc_inj, MFun.empty yP kP keyPlc_inj, MFun.empty yA kA keyAddr_inj, rfl, rfl, rfl⟩, ?_, ?_, rfl⟩
  · refine h5.perm ?_
    have ha1 : ¬ I.all.b = I.b := fun e => nb.1 e.symm
    have ha2 : ¬ I.slots.b = I.b := fun e => nb.2 e.symm
    simp only [Lay.put, List.map_cons, List.map_nil, MB.obj, if_neg n4.2.2.2.1, if_neg n3.2.2.1, if_neg n2.2.1, if_neg n1.1, if_neg ha1, if_neg ha2, if_true]
    simp only [WI.lay, MB.obj, Row.lay, WI.cells, WS.begun, Row.val, List.append_nil]
    exact (List.perm_append_comm (l₁ := [(I.b, _), (I.all.b, _), (I.slots.b, _)]) (l₂ := [(b1, _), (b2, _), (b3, _), (b4, _)])).trans (List.Perm.append_right _ (List.reverse_perm _).symm)
  · have r1 : Rest I.own H (hset H b1 (.map tA #[] 0)) := Rest.hset f1
    have r2 := r1.trans (Rest.hset (O := I.own) (o := .map tP #[] 0) f2) (Gets.refl _ _)
    have r3 := r2.trans (Rest.hset (O := I.own) (o := .map tP #[] 0) f3) (Gets.refl _ _)
    have r4 := r3.trans (Rest.hset (O := I.own) (o := .map tA #[] 0) f4) (Gets.refl _ _)
    exact r4.trans (Rest.set (O := I.own) (by simp [WI.own])) (Gets.refl _ _)
  · have g2 := (fresh_back f1 rfl f2).2
    have g3 := (fresh_back f1 rfl (fresh_back f2 rfl f3).2).2
    have g4 := (fresh_back f1 rfl (fresh_back f2 rfl (fresh_back f3 rfl f4).2).2).2
    intro i hi
    simp only [WI.own, Row.lay, Lay.own, List.map_nil, List.append_nil, List.mem_cons, List.not_mem_nil, or_false] at hi
    rcases hi with rfl | rfl | rfl | rfl | rfl | rfl | rfl
    · exact .inl (by simp [WI.own])
    · exact .inl (by simp [WI.own])
    · exact .inl (by simp [WI.own])
    · exact .inr f1
    · exact .inr g2
    · exact .inr g3
    · exact .inr g4
end Go.Am

set_option linter.unusedSimpArgs false
set_option linter.unusedVariables false
/- A world changes: its maps, its journal. -/
namespace Go.Am
open Go Go.Proofs Go.Am.D
theorem MFun.put {K V : Type} {P : Program} {t k : TypeId} {z : Value} {encK : K → Value} {encV : V → Value} {es : Array MapEntry} {ck : Nat} {f : K → Option V} (m : MFun P k encK encV es ck f) (hu : mp P t = some (k, z)) (hk : ∀ x, Am.keyed P k (encK x) = true) [DecidableEq K] (x : K) (v : V) :
    ∃ es' ck', MFun P k encK encV es' ck' (fun y => if y = x then some v else f y) ∧ ∀ {H : AH} {b : Nat}, H[b]? = some (.map k es ck) → amUpdate P H t (.map (some b)) (encK x) (encV v) = some (H.set b (.map k es' ck')) := by
  cases hf : f x with
  | none =>
    refine ⟨_, _, m.push hf v, fun {H b} hb => ?_⟩
    exact amUpdate_none hu (hk x) hb (m.find_none hf)
  | some w =>
    obtain ⟨j, e', h1, h2⟩ := m.find_some hf
    refine ⟨_, _, m.modify h1 v, fun {H b} hb => ?_⟩
    exact amUpdate_some hu (hk x) hb h1
/-- one block is written: the layout is another list of the same blocks -/
theorem Holds.upd {H : AH} {L L' : Lay} (h : Holds H L) {b : Nat} {o : AObj} (hown : L'.own = L.own) (hmem : ∀ p ∈ L', p = (b, o) ∨ (p ∈ L ∧ p.1 ≠ b)) (hb : b ∈ L.own) (ha : o.alive = true) : Holds (H.set b o) L' := by
  refine ⟨fun p hp => ?_, by have := h.nd; unfold Lay.own at hown; rw [hown]; exact this, fun p hp => ?_⟩
  · rcases hmem p hp with rfl | ⟨h1, h2⟩
    · exact List.getElem?_set_self (h.below b hb)
    · rw [List.getElem?_set_ne (fun e => h2 e.symm)]; exact h.at_ p h1
  · rcases hmem p hp with rfl | ⟨h1, _⟩
    · exact ha
    · exact h.al p h1
/-- a row becomes another one -/
theorem Holds.swapRow {H H' : AH} {J J' Lo : Lay} (h : Holds H (J ++ Lo)) (hr : Rest J.own H H') (hj : Holds H' J') (hg : ∀ i ∈ J'.own, i ∈ J.own ∨ H.length ≤ i) : Holds H' (J' ++ Lo) := by
  have hLo : Holds H Lo := h.sub (List.sublist_append_right _ _)
  have hd : ∀ i ∈ Lo.own, i ∉ J.own := fun i hi hj => by
    have := h.nd
    rw [List.map_append, List.nodup_append] at this
    exact this.2.2 i hj i hi rfl
  refine hj.append (hLo.rest hr hd) fun i hi hl => ?_
  rcases hg i hi with h1 | h1
  · exact hd i hl h1
  · have := hLo.below i hl; omega
/-- one block among others is written -/
theorem Holds.box {H : AH} {J Lo : Lay} {b : Nat} {o : AObj} (h : Holds H (J ++ (b, o) :: Lo)) (o' : AObj) (ha : o'.alive = true) : Holds (H.set b o') (J ++ (b, o') :: Lo) := by
  have nd := h.nd
  rw [List.map_append, List.map_cons, List.nodup_append, List.nodup_cons] at nd
  obtain ⟨_, ⟨n1, _⟩, n2⟩ := nd
  refine h.upd (by simp [Lay.own]) (fun p hp => ?_) (by simp [Lay.own]) ha
  rcases List.mem_append.1 hp with hp | hp
  · exact .inr ⟨List.mem_append_left _ hp, n2 p.1 (List.mem_map_of_mem hp) b (by simp)⟩
  · rcases List.mem_cons.1 hp with rfl | hp
    · exact .inl rfl
    · exact .inr ⟨List.mem_append_right _ (List.mem_cons_of_mem _ hp), fun e => n1 (by
      have hm : p.1 ∈ Lo.map (·.1) := List.mem_map_of_mem hp
      rw [e] at hm; exact hm)⟩
section
variable {P : Program} {tA tP : TypeId} {H : AH} {I : WI} {S : WS}
/-- the journal gets a step -/
theorem WAt.step (w : WAt P tA tP H I S) (x : Stp) {g : Bool} {by_ : Nat} (hbd : (2 * (S.journal.length + 1) + 192) * by_ ≤ 2 ^ 48 ∧ S.journal.length + 1 < 2 ^ 62) :
    ∃ (r' : Row) (H' : AH), mkApp H (I.journal.val S.journal.length) (some (g, 36, by_)) (some (1, (encStp x).toArray)) = some (r'.val (S.journal.length + 1), H') ∧ H'[I.b]? = some (.cells (I.cells S) 0 true) ∧
      WOk P tA tP H I (H'.set I.b (.cells (WI.cells { I with journal := r' } { S with journal := S.journal ++ [x] }) 0 true)) { I with journal := r' } { S with journal := S.journal ++ [x] } := by
  have hperm : (I.lay tA tP S).Perm (I.journal.lay 36 ++ ((I.b, .cells (I.cells S) 0 true) :: I.all.obj tA :: I.slots.obj tP :: I.touched.obj tA :: I.looked.obj tP :: I.orig.obj tP :: I.dead.obj tA :: (I.logs.lay 22 ++ I.marks.lay 2))) := by
    unfold WI.lay
    have e1 : ∀ (A B C D : Lay), (A ++ (B ++ (C ++ D))).Perm (C ++ (A ++ (B ++ D))) := fun A B C D => by
      rw [show A ++ (B ++ (C ++ D)) = ((A ++ B) ++ C) ++ D by simp, show C ++ (A ++ (B ++ D)) = (C ++ (A ++ B)) ++ D by simp]
      exact List.Perm.append_right D List.perm_append_comm
    exact e1 [_, _, _, _, _, _, _] _ _ _
  have h1 := w.holds.perm hperm.symm
  obtain ⟨r', H', q1, q2, q3, q4, q5⟩ := Row.append (g := g) (by_ := by_) (h1.sub (List.sublist_append_left _ _)) w.journal length_encStp x hbd
  have h2 := h1.swapRow q4 q2 q5
  have hbox : H'[I.b]? = some (.cells (I.cells S) 0 true) := h2.get (by simp)
  refine ⟨r', H', q1, hbox, ⟨?_, w.all, w.slots, w.touched, w.looked, w.orig, w.dead, w.logs, q3, w.marks⟩, ?_, ?_, rfl⟩
  · have h3 := h2.box (.cells (WI.cells { I with journal := r' } { S with journal := S.journal ++ [x] }) 0 true) rfl
    refine h3.perm ?_
    unfold WI.lay
    have e1 : ∀ (A B C D : Lay), (A ++ (B ++ (C ++ D))).Perm (C ++ (A ++ (B ++ D))) := fun A B C D => by
      rw [show A ++ (B ++ (C ++ D)) = ((A ++ B) ++ C) ++ D by simp, show C ++ (A ++ (B ++ D)) = (C ++ (A ++ B)) ++ D by simp]
      exact List.Perm.append_right D List.perm_append_comm
    exact e1 [_, _, _, _, _, _, _] _ _ _
  · have r1 : Rest I.own H H' := q4.mono fun i hi => by simp only [WI.own, List.mem_cons, List.mem_append]; simp [hi]
    exact r1.trans (Rest.set (by simp [WI.own])) (Gets.refl _ _)
  · refine Gets.far fun i hi => ?_
    simp only [WI.own, List.mem_cons, List.mem_append] at hi ⊢
    rcases hi with h | h | h | h | h | h | h | h | h | h
    · simp [h]
    · simp [h]
    · simp [h]
    · simp [h]
    · simp [h]
    · simp [h]
    · simp [h]
    · simp [h]
    · rcases q5 i h with h | h
      · simp [h]
      · exact .inr h
    · simp [h]
end
end Go.Am

set_option linter.unusedSimpArgs false
set_option linter.unusedVariables false
/- A world's maps are written; changes, one behind the other. -/
namespace Go.Am
open Go Go.Proofs Go.Am.D
section
variable {P : Program} {tA tP : TypeId} {H H1 H2 t : AH} {I I1 I2 : WI} {S S1 S2 : WS}
theorem WOk.trans (a : WOk P tA tP H I H1 I1 S1) (b : WOk P tA tP H1 I1 H2 I2 S2) : WOk P tA tP H I H2 I2 S2 :=
  ⟨b.at_, a.rest.trans b.rest a.gets, a.gets.trans a.rest b.gets, b.b.trans a.b⟩
theorem WOk.pre (a : WOk P tA tP (H ++ t) I H1 I1 S1) : WOk P tA tP H I H1 I1 S1 :=
  ⟨a.at_, (Rest.app (O := I.own)).trans a.rest (Gets.refl _ _), (Gets.refl _ _).trans Rest.app a.gets, a.b⟩
theorem WOk.refl (w : WAt P tA tP H I S) : WOk P tA tP H I H I S := ⟨w, Rest.refl _ _, Gets.refl _ _, rfl⟩
theorem WAt.put_all (w : WAt P tA tP H I S) {mt : TypeId} {z : Value} (hu : mp P mt = some (tA, z)) (kk : ∀ x : Addr20, Am.keyed P tA (keyAddr x) = true) (x : Addr20) (v : Acc) :
    ∃ es' ck', (∀ {H' : AH} {b : Nat}, H'[b]? = some (.map tA I.all.es I.all.ck) → amUpdate P H' mt (.map (some b)) (keyAddr x) (encAccV v) = some (H'.set b (.map tA es' ck'))) ∧
      WOk P tA tP H I (H.set I.all.b (.map tA es' ck')) { I with all := ⟨I.all.b, es', ck'⟩ } { S with all := fun y => if y = x then some v else S.all y } := by
  obtain ⟨es', ck', m, hx⟩ := w.all.put hu kk x v
  refine ⟨es', ck', hx, ⟨?_, m, w.slots, w.touched, w.looked, w.orig, w.dead, w.logs, w.journal, w.marks⟩, Rest.set (by simp [WI.own]), Gets.refl _ _, rfl⟩
  have h := w.holds
  exact Holds.box (J := [(I.b, AObj.cells (I.cells S) 0 true)]) (b := I.all.b) (o := .map tA I.all.es I.all.ck) h (.map tA es' ck') rfl
theorem WAt.put_slots (w : WAt P tA tP H I S) {mt : TypeId} {z : Value} (hu : mp P mt = some (tP, z)) (kk : ∀ x : Plc, Am.keyed P tP (keyPlc x) = true) (x : Plc) (v : Word4) :
    ∃ es' ck', (∀ {H' : AH} {b : Nat}, H'[b]? = some (.map tP I.slots.es I.slots.ck) → amUpdate P H' mt (.map (some b)) (keyPlc x) (encWordV v) = some (H'.set b (.map tP es' ck'))) ∧
      WOk P tA tP H I (H.set I.slots.b (.map tP es' ck')) { I with slots := ⟨I.slots.b, es', ck'⟩ } { S with slots := fun y => if y = x then some v else S.slots y } := by
  obtain ⟨es', ck', m, hx⟩ := w.slots.put hu kk x v
  refine ⟨es', ck', hx, ⟨?_, w.all, m, w.touched, w.looked, w.orig, w.dead, w.logs, w.journal, w.marks⟩, Rest.set (by simp [WI.own]), Gets.refl _ _, rfl⟩
  have h := w.holds
  exact Holds.box (J := [(I.b, AObj.cells (I.cells S) 0 true), I.all.obj tA]) (b := I.slots.b) (o := .map tP I.slots.es I.slots.ck) h (.map tP es' ck') rfl
theorem WAt.put_touched (w : WAt P tA tP H I S) {mt : TypeId} {z : Value} (hu : mp P mt = some (tA, z)) (kk : ∀ x : Addr20, Am.keyed P tA (keyAddr x) = true) (x : Addr20) (v : Int) :
    ∃ es' ck', (∀ {H' : AH} {b : Nat}, H'[b]? = some (.map tA I.touched.es I.touched.ck) → amUpdate P H' mt (.map (some b)) (keyAddr x) (encIntV v) = some (H'.set b (.map tA es' ck'))) ∧
      WOk P tA tP H I (H.set I.touched.b (.map tA es' ck')) { I with touched := ⟨I.touched.b, es', ck'⟩ } { S with touched := fun y => if y = x then some v else S.touched y } := by
  obtain ⟨es', ck', m, hx⟩ := w.touched.put hu kk x v
  refine ⟨es', ck', hx, ⟨?_, w.all, w.slots, m, w.looked, w.orig, w.dead, w.logs, w.journal, w.marks⟩, Rest.set (by simp [WI.own]), Gets.refl _ _, rfl⟩
  have h := w.holds
  exact Holds.box (J := [(I.b, AObj.cells (I.cells S) 0 true), I.all.obj tA, I.slots.obj tP]) (b := I.touched.b) (o := .map tA I.touched.es I.touched.ck) h (.map tA es' ck') rfl
theorem WAt.put_looked (w : WAt P tA tP H I S) {mt : TypeId} {z : Value} (hu : mp P mt = some (tP, z)) (kk : ∀ x : Plc, Am.keyed P tP (keyPlc x) = true) (x : Plc) (v : Int) :
    ∃ es' ck', (∀ {H' : AH} {b : Nat}, H'[b]? = some (.map tP I.looked.es I.looked.ck) → amUpdate P H' mt (.map (some b)) (keyPlc x) (encIntV v) = some (H'.set b (.map tP es' ck'))) ∧
      WOk P tA tP H I (H.set I.looked.b (.map tP es' ck')) { I with looked := ⟨I.looked.b, es', ck'⟩ } { S with looked := fun y => if y = x then some v else S.looked y } := by
  obtain ⟨es', ck', m, hx⟩ := w.looked.put hu kk x v
  refine ⟨es', ck', hx, ⟨?_, w.all, w.slots, w.touched, m, w.orig, w.dead, w.logs, w.journal, w.marks⟩, Rest.set (by simp [WI.own]), Gets.refl _ _, rfl⟩
  have h := w.holds
  exact Holds.box (J := [(I.b, AObj.cells (I.cells S) 0 true), I.all.obj tA, I.slots.obj tP, I.touched.obj tA]) (b := I.looked.b) (o := .map tP I.looked.es I.looked.ck) h (.map tP es' ck') rfl
theorem WAt.put_orig (w : WAt P tA tP H I S) {mt : TypeId} {z : Value} (hu : mp P mt = some (tP, z)) (kk : ∀ x : Plc, Am.keyed P tP (keyPlc x) = true) (x : Plc) (v : Word4) :
    ∃ es' ck', (∀ {H' : AH} {b : Nat}, H'[b]? = some (.map tP I.orig.es I.orig.ck) → amUpdate P H' mt (.map (some b)) (keyPlc x) (encWordV v) = some (H'.set b (.map tP es' ck'))) ∧
      WOk P tA tP H I (H.set I.orig.b (.map tP es' ck')) { I with orig := ⟨I.orig.b, es', ck'⟩ } { S with orig := fun y => if y = x then some v else S.orig y } := by
  obtain ⟨es', ck', m, hx⟩ := w.orig.put hu kk x v
  refine ⟨es', ck', hx, ⟨?_, w.all, w.slots, w.touched, w.looked, m, w.dead, w.logs, w.journal, w.marks⟩, Rest.set (by simp [WI.own]), Gets.refl _ _, rfl⟩
  have h := w.holds
  exact Holds.box (J := [(I.b, AObj.cells (I.cells S) 0 true), I.all.obj tA, I.slots.obj tP, I.touched.obj tA, I.looked.obj tP]) (b := I.orig.b) (o := .map tP I.orig.es I.orig.ck) h (.map tP es' ck') rfl
end
end Go.Am

set_option linter.unusedSimpArgs false
set_option linter.unusedVariables false
/- Steps of a journal, built. -/
namespace Go.Am
open Go Go.Proofs
def zeroA : Addr20 := Vector.replicate 20 0
def Stp.zero : Stp := ⟨0, ⟨zeroA, zeroW⟩, Acc.zero, zeroW, 0⟩
theorem stp_zero : (#[Value.int .i64 0] ++ (#[Value.int .u8 0, .int .u8 0, .int .u8 0, .int .u8 0, .int .u8 0, .int .u8 0, .int .u8 0, .int .u8 0, .int .u8 0, .int .u8 0, .int .u8 0, .int .u8 0, .int .u8 0, .int .u8 0, .int .u8 0, .int .u8 0, .int .u8 0, .int .u8 0, .int .u8 0, .int .u8 0, .int .u64 0, .int .u64 0, .int .u64 0, .int .u64 0] ++ (#[Value.int .u64 0, .int .u64 0, .int .u64 0, .int .u64 0, .int .u64 0, .string ⟨⟨[]⟩⟩] ++ (#[Value.int .u64 0, .int .u64 0, .int .u64 0, .int .u64 0] ++ #[Value.int .i64 0])))) = (encStp Stp.zero).toArray := by kernel_rfl
theorem stp_pl (s : Stp) (p : Plc) : blit (encStp s).toArray 1 (encPlc p) = (encStp { s with pl := p }).toArray := by
  have e := blit_mid (encPlc p) [.int .i64 s.kind] (encPlc s.pl) (encAcc s.was ++ (encWord s.word ++ [.int .i64 s.n])) (by simp [length_encPlc])
  simpa [encStp] using e
theorem stp_was (s : Stp) (x : Acc) : blit (encStp s).toArray 25 (encAcc x) = (encStp { s with was := x }).toArray := by
  have e := blit_mid (encAcc x) (.int .i64 s.kind :: encPlc s.pl) (encAcc s.was) (encWord s.word ++ [.int .i64 s.n]) (by simp [length_encAcc])
  simpa [encStp, length_encPlc] using e
theorem stp_word (s : Stp) (x : Word4) : blit (encStp s).toArray 31 (encWord x) = (encStp { s with word := x }).toArray := by
  have e := blit_mid (encWord x) (.int .i64 s.kind :: (encPlc s.pl ++ encAcc s.was)) (encWord s.word) [.int .i64 s.n] (by simp [length_encWord])
  simpa [encStp, length_encPlc, length_encAcc] using e
theorem stp_kindL (s : Stp) (k : Int) : (encStp s).set 0 (.int .i64 k) = encStp { s with kind := k } := rfl
theorem sto_row {r : Row} {n : Nat} : storable (r.val n) = true := by cases r <;> rfl
theorem cells_row {r : Row} {n : Nat} : Value.cells (r.val n) = #[r.val n] := by cases r <;> rfl
attribute [go_sem ↓] sto_row cells_row
attribute [go_sem] sto_row cells_row
attribute [go_sem] stp_kindL length_encStp stp_zero stp_pl stp_was stp_word
end Go.Am

set_option linter.unusedSimpArgs false
set_option linter.unusedVariables false
/- A world's marks. -/
namespace Go.Am
open Go Go.Proofs Go.Am.D
section
variable {P : Program} {tA tP : TypeId} {H : AH} {I : WI} {S : WS}
/-- the plain fields are written -/
theorem WAt.fields (w : WAt P tA tP H I S) (n r : Int) : WOk P tA tP H I (H.set I.b (.cells (WI.cells I { S with next := n, refund := r }) 0 true)) I { S with next := n, refund := r } := by
  refine ⟨⟨?_, w.all, w.slots, w.touched, w.looked, w.orig, w.dead, w.logs, w.journal, w.marks⟩, Rest.set (by simp [WI.own]), Gets.refl _ _, rfl⟩
  exact Holds.box (J := []) (b := I.b) (o := .cells (I.cells S) 0 true) w.holds _ rfl
/-- a mark more -/
theorem WAt.mark (w : WAt P tA tP H I S) (x : Mk) {g : Bool} {by_ : Nat} (hbd : (2 * (S.marks.length + 1) + 192) * by_ ≤ 2 ^ 48 ∧ S.marks.length + 1 < 2 ^ 62) :
    ∃ (r' : Row) (H' : AH), mkApp H (I.marks.val S.marks.length) (some (g, 2, by_)) (some (1, (encMk x).toArray)) = some (r'.val (S.marks.length + 1), H') ∧ H'[I.b]? = some (.cells (I.cells S) 0 true) ∧
      WOk P tA tP H I (H'.set I.b (.cells (WI.cells { I with marks := r' } { S with marks := S.marks ++ [x] }) 0 true)) { I with marks := r' } { S with marks := S.marks ++ [x] } := by
  have e1 : ∀ (A B C D : Lay), (A ++ (B ++ (C ++ D))).Perm (D ++ (A ++ (B ++ C))) := fun A B C D => by
    rw [show A ++ (B ++ (C ++ D)) = (A ++ (B ++ C)) ++ D by simp]
    exact List.perm_append_comm
  have hperm : (I.lay tA tP S).Perm (I.marks.lay 2 ++ ((I.b, .cells (I.cells S) 0 true) :: I.all.obj tA :: I.slots.obj tP :: I.touched.obj tA :: I.looked.obj tP :: I.orig.obj tP :: I.dead.obj tA :: (I.logs.lay 22 ++ I.journal.lay 36))) := by
    unfold WI.lay
    exact e1 [_, _, _, _, _, _, _] _ _ _
  have h1 := w.holds.perm hperm.symm
  obtain ⟨r', H', q1, q2, q3, q4, q5⟩ := Row.append (g := g) (by_ := by_) (h1.sub (List.sublist_append_left _ _)) w.marks length_encMk x hbd
  have h2 := h1.swapRow q4 q2 q5
  have hbox : H'[I.b]? = some (.cells (I.cells S) 0 true) := h2.get (by simp)
  refine ⟨r', H', q1, hbox, ⟨?_, w.all, w.slots, w.touched, w.looked, w.orig, w.dead, w.logs, w.journal, q3⟩, ?_, ?_, rfl⟩
  · have h3 := h2.box (.cells (WI.cells { I with marks := r' } { S with marks := S.marks ++ [x] }) 0 true) rfl
    refine h3.perm ?_
    unfold WI.lay
    exact e1 [_, _, _, _, _, _, _] _ _ _
  · have r1 : Rest I.own H H' := q4.mono fun i hi => by simp only [WI.own, List.mem_cons, List.mem_append]; simp [hi]
    exact r1.trans (Rest.set (by simp [WI.own])) (Gets.refl _ _)
  · refine Gets.far fun i hi => ?_
    simp only [WI.own, List.mem_cons, List.mem_append] at hi ⊢
    rcases hi with h | h | h | h | h | h | h | h | h | h
    · simp [h]
    · simp [h]
    · simp [h]
    · simp [h]
    · simp [h]
    · simp [h]
    · simp [h]
    · simp [h]
    · simp [h]
    · rcases q5 i h with h | h
      · simp [h]
      · exact .inr h
end
theorem alen_row {P : Program} {h : AH} {t : TypeId} {f : Bool × Nat × Nat} {α : Type} {enc : α → List Value} {m : Nat} {r : Row} {l : List α} (ha : slc P t = some f) (hi : r.Is enc m l) : alen P h t (r.val l.length) = some (.int .i64 (l.length : Nat)) := by
  cases r with
  | none =>
    have : l = [] := hi
    subst this
    exact alen_eq' ha
  | some p => exact alen_eq' ha
attribute [go_sem] length_encMk
theorem acarry_add (x y c : UInt64) (hc : c.toNat ≤ 1) : acarry true (.int .u64 ((x.toNat : Nat) : Int)) (.int .u64 ((y.toNat : Nat) : Int)) (.int .u64 ((c.toNat : Nat) : Int)) = some (.tuple #[.int .u64 (((x + y + c).toNat : Nat) : Int), .int .u64 (((car x y c).toNat : Nat) : Int)]) := by
  have e := add_step x y c hc
  have h1 := x.toNat_lt; have h2 := y.toNat_lt; have h3 := (x + y + c).toNat_lt
  have hcl : (car x y c).toNat ≤ 1 := by unfold car; split <;> simp
  simp only [acarry, Int.toNat_natCast, hc, if_true]
  have e1 : (x.toNat + y.toNat + c.toNat) % 2 ^ 64 = (x + y + c).toNat := by omega
  have e2 : (x.toNat + y.toNat + c.toNat) / 2 ^ 64 = (car x y c).toNat := by omega
  rw [e1, e2]
  rfl
end Go.Am

set_option linter.unusedSimpArgs false
set_option linter.unusedVariables false
/- A map loses a key. -/
namespace Go.Am
open Go Go.Proofs
theorem findV_off (key : Value) : ∀ (es : List MapEntry) (i i' : Nat), (findK key es i).map (fun p => p.2.val) = (findK key es i').map (fun p => p.2.val)
  | [], _, _ => rfl
  | e :: es, i, i' => by
    simp only [findK]
    split
    · rfl
    · exact findV_off key es _ _
theorem findV_app (key : Value) (A B : List MapEntry) : (findK key (A ++ B) 0).map (fun p => p.2.val) = match (findK key A 0).map (fun p => p.2.val) with | some v => some v | none => (findK key B 0).map (fun p => p.2.val) := by
  rw [findK_append]
  cases findK key A 0 with
  | none => exact findV_off key B _ _
  | some p => rfl
theorem MFun.erase {K V : Type} [DecidableEq K] {P : Program} {k : TypeId} {encK : K → Value} {encV : V → Value} {es : Array MapEntry} {clock : Nat} {f : K → Option V} (m : MFun P k encK encV es clock f) {x : K} {j : Nat} {e : MapEntry} (h : findK (encK x) es.toList 0 = some (j, e)) :
    MFun P k encK encV (es.eraseIdxIfInBounds j) clock (fun y => if y = x then none else f y) := by
  obtain ⟨_, g1, g2⟩ := findK_some (m.keyed x) es.toList 0 m.ok.keys h
  rw [Nat.sub_zero] at g1
  have hj := (List.getElem?_eq_some_iff.1 g1)
  obtain ⟨hlt, hje⟩ := hj
  have hsplit : es.toList = es.toList.take j ++ e :: es.toList.drop (j + 1) := by
    rw [← hje, ← List.drop_eq_getElem_cons hlt, List.take_append_drop]
  have her : es.toList.eraseIdx j = es.toList.take j ++ es.toList.drop (j + 1) := List.eraseIdx_eq_take_drop_succ _ _
  have nd := m.ok.apart
  generalize es.toList.take j = A at hsplit her
  generalize es.toList.drop (j + 1) = B at hsplit her
  rw [hsplit, List.map_append, List.map_cons, List.nodup_append, List.nodup_cons] at nd
  obtain ⟨_, ⟨n1, _⟩, n2⟩ := nd
  have hA : ∀ e' ∈ A, e'.key ≠ encK x := fun e' he' eq => n2 _ (List.mem_map_of_mem he') _ (List.mem_cons_self ..) (by rw [eq, g2])
  have hB : ∀ e' ∈ B, e'.key ≠ encK x := fun e' he' eq => n1 (by rw [g2, ← eq]; exact List.mem_map_of_mem he')
  have hmem : ∀ e' ∈ (es.eraseIdxIfInBounds j).toList, e' ∈ es.toList := fun e' he' => by rw [erase_toList] at he'; exact List.mem_of_mem_eraseIdx he'
  have hok : MapOk P k (es.eraseIdxIfInBounds j).toList clock := by rw [erase_toList]; exact mapOk_erase m.ok j
  refine ⟨hok, m.keyed, m.inj, fun y => ?_, fun e' he' => m.keys e' (hmem e' he'), fun e' he' => m.vals e' (hmem e' he')⟩
  by_cases hy : y = x
  · subst hy
    rw [if_pos rfl]
    have : findK (encK y) (es.eraseIdxIfInBounds j).toList 0 = none := (findK_none (m.keyed y) _ 0 hok.keys).2 fun e' he' => by
      rw [erase_toList, her] at he'
      rcases List.mem_append.1 he' with h1 | h1
      · exact hA e' h1
      · exact hB e' h1
    rw [this]; rfl
  · rw [if_neg hy, ← m.at_ y, erase_toList, her, findV_app]
    rw [hsplit, findV_app]
    have hne : sameKey e.key (encK y) = false := by
      cases hs : sameKey e.key (encK y) with
      | false => rfl
      | true =>
        have := (sameKey_iff (m.ok.keys e (by rw [hsplit]; simp)) (m.keyed y)).1 hs
        rw [g2] at this
        exact absurd (m.inj _ _ this).symm hy
    have e2 : (findK (encK y) (e :: B) 0).map (fun p => p.2.val) = (findK (encK y) B 0).map (fun p => p.2.val) := by
      simp only [findK, hne, Bool.false_eq_true, if_false]
      exact findV_off _ _ _ _
    rw [e2]
theorem MFun.del {K V : Type} [DecidableEq K] {P : Program} {t k : TypeId} {z : Value} {encK : K → Value} {encV : V → Value} {es : Array MapEntry} {ck : Nat} {f : K → Option V} (m : MFun P k encK encV es ck f) (hu : mp P t = some (k, z)) (x : K) :
    ∃ es', MFun P k encK encV es' ck (fun y => if y = x then none else f y) ∧ ∀ {H : AH} {b : Nat}, H[b]? = some (.map k es ck) → amDelete P H t (.map (some b)) (encK x) = some (.tuple #[], H.set b (.map k es' ck)) := by
  obtain ⟨e, hu', _⟩ := mp_spec hu
  cases hf : f x with
  | none =>
    have hfn := m.find_none hf
    have e1 : (fun y => if y = x then none else f y) = f := by
      funext y
      by_cases hy : y = x
      · subst hy; rw [if_pos rfl, hf]
      · rw [if_neg hy]
    refine ⟨es, by rw [e1]; exact m, fun {H b} hb => ?_⟩
    simp only [amDelete, hu', m.keyed x, if_true, hb, hfn]
  | some w =>
    obtain ⟨j, e', h1, _⟩ := m.find_some hf
    refine ⟨_, m.erase h1, fun {H b} hb => ?_⟩
    simp only [amDelete, hu', m.keyed x, if_true, hb, h1]
section
variable {P : Program} {tA tP : TypeId} {H : AH} {I : WI} {S : WS}
theorem WAt.del_touched (w : WAt P tA tP H I S) {mt : TypeId} {z : Value} (hu : mp P mt = some (tA, z)) (x : Addr20) :
    ∃ es', (∀ {H' : AH} {b : Nat}, H'[b]? = some (.map tA I.touched.es I.touched.ck) → amDelete P H' mt (.map (some b)) (keyAddr x) = some (.tuple #[], H'.set b (.map tA es' I.touched.ck))) ∧
      WOk P tA tP H I (H.set I.touched.b (.map tA es' I.touched.ck)) { I with touched := ⟨I.touched.b, es', I.touched.ck⟩ } { S with touched := fun y => if y = x then none else S.touched y } := by
  obtain ⟨es', m, hx⟩ := w.touched.del hu x
  refine ⟨es', hx, ⟨?_, w.all, w.slots, m, w.looked, w.orig, w.dead, w.logs, w.journal, w.marks⟩, Rest.set (by simp [WI.own]), Gets.refl _ _, rfl⟩
  have h := w.holds
  exact Holds.box (J := [(I.b, AObj.cells (I.cells S) 0 true), I.all.obj tA, I.slots.obj tP]) (b := I.touched.b) (o := .map tA I.touched.es I.touched.ck) h (.map tA es' I.touched.ck) rfl
theorem WAt.del_looked (w : WAt P tA tP H I S) {mt : TypeId} {z : Value} (hu : mp P mt = some (tP, z)) (x : Plc) :
    ∃ es', (∀ {H' : AH} {b : Nat}, H'[b]? = some (.map tP I.looked.es I.looked.ck) → amDelete P H' mt (.map (some b)) (keyPlc x) = some (.tuple #[], H'.set b (.map tP es' I.looked.ck))) ∧
      WOk P tA tP H I (H.set I.looked.b (.map tP es' I.looked.ck)) { I with looked := ⟨I.looked.b, es', I.looked.ck⟩ } { S with looked := fun y => if y = x then none else S.looked y } := by
  obtain ⟨es', m, hx⟩ := w.looked.del hu x
  refine ⟨es', hx, ⟨?_, w.all, w.slots, w.touched, m, w.orig, w.dead, w.logs, w.journal, w.marks⟩, Rest.set (by simp [WI.own]), Gets.refl _ _, rfl⟩
  have h := w.holds
  exact Holds.box (J := [(I.b, AObj.cells (I.cells S) 0 true), I.all.obj tA, I.slots.obj tP, I.touched.obj tA]) (b := I.looked.b) (o := .map tP I.looked.es I.looked.ck) h (.map tP es' I.looked.ck) rfl
theorem WAt.del_dead (w : WAt P tA tP H I S) {mt : TypeId} {z : Value} (hu : mp P mt = some (tA, z)) (x : Addr20) :
    ∃ es', (∀ {H' : AH} {b : Nat}, H'[b]? = some (.map tA I.dead.es I.dead.ck) → amDelete P H' mt (.map (some b)) (keyAddr x) = some (.tuple #[], H'.set b (.map tA es' I.dead.ck))) ∧
      WOk P tA tP H I (H.set I.dead.b (.map tA es' I.dead.ck)) { I with dead := ⟨I.dead.b, es', I.dead.ck⟩ } { S with dead := fun y => if y = x then none else S.dead y } := by
  obtain ⟨es', m, hx⟩ := w.dead.del hu x
  refine ⟨es', hx, ⟨?_, w.all, w.slots, w.touched, w.looked, w.orig, m, w.logs, w.journal, w.marks⟩, Rest.set (by simp [WI.own]), Gets.refl _ _, rfl⟩
  have h := w.holds
  exact Holds.box (J := [(I.b, AObj.cells (I.cells S) 0 true), I.all.obj tA, I.slots.obj tP, I.touched.obj tA, I.looked.obj tP, I.orig.obj tP]) (b := I.dead.b) (o := .map tA I.dead.es I.dead.ck) h (.map tA es' I.dead.ck) rfl
end
end Go.Am

set_option linter.unusedSimpArgs false
set_option linter.unusedVariables false
/- The parts of a journal's step. -/
namespace Go.Am
open Go Go.Proofs
theorem mid_part {a b c : List Value} {n m : Nat} (ha : a.length = n) (hb : b.length = m) : (a ++ (b ++ c)).toArray.extract n (n + m) = b.toArray := by
  apply Array.ext'
  simp only [Array.toList_extract, List.extract_eq_take_drop]
  subst ha; subst hb
  rw [List.drop_left, Nat.add_sub_cancel_left, List.take_left]
theorem stp_0 (s : Stp) : (encStp s)[0]? = some (.int .i64 s.kind) := rfl
theorem stp_addr (s : Stp) : (encStp s).toArray.extract 1 21 = (encAddr s.pl.addr).toArray := by
  have := mid_part (a := [.int .i64 s.kind]) (b := encAddr s.pl.addr) (c := encWord s.pl.key ++ (encAcc s.was ++ (encWord s.word ++ [.int .i64 s.n]))) (n := 1) (m := 20) rfl (length_encAddr _)
  rw [← this]; simp [encStp, encPlc]
theorem stp_plc (s : Stp) : (encStp s).toArray.extract 1 25 = (encPlc s.pl).toArray := by
  have := mid_part (a := [.int .i64 s.kind]) (b := encPlc s.pl) (c := encAcc s.was ++ (encWord s.word ++ [.int .i64 s.n])) (n := 1) (m := 24) rfl (length_encPlc _)
  rw [← this]; simp [encStp]
theorem stp_acc (s : Stp) : (encStp s).toArray.extract 25 31 = (encAcc s.was).toArray := by
  have := mid_part (a := .int .i64 s.kind :: encPlc s.pl) (b := encAcc s.was) (c := encWord s.word ++ [.int .i64 s.n]) (n := 25) (m := 6) (by simp [length_encPlc]) (length_encAcc _)
  rw [← this]; simp [encStp]
theorem stp_wrd (s : Stp) : (encStp s).toArray.extract 31 35 = (encWord s.word).toArray := by
  have := mid_part (a := .int .i64 s.kind :: (encPlc s.pl ++ encAcc s.was)) (b := encWord s.word) (c := [.int .i64 s.n]) (n := 31) (m := 4) (by simp [length_encPlc, length_encAcc]) (length_encWord _)
  rw [← this]; simp [encStp]
theorem stp_35 (s : Stp) : (encStp s)[35]? = some (.int .i64 s.n) := by
  simp [encStp, List.getElem?_append, length_encPlc, length_encAcc, length_encWord]
attribute [go_sem] stp_0 stp_addr stp_plc stp_acc stp_wrd stp_35
end Go.Am

set_option linter.unusedSimpArgs false
set_option linter.unusedVariables false
/- The front of a row. -/
namespace Go.Am
open Go Go.Proofs
theorem Row.cut {α : Type} {enc : α → List Value} {m : Nat} {r : Row} {l : List α} (hi : r.Is enc m l) (hm : ∀ x, (enc x).length = m) {n : Nat} (hn : n ≤ l.length) : r.Is enc m (l.take n) := by
  cases r with
  | none =>
    have : l = [] := hi
    subst this; simp [Row.Is]
  | some p =>
    obtain ⟨b, c, cap⟩ := p
    obtain ⟨h1, h2, h3⟩ := hi
    refine ⟨h1, by simp; omega, ?_⟩
    have e : (l.take n).length = n := by simp; omega
    rw [e]
    have h4 := congrArg (fun a : Array Value => a.extract 0 (n * m)) h3
    simp only [Array.extract_extract, Nat.zero_add] at h4
    have hle : n * m ≤ l.length * m := Nat.mul_le_mul_right _ hn
    rw [Nat.min_eq_left hle] at h4
    rw [h4]
    have hs : flatV enc l = flatV enc (l.take n) ++ flatV enc (l.drop n) := by rw [← flatV_append, List.take_append_drop]
    have hsz : (flatV enc (l.take n)).size = n * m := by rw [flat_size hm, e]
    rw [hs, ← hsz, Array.extract_append_left]
    simp
theorem slice_row {P : Program} {h : AH} {t : TypeId} {g : Bool} {m by_ : Nat} {α : Type} {enc : α → List Value} {r : Row} {l : List α} (ha : slc P t = some (g, m, by_)) (ht : m < tagN) (hh : Holds h (r.lay m)) (hi : r.Is enc m l) {n : Nat} (hn : n ≤ l.length) :
    aslice P h t (r.val l.length) none (some (.int .i64 ((n : Nat) : Int))) = some (r.val n) := by
  cases r with
  | none =>
    have : l = [] := hi
    subst this
    have : n = 0 := by simpa using hn
    subst this
    show aslice P h t (.slice none 0 0) _ _ = _
    rw [asliceN_eq' ha]; rfl
  | some p =>
    obtain ⟨b, c, cap⟩ := p
    obtain ⟨h1, h2, h3⟩ := hi
    have hb : h[b]? = some (.cells c m true) := hh.get (by simp [Row.lay])
    show aslice P h t (.slice (some ⟨b, 0, none⟩) l.length cap) _ _ = _
    rw [asliceS_eq' ha, hb]
    have hbn : abounds l.length cap none (some (.int .i64 ((n : Nat) : Int))) = some (0, n) := by
      have hcap : n ≤ cap := Nat.le_trans hn h2
      have e1 : abound (some (.int .i64 ((n : Nat) : Int))) l.length cap = some n := by
        show (if (0 : Int) ≤ ((n : Nat) : Int) ∧ ((n : Nat) : Int) ≤ (cap : Nat) then some ((n : Nat) : Int).toNat else none) = some n
        rw [if_pos ⟨by omega, by omega⟩]; rfl
      show (match abound (some (.int .i64 ((n : Nat) : Int))) l.length cap with | some h => (match abound none 0 h with | some l => some (l, h) | none => none) | none => none) = some (0, n)
      rw [e1]; rfl
    unfold mkSliceS
    simp only [hbn]
    rw [if_pos ⟨Or.inr trivial, ht⟩, if_pos ⟨Nat.le_trans hn h2, h2⟩]
    simp [Row.val]
end Go.Am

set_option linter.unusedSimpArgs false
set_option linter.unusedVariables false
/- A world whose logs, journal, marks are cut. -/
namespace Go.Am
open Go Go.Proofs Go.Am.D
section
variable {P : Program} {tA tP : TypeId} {H : AH} {I : WI} {S : WS}
theorem WAt.cutLogs (w : WAt P tA tP H I S) {n : Nat} (hn : n ≤ S.logs.length) : WOk P tA tP H I (H.set I.b (.cells (WI.cells I { S with logs := S.logs.take n }) 0 true)) I { S with logs := S.logs.take n } := by
  refine ⟨⟨?_, w.all, w.slots, w.touched, w.looked, w.orig, w.dead, Row.cut w.logs length_encLg hn, w.journal, w.marks⟩, Rest.set (by simp [WI.own]), Gets.refl _ _, rfl⟩
  exact Holds.box (J := []) (b := I.b) (o := .cells (I.cells S) 0 true) w.holds _ rfl
theorem WAt.cutJournal (w : WAt P tA tP H I S) {n : Nat} (hn : n ≤ S.journal.length) : WOk P tA tP H I (H.set I.b (.cells (WI.cells I { S with journal := S.journal.take n }) 0 true)) I { S with journal := S.journal.take n } := by
  refine ⟨⟨?_, w.all, w.slots, w.touched, w.looked, w.orig, w.dead, w.logs, Row.cut w.journal length_encStp hn, w.marks⟩, Rest.set (by simp [WI.own]), Gets.refl _ _, rfl⟩
  exact Holds.box (J := []) (b := I.b) (o := .cells (I.cells S) 0 true) w.holds _ rfl
theorem WAt.cutMarks (w : WAt P tA tP H I S) {n : Nat} (hn : n ≤ S.marks.length) : WOk P tA tP H I (H.set I.b (.cells (WI.cells I { S with marks := S.marks.take n }) 0 true)) I { S with marks := S.marks.take n } := by
  refine ⟨⟨?_, w.all, w.slots, w.touched, w.looked, w.orig, w.dead, w.logs, w.journal, Row.cut w.marks length_encMk hn⟩, Rest.set (by simp [WI.own]), Gets.refl _ _, rfl⟩
  exact Holds.box (J := []) (b := I.b) (o := .cells (I.cells S) 0 true) w.holds _ rfl
/-- what a world's logs, cut to their front, are -/
theorem WAt.logsFront (w : WAt P tA tP H I S) {t : TypeId} {g : Bool} {by_ : Nat} (ha : slc P t = some (g, 22, by_)) {n : Nat} (hn : n ≤ S.logs.length) : aslice P H t (I.logs.val S.logs.length) none (some (.int .i64 ((n : Nat) : Int))) = some (I.logs.val n) :=
  slice_row ha (by decide) (w.holds.sub (by
    unfold WI.lay
    refine List.Sublist.cons _ (List.Sublist.cons _ (List.Sublist.cons _ (List.Sublist.cons _ (List.Sublist.cons _ (List.Sublist.cons _ (List.Sublist.cons _ ?_))))))
    exact List.sublist_append_left _ _)) w.logs hn
theorem WAt.journalFront (w : WAt P tA tP H I S) {t : TypeId} {g : Bool} {by_ : Nat} (ha : slc P t = some (g, 36, by_)) {n : Nat} (hn : n ≤ S.journal.length) : aslice P H t (I.journal.val S.journal.length) none (some (.int .i64 ((n : Nat) : Int))) = some (I.journal.val n) :=
  slice_row ha (by decide) (w.holds.sub (by
    unfold WI.lay
    refine List.Sublist.cons _ (List.Sublist.cons _ (List.Sublist.cons _ (List.Sublist.cons _ (List.Sublist.cons _ (List.Sublist.cons _ (List.Sublist.cons _ ?_))))))
    exact (List.sublist_append_left _ _).trans (List.sublist_append_right _ _))) w.journal hn
theorem WAt.marksFront (w : WAt P tA tP H I S) {t : TypeId} {g : Bool} {by_ : Nat} (ha : slc P t = some (g, 2, by_)) {n : Nat} (hn : n ≤ S.marks.length) : aslice P H t (I.marks.val S.marks.length) none (some (.int .i64 ((n : Nat) : Int))) = some (I.marks.val n) :=
  slice_row ha (by decide) (w.holds.sub (by
    unfold WI.lay
    refine List.Sublist.cons _ (List.Sublist.cons _ (List.Sublist.cons _ (List.Sublist.cons _ (List.Sublist.cons _ (List.Sublist.cons _ (List.Sublist.cons _ ?_))))))
    exact (List.sublist_append_right _ _).trans (List.sublist_append_right _ _))) w.marks hn
end
end Go.Am

set_option linter.unusedSimpArgs false
set_option linter.unusedVariables false
/- What a step taken back leaves of a world. -/
namespace Go.Am
open Go Go.Proofs Go.Am.D
def WS.undo (S : WS) (s : Stp) : WS :=
  if s.kind = 0 then { S with all := fun y => if y = s.pl.addr then some s.was else S.all y }
  else if s.kind = 1 then { S with slots := fun y => if y = s.pl then some s.word else S.slots y }
  else if s.kind = 2 then { S with touched := fun y => if y = s.pl.addr then none else S.touched y }
  else if s.kind = 3 then { S with looked := fun y => if y = s.pl then none else S.looked y }
  else if s.kind = 4 then { S with refund := s.n }
  else if s.kind = 5 then { S with logs := S.logs.take s.n.toNat }
  else { S with dead := fun y => if y = s.pl.addr then none else S.dead y }
/-- a step that may be taken back there -/
structure WS.Fits (S : WS) (s : Stp) : Prop where
  lo : 0 ≤ s.kind
  hi : s.kind ≤ 6
  logs : s.kind = 5 → 0 ≤ s.n ∧ s.n.toNat ≤ S.logs.length
/-- the last step first -/
def WS.undos (S : WS) : List Stp → WS
  | [] => S
  | s :: l => WS.undos (S.undo s) l
end Go.Am

set_option linter.unusedSimpArgs false
set_option linter.unusedVariables false
/- A map's range whose rounds delete the key they are at. -/
namespace Go.Am
open Go Go.Proofs
/-- what is left of entries when those seen so far that d takes are gone -/
def sweep (d : MapEntry → Bool) (pre : List MapEntry) (es : List MapEntry) : List MapEntry := es.filter fun e => !(d e && (pre.map (·.born)).contains e.born)
theorem sweep_nil (d : MapEntry → Bool) (es : List MapEntry) : sweep d [] es = es := by
  unfold sweep
  rw [List.filter_eq_self]
  intro e _; simp
theorem sweep_mem {d : MapEntry → Bool} {pre es : List MapEntry} {e : MapEntry} : e ∈ sweep d pre es ↔ e ∈ es ∧ ¬ (d e = true ∧ e.born ∈ pre.map (·.born)) := by
  unfold sweep
  rw [List.mem_filter]
  refine and_congr_right fun _ => ?_
  cases d e <;> simp
theorem born_inj {es : List MapEntry} (hn : (es.map (·.born)).Nodup) {x y : MapEntry} (hx : x ∈ es) (hy : y ∈ es) (h : x.born = y.born) : x = y := by
  induction es with
  | nil => cases hx
  | cons a es ih =>
    rw [List.map_cons, List.nodup_cons] at hn
    rcases List.mem_cons.1 hx with rfl | hx2 <;> rcases List.mem_cons.1 hy with rfl | hy2
    · rfl
    · exact absurd (h ▸ List.mem_map_of_mem hy2) hn.1
    · exact absurd (h ▸ List.mem_map_of_mem hx2) hn.1
    · exact ih hn.2 hx2 hy2
theorem sweep_keep {d : MapEntry → Bool} {pre es : List MapEntry} {e : MapEntry} (hn : (es.map (·.born)).Nodup) (he : e ∈ es) (hd : d e = false) : sweep d (pre ++ [e]) es = sweep d pre es := by
  unfold sweep
  apply List.filter_congr
  intro x hx
  by_cases hb : x.born = e.born
  · rw [born_inj hn hx he hb, hd]; rfl
  · simp [hb]
theorem eraseIdx_born : ∀ {l : List MapEntry} {j : Nat} {e : MapEntry}, (l.map (·.born)).Nodup → l[j]? = some e → l.eraseIdx j = l.filter fun x => !(x.born == e.born)
  | [], _, _, _, h => by simp at h
  | x :: l, 0, e, hn, h => by
    rw [List.getElem?_cons_zero] at h; cases h
    rw [List.map_cons, List.nodup_cons] at hn
    rw [List.eraseIdx_cons_zero, List.filter_cons_of_neg (by simp)]
    symm
    rw [List.filter_eq_self]
    intro y hy
    have : y.born ≠ x.born := fun h => hn.1 (h ▸ List.mem_map_of_mem hy)
    simpa using this
  | x :: l, j + 1, e, hn, h => by
    rw [List.getElem?_cons_succ] at h
    rw [List.map_cons, List.nodup_cons] at hn
    have : x.born ≠ e.born := fun h1 => hn.1 (h1 ▸ List.mem_map_of_mem (List.mem_of_getElem? h))
    rw [List.eraseIdx_cons_succ, List.filter_cons_of_pos (by simpa using this), eraseIdx_born hn.2 h]
theorem sweep_nodup {d : MapEntry → Bool} {pre es : List MapEntry} (hn : (es.map (·.born)).Nodup) : ((sweep d pre es).map (·.born)).Nodup := by
  unfold sweep
  exact hn.sublist (List.filter_sublist.map _)
theorem mapOk_sub {P : Program} {k : TypeId} {es es1 : List MapEntry} {clock : Nat} (m : MapOk P k es clock) (h : es1.Sublist es) : MapOk P k es1 clock :=
  ⟨m.ty, fun e he => m.keys e (h.subset he), m.apart.sublist (h.map _), fun e he => m.old e (h.subset he), m.born.sublist (h.map _)⟩
theorem sweep_ok {P : Program} {k : TypeId} {d : MapEntry → Bool} {pre es : List MapEntry} {clock : Nat} (m : MapOk P k es clock) : MapOk P k (sweep d pre es) clock := mapOk_sub m List.filter_sublist
theorem findK_mem {P : Program} {k : TypeId} {es : List MapEntry} {clock : Nat} (m : MapOk P k es clock) {e : MapEntry} (he : e ∈ es) : ∃ j, findK e.key es 0 = some (j, e) ∧ es[j]? = some e := by
  have hk := m.keys e he
  cases hf : findK e.key es 0 with
  | none => exact absurd rfl ((findK_none hk es 0 m.keys).1 hf e he)
  | some p =>
    obtain ⟨j, x⟩ := p
    obtain ⟨_, h1, h2⟩ := findK_some hk es 0 m.keys hf
    rw [Nat.sub_zero] at h1
    have hx : x ∈ es := List.mem_of_getElem? h1
    have : x = e := by
      have hn := m.apart
      clear hf h1
      induction es with
      | nil => cases hx
      | cons a es ih =>
        rw [List.map_cons, List.nodup_cons] at hn
        rcases List.mem_cons.1 hx with rfl | hx2 <;> rcases List.mem_cons.1 he with rfl | he2
        · rfl
        · exact absurd (h2 ▸ List.mem_map_of_mem he2) hn.1
        · exact absurd (h2 ▸ List.mem_map_of_mem hx2) hn.1
        · exact ih (mapOk_sub m (List.sublist_cons_self _ _)) he2 hx2 hn.2
    subst this
    exact ⟨j, rfl, h1⟩
theorem sweep_drop {P : Program} {k : TypeId} {d : MapEntry → Bool} {pre es : List MapEntry} {clock : Nat} {e : MapEntry} (m : MapOk P k es clock) (he : e ∈ es) (hp : e.born ∉ pre.map (·.born)) (hd : d e = true) :
    ∃ j, findK e.key (sweep d pre es) 0 = some (j, e) ∧ (sweep d pre es).eraseIdx j = sweep d (pre ++ [e]) es := by
  have hm : e ∈ sweep d pre es := sweep_mem.2 ⟨he, fun h => hp h.2⟩
  obtain ⟨j, h1, h2⟩ := findK_mem (sweep_ok m) hm
  refine ⟨j, h1, ?_⟩
  rw [eraseIdx_born (sweep_nodup m.born) h2]
  unfold sweep
  rw [List.filter_filter]
  apply List.filter_congr
  intro x hx
  by_cases hb : x.born = e.born
  · rw [born_inj m.born hx he hb, hd]; simp
  · simp [hb]
theorem sweep_del {P : Program} {t k : TypeId} {z : Value} {d : MapEntry → Bool} {pre es : List MapEntry} {ck : Nat} {e : MapEntry} (hu : mp P t = some (k, z)) (m : MapOk P k es ck) (he : e ∈ es) (hp : e.born ∉ pre.map (·.born)) (hd : d e = true) {H : AH} {b : Nat} (hb : H[b]? = some (.map k (sweep d pre es).toArray ck)) :
    amDelete P H t (.map (some b)) e.key = some (.tuple #[], H.set b (.map k (sweep d (pre ++ [e]) es).toArray ck)) := by
  obtain ⟨el, hu', _⟩ := mp_spec hu
  obtain ⟨j, h1, h2⟩ := sweep_drop m he hp hd
  simp only [amDelete, hu', m.keys e he, if_true, hb, h1]
  congr 5
  apply Array.ext'
  rw [erase_toList, h2]
theorem sweep_done {d : MapEntry → Bool} {pre es : List MapEntry} (h0 : (leftOf (sweep d pre es).toArray (pre.map (·.born)).toArray).size = 0) : sweep d pre es = es.filter fun e => !d e := by
  unfold sweep
  apply List.filter_congr
  intro x hx
  cases hd : d x with
  | false => rfl
  | true =>
    by_cases hb : x.born ∈ pre.map (·.born)
    · simp [hb]
    · exfalso
      have : x ∈ leftOf (sweep d pre es).toArray (pre.map (·.born)).toArray := by
        simp only [leftOf, Array.mem_filter]
        exact ⟨by simpa using sweep_mem.2 ⟨hx, fun h => hb h.2⟩, by simpa using hb⟩
      rw [Array.eq_empty_of_size_eq_zero h0] at this
      simp at this
/-- a map of which some keys are gone -/
theorem MFun.filter {K V : Type} [DecidableEq K] {P : Program} {k : TypeId} {encK : K → Value} {encV : V → Value} {es : Array MapEntry} {clock : Nat} {f : K → Option V} (m : MFun P k encK encV es clock f) {d : MapEntry → Bool} {dk : K → Bool} (hd : ∀ e ∈ es.toList, ∀ x, e.key = encK x → d e = dk x) :
    MFun P k encK encV (es.toList.filter fun e => !d e).toArray clock (fun y => if dk y then none else f y) := by
  have hs : (es.toList.filter fun e => !d e).Sublist es.toList := List.filter_sublist
  have ok1 := mapOk_sub m.ok hs
  refine ⟨by simpa using ok1, m.keyed, m.inj, fun x => ?_, fun e he => m.keys e (hs.subset (by simpa using he)), fun e he => m.vals e (hs.subset (by simpa using he))⟩
  have hx := m.at_ x
  simp only
  cases hf : findK (encK x) (es.toList.filter fun e => !d e) 0 with
  | none =>
    have hno := (findK_none (m.keyed x) _ 0 ok1.keys).1 hf
    cases hdx : dk x with
    | true => rfl
    | false =>
      cases hf2 : findK (encK x) es.toList 0 with
      | none => rw [hf2] at hx; simpa using hx
      | some p =>
        obtain ⟨j, e⟩ := p
        obtain ⟨_, g1, g2⟩ := findK_some (m.keyed x) _ 0 m.ok.keys hf2
        have hmem := List.mem_of_getElem? g1
        exact absurd g2 (hno e (List.mem_filter.2 ⟨hmem, by rw [hd e hmem x g2, hdx]; rfl⟩))
  | some p =>
    obtain ⟨j, e⟩ := p
    obtain ⟨_, g1, g2⟩ := findK_some (m.keyed x) _ 0 ok1.keys hf
    have hmem := List.mem_of_getElem? g1
    obtain ⟨h1, h2⟩ := List.mem_filter.1 hmem
    have hdx : dk x = false := by rw [← hd e h1 x g2]; simpa using h2
    obtain ⟨j2, g3, _⟩ := findK_mem m.ok h1
    rw [g2] at g3
    rw [g3] at hx
    rw [hdx]
    simpa using hx
theorem Rest.cut {O O' : List Nat} {H H' : AH} (r : Rest O' H H') (h : ∀ i ∈ O', i ∈ O ∨ H.length ≤ i) : Rest O H H' :=
  ⟨fun i o hi ha hn => r.same i o hi ha fun hm => (h i hm).elim hn fun hl => by have := (List.getElem?_eq_some_iff.1 hi).1; omega, r.len⟩
end Go.Am

set_option linter.unusedSimpArgs false
set_option linter.unusedVariables false
/- The back part of a row; a journal that fits. -/
namespace Go.Am
open Go Go.Proofs
/-- where the part of a row from n on lies -/
def Row.from (r : Row) (m n : Nat) : Option Addr := match r with | none => none | some (b, _, _) => some ⟨b, n * m, none⟩
def Row.room (r : Row) (n : Nat) : Nat := match r with | none => 0 | some (_, _, cap) => cap - n
theorem slice_back {P : Program} {h : AH} {t : TypeId} {g : Bool} {m by_ : Nat} {α : Type} {enc : α → List Value} {r : Row} {l : List α} (ha : slc P t = some (g, m, by_)) (ht : m < tagN) (hh : Holds h (r.lay m)) (hi : r.Is enc m l) {n : Nat} (hn : n ≤ l.length) :
    aslice P h t (r.val l.length) (some (.int .i64 ((n : Nat) : Int))) none = some (.slice (r.from m n) (l.length - n) (r.room n)) := by
  cases r with
  | none =>
    have : l = [] := hi
    subst this
    have : n = 0 := by simpa using hn
    subst this
    show aslice P h t (.slice none 0 0) _ _ = _
    rw [asliceN_eq' ha]; rfl
  | some p =>
    obtain ⟨b, c, cap⟩ := p
    obtain ⟨h1, h2, h3⟩ := hi
    have hb : h[b]? = some (.cells c m true) := hh.get (by simp [Row.lay])
    show aslice P h t (.slice (some ⟨b, 0, none⟩) l.length cap) _ _ = _
    rw [asliceS_eq' ha, hb]
    have hbn : abounds l.length cap (some (.int .i64 ((n : Nat) : Int))) none = some (n, l.length) := by
      show (match abound none l.length cap with | some h => (match abound (some (.int .i64 ((n : Nat) : Int))) 0 h with | some l => some (l, h) | none => none) | none => none) = _
      have e0 : abound none l.length cap = some l.length := rfl
      have e1 : abound (some (.int .i64 ((n : Nat) : Int))) 0 l.length = some n := by
        show (if (0 : Int) ≤ ((n : Nat) : Int) ∧ ((n : Nat) : Int) ≤ (l.length : Nat) then some ((n : Nat) : Int).toNat else none) = some n
        rw [if_pos ⟨by omega, by omega⟩]; rfl
      rw [e0]
      simp only
      rw [e1]
    unfold mkSliceS
    simp only [hbn]
    rw [if_pos ⟨Or.inr trivial, ht⟩, if_pos ⟨h2, h2⟩]
    simp [Row.from, Row.room]
/-- a journal's steps, the last one first, may be taken back where there are so many logs -/
def fitsL : Nat → List Stp → Prop
  | _, [] => True
  | n, s :: l => 0 ≤ s.kind ∧ s.kind ≤ 6 ∧ (s.kind = 5 → 0 ≤ s.n ∧ s.n.toNat ≤ n) ∧ fitsL (if s.kind = 5 then s.n.toNat else n) l
theorem fitsL.head {S : WS} {s : Stp} {l : List Stp} (h : fitsL S.logs.length (s :: l)) : S.Fits s := ⟨h.1, h.2.1, h.2.2.1⟩
theorem logs_undo (S : WS) (s : Stp) : (S.undo s).logs = if s.kind = 5 then S.logs.take s.n.toNat else S.logs := by
  unfold WS.undo
  (repeat' split) <;> first | rfl | omega
theorem fitsL.tail {S : WS} {s : Stp} {l : List Stp} (h : fitsL S.logs.length (s :: l)) : fitsL (S.undo s).logs.length l := by
  obtain ⟨_, _, h3, h4⟩ := h
  rw [logs_undo]
  by_cases hk : s.kind = 5
  · rw [if_pos hk] at h4 ⊢
    rw [List.length_take, Nat.min_eq_left (h3 hk).2]; exact h4
  · rw [if_neg hk] at h4 ⊢; exact h4
theorem fitsL.front : ∀ {l l2 : List Stp} {n : Nat}, fitsL n (l ++ l2) → fitsL n l
  | [], _, _, _ => trivial
  | _ :: _, _, _, h => ⟨h.1, h.2.1, h.2.2.1, fitsL.front h.2.2.2⟩
theorem fitsL.undos : ∀ {l l2 : List Stp} {S : WS}, fitsL S.logs.length (l ++ l2) → fitsL (S.undos l).logs.length l2
  | [], _, _, h => h
  | s :: l, l2, S, h => by
    show fitsL ((S.undo s).undos l).logs.length l2
    exact fitsL.undos (fitsL.tail h)
theorem undos_append : ∀ (l l2 : List Stp) (S : WS), S.undos (l ++ l2) = (S.undos l).undos l2
  | [], _, _ => rfl
  | s :: l, l2, S => undos_append l l2 (S.undo s)
theorem undo_journal (S : WS) (s : Stp) : (S.undo s).journal = S.journal ∧ (S.undo s).marks = S.marks ∧ (S.undo s).next = S.next ∧ (S.undo s).orig = S.orig := by
  unfold WS.undo
  (repeat' split) <;> exact ⟨rfl, rfl, rfl, rfl⟩
theorem undos_journal : ∀ (l : List Stp) (S : WS), (S.undos l).journal = S.journal ∧ (S.undos l).marks = S.marks ∧ (S.undos l).next = S.next ∧ (S.undos l).orig = S.orig
  | [], S => ⟨rfl, rfl, rfl, rfl⟩
  | s :: l, S => by
    have h1 := undos_journal l (S.undo s)
    have h2 := undo_journal S s
    show ((S.undo s).undos l).journal = _ ∧ _
    exact ⟨h1.1.trans h2.1, h1.2.1.trans h2.2.1, h1.2.2.1.trans h2.2.2.1, h1.2.2.2.trans h2.2.2.2⟩
/-- Back to the k-th mark, which lies behind n steps -/
def WS.back (S : WS) (k n : Nat) : WS := { S.undos (S.journal.drop n).reverse with journal := S.journal.take n, marks := S.marks.take k }
end Go.Am

set_option linter.unusedSimpArgs false
set_option linter.unusedVariables false
/- A walk that begins with a dead block more. -/
namespace Go.Am
open Go Go.Proofs
theorem ACalls.of_ay1 {P : Program} {F : FuncId} {fn : Func} {c : Code} (hf : P.funcs[F]? = some fn) (hb : fn.body = some c) {n : Nat} (hn : fn.ntmps = n) {args : List Value} {h : AH} {R : Value → AH → Prop} (inh : ∃ v h', R v h')
    (ha : ay P h c (apost P h fn R) (args ++ List.replicate (n - args.length) undef).toArray (h ++ [.dead])) : ACalls P F args.toArray h R := by
  subst hn
  refine ACalls.of_awp hf hb inh (AWP.ease Eases.ghost (ay_sound c _ _ _ ?_))
  have e : (args.toArray ++ Array.replicate (fn.ntmps - args.toArray.size) undef) = (args ++ List.replicate (fn.ntmps - args.length) undef).toArray := by
    simp
  rw [e]
  exact ha
/-- a grown row becomes a value at a function's end -/
theorem apost_froz {P : Program} {h0 H : AH} {fn : Func} {R : Value → AH → Prop} {α : Type} {enc : α → List Value} {m q k : Nat} {l : List α} (hr : fn.results = #[.tmp k]) (hm : ∀ x, (enc x).length = m) (hb : H[q]? = some (outO enc m l)) (hR : R (slV enc (Sl.app l)) (H.set q .dead)) {fr : List Value} (hv : fr.getD k junk = outV q l) :
    apost P h0 fn R .ret fr.toArray H :=
  ⟨outV q l, slV enc (Sl.app l), H.set q .dead, by rw [aresults_tmp hr, getD_lit, hv], Eases.freeze (a1 := #[slV enc (Sl.app l)]) (HFz.set (b := q)) rfl (fun i => by
    cases i with
    | zero => exact Rf.outV hb (List.getElem?_set_self (List.getElem?_eq_some_iff.1 hb).1) hm
    | succ i => simp; exact .same _), hR⟩
end Go.Am

set_option linter.unusedSimpArgs false
set_option linter.unusedVariables false
/- A world made of accounts. -/
namespace Go.Am
open Go Go.Proofs Go.Am.D
/-- a transaction begins, in a world of which two maps are known -/
theorem begun0_at {P : Program} {tA tP : TypeId} {H : AH} {b : Nat} {c : Array Value} {mA mS : MB} {f : Addr20 → Option Acc} {g : Plc → Option Word4} (hb : H[b]? = some (.cells c 0 true)) (hA : H[mA.b]? = some (.map tA mA.es mA.ck)) (hS : H[mS.b]? = some (.map tP mS.es mS.ck)) (hne : mA.b ≠ mS.b)
    (fA : MFun P tA keyAddr encAccV mA.es mA.ck f) (fS : MFun P tP keyPlc encWordV mS.es mS.ck g)
    (kA : ∀ x : Addr20, Am.keyed P tA (keyAddr x) = true) (kP : ∀ x : Plc, Am.keyed P tP (keyPlc x) = true) (yA : keyTy P tA = true) (yP : keyTy P tP = true)
    {b1 b2 b3 b4 : Nat} (f1 : Fresh H b1) (f2 : Fresh (hset H b1 (.map tA #[] 0)) b2) (f3 : Fresh (hset (hset H b1 (.map tA #[] 0)) b2 (.map tP #[] 0)) b3) (f4 : Fresh (hset (hset (hset H b1 (.map tA #[] 0)) b2 (.map tP #[] 0)) b3 (.map tP #[] 0)) b4) :
    ∃ I', WAt P tA tP ((hset (hset (hset (hset H b1 (.map tA #[] 0)) b2 (.map tP #[] 0)) b3 (.map tP #[] 0)) b4 (.map tA #[] 0)).set b (.cells #[.map (some mA.b), .map (some mS.b), .map (some b1), .map (some b2), .map (some b3), .map (some b4), .int .i64 0, .slice none 0 0, .slice none 0 0, .slice none 0 0, .int .i64 0] 0 true)) I'
        ⟨f, g, fun _ => none, fun _ => none, fun _ => none, fun _ => none, 0, [], [], [], 0⟩ ∧
      Rest [b] H ((hset (hset (hset (hset H b1 (.map tA #[] 0)) b2 (.map tP #[] 0)) b3 (.map tP #[] 0)) b4 (.map tA #[] 0)).set b (.cells #[.map (some mA.b), .map (some mS.b), .map (some b1), .map (some b2), .map (some b3), .map (some b4), .int .i64 0, .slice none 0 0, .slice none 0 0, .slice none 0 0, .int .i64 0] 0 true)) ∧
      Gets [b, mA.b, mS.b] H I'.own ∧ I'.b = b := by
  have nb1 : b ≠ mA.b := fun e => by rw [e, hA] at hb; cases hb
  have nb2 : b ≠ mS.b := fun e => by rw [e, hS] at hb; cases hb
  have h0 : Holds H [(b, .cells c 0 true), mA.obj tA, mS.obj tP] := ⟨fun p hp => by
    simp only [List.mem_cons, List.not_mem_nil, or_false] at hp
    rcases hp with rfl | rfl | rfl
    · exact hb
    · exact hA
    · exact hS, by simp [MB.obj, nb1, nb2, hne], fun p hp => by
    simp only [List.mem_cons, List.not_mem_nil, or_false] at hp
    rcases hp with rfl | rfl | rfl <;> rfl⟩
  have h4 := (((h0.hnew (o := .map tA #[] 0) f1 rfl).hnew (o := .map tP #[] 0) f2 rfl).hnew (o := .map tP #[] 0) f3 rfl).hnew (o := .map tA #[] 0) f4 rfl
  have h5 := h4.put (b := b) (o := .cells #[.map (some mA.b), .map (some mS.b), .map (some b1), .map (some b2), .map (some b3), .map (some b4), .int .i64 0, .slice none 0 0, .slice none 0 0, .slice none 0 0, .int .i64 0] 0 true) (by simp [Lay.own]) rfl
  have nd := h4.nd
  simp only [List.map_cons, List.map_nil, MB.obj, List.nodup_cons, List.mem_cons, List.not_mem_nil, or_false, not_or] at nd
  obtain ⟨n4, n3, n2, n1, nb, _⟩ := nd
  refine ⟨⟨b, mA, mS, ⟨b1, #[], 0⟩, ⟨b2, #[], 0⟩, ⟨b3, #[], 0⟩, ⟨b4, #[], 0⟩, none, none, none⟩, ⟨?_, fA, fS, MFun.empty yA kA keyAddr_inj, MFun.empty yP kP keyPlc_inj, MFun.empty yP kP keyPlc_inj, MFun.empty yA kA keyAddr_inj, rfl, rfl, rfl⟩, ?_, ?_, rfl⟩
  · refine h5.perm ?_
    have ha1 : ¬ mA.b = b := fun e => nb.1 e.symm
    have ha2 : ¬ mS.b = b := fun e => nb.2 e.symm
    simp only [Lay.put, List.map_cons, List.map_nil, MB.obj, if_neg n4.2.2.2.1, if_neg n3.2.2.1, if_neg n2.2.1, if_neg n1.1, if_neg ha1, if_neg ha2, if_true]
    simp only [WI.lay, MB.obj, Row.lay, WI.cells, Row.val, List.append_nil]
    exact (List.perm_append_comm (l₁ := [(b, _), (mA.b, _), (mS.b, _)]) (l₂ := [(b1, _), (b2, _), (b3, _), (b4, _)])).trans (List.Perm.append_right _ (List.reverse_perm _).symm)
  · have r1 : Rest [b] H (hset H b1 (.map tA #[] 0)) := Rest.hset f1
    have r2 := r1.trans (Rest.hset (O := [b]) (o := .map tP #[] 0) f2) (Gets.refl _ _)
    have r3 := r2.trans (Rest.hset (O := [b]) (o := .map tP #[] 0) f3) (Gets.refl _ _)
    have r4 := r3.trans (Rest.hset (O := [b]) (o := .map tA #[] 0) f4) (Gets.refl _ _)
    exact r4.trans (Rest.set (O := [b]) (by simp)) (Gets.refl _ _)
  · have g2 := (fresh_back f1 rfl f2).2
    have g3 := (fresh_back f1 rfl (fresh_back f2 rfl f3).2).2
    have g4 := (fresh_back f1 rfl (fresh_back f2 rfl (fresh_back f3 rfl f4).2).2).2
    intro i hi
    simp only [WI.own, Row.lay, Lay.own, List.map_nil, List.append_nil, List.mem_cons, List.not_mem_nil, or_false] at hi
    rcases hi with rfl | rfl | rfl | rfl | rfl | rfl | rfl
    · exact .inl (by simp)
    · exact .inl (by simp)
    · exact .inl (by simp)
    · exact .inr f1
    · exact .inr g2
    · exact .inr g3
    · exact .inr g4
/-- an account's row of cells, its slices whatever they are -/
def encEntV (e : Ent) (vc vs : Value) : List Value := encAddr e.addr ++ (.int .u64 e.nonce.toNat :: (encWord e.bal ++ [vc, vs]))
theorem length_encEntV (e : Ent) (vc vs : Value) : (encEntV e vc vs).length = 27 := by simp [encEntV, length_encAddr, length_encWord]
/-- blocks that are axs they were -/
def Agr (O : List Nat) (H H' : AH) : Prop := ∀ i ∈ O, H'[i]? = H[i]?
theorem Agr.refl (O : List Nat) (H : AH) : Agr O H H := fun _ _ => rfl
/-- a slice of structs, read -/
structure RdS {α : Type} (P : Program) (T Te : TypeId) (enc : α → List Value) (H : AH) (O : List Nat) (v : Value) (l : List α) : Prop where
  len : ∀ H', Agr O H H' → alen P H' T v = some (.int .i64 (l.length : Nat))
  at_ : ∀ H', Agr O H H' → ∀ (i : Nat) (hi : i < l.length), ∃ p, aindexAddr P T v (.int .i64 ((i : Nat) : Int)) = some p ∧ aload P H' Te p = some (.agg (enc l[i]).toArray)
/-- an account that is read -/
structure EntIn (P : Program) (tS tSe tB tStr : TypeId) (H : AH) (O : List Nat) (vc vs : Value) (e : Ent) : Prop where
  code : ∀ H', Agr O H H' → aconvert P H' tB tStr vc = some (.string (bs e.code.l), H')
  slots : RdS P tS tSe encSlt H O vs e.slots.l
/-- accounts that are read -/
structure EntsIn (P : Program) (tE tEe tS tSe tB tStr : TypeId) (H : AH) (O : List Nat) (v : Value) (L : List Ent) : Prop where
  len : ∀ H', Agr O H H' → alen P H' tE v = some (.int .i64 (L.length : Nat))
  at_ : ∀ H', Agr O H H' → ∀ (i : Nat) (hi : i < L.length), ∃ p vc vs, aindexAddr P tE v (.int .i64 ((i : Nat) : Int)) = some p ∧ aload P H' tEe p = some (.agg (encEntV L[i] vc vs).toArray) ∧ EntIn P tS tSe tB tStr H O vc vs L[i]
/-- the accounts of a new world -/
def newAll (L : List Ent) : Addr20 → Option Acc := L.foldl (fun f e y => if y = e.addr then some ⟨e.nonce, e.bal, e.code.l⟩ else f y) (fun _ => none)
def putSlots (a : Addr20) (g : Plc → Option Word4) (l : List Slt) : Plc → Option Word4 := l.foldl (fun g s p => if p = ⟨a, s.key⟩ then some s.val else g p) g
def newSlots (L : List Ent) : Plc → Option Word4 := L.foldl (fun g e => putSlots e.addr (fun p => if p.addr = e.addr then none else g p) e.slots.l) (fun _ => none)
def WS.new (L : List Ent) : WS := ⟨newAll L, newSlots L, fun _ => none, fun _ => none, fun _ => none, fun _ => none, 0, [], [], [], 0⟩
theorem newAll_snoc (L : List Ent) (e : Ent) : newAll (L ++ [e]) = fun y => if y = e.addr then some ⟨e.nonce, e.bal, e.code.l⟩ else newAll L y := by simp [newAll]
theorem newSlots_snoc (L : List Ent) (e : Ent) : newSlots (L ++ [e]) = putSlots e.addr (fun p => if p.addr = e.addr then none else newSlots L p) e.slots.l := by simp [newSlots]
theorem putSlots_snoc (a : Addr20) (g : Plc → Option Word4) (l : List Slt) (s : Slt) : putSlots a g (l ++ [s]) = fun p => if p = ⟨a, s.key⟩ then some s.val else putSlots a g l p := by simp [putSlots]
/-- what is frozen is read -/
theorem rdS_slV {P : Program} {T Te : TypeId} {α : Type} {enc : α → List Value} {m by_ : Nat} {g : Bool} (ha : slc P T = some (g, m, by_)) (ht : tyc P Te = some (true, m)) (hm : ∀ x, (enc x).length = m) (h0 : 0 < m) (s : Sl α) (H : AH) : RdS P T Te enc H [] (slV enc s) s.l := by
  refine ⟨fun H' _ => alen_slV ha, fun H' _ i hi => ⟨fp (flatV enc s.l) (i * m), ?_, ?_⟩⟩
  · rw [aindex_slV ha]
    simp only [mkIndexZ]
    rw [if_pos ⟨by omega, by omega⟩]; rfl
  · rw [aload_fp ht]
    have := loadF_part (g := true) (off := 0) (m := m) hm hi (by omega) h0
    rw [Nat.add_zero] at this
    rw [this]
    simp only [mkLoadF, Nat.zero_add]
    have hsz : (enc s.l[i]).toArray.size = m := by simp [hm]
    rw [if_pos (by omega)]
    congr 2
    rw [← hsz, Array.extract_size]
theorem RdS.agr {P : Program} {T Te : TypeId} {α : Type} {enc : α → List Value} {H H' : AH} {O : List Nat} {v : Value} {l : List α} (r : RdS P T Te enc H O v l) (a : Agr O H H') : RdS P T Te enc H' O v l :=
  ⟨fun H1 a1 => r.len H1 fun i hi => (a1 i hi).trans (a i hi), fun H1 a1 => r.at_ H1 fun i hi => (a1 i hi).trans (a i hi)⟩
theorem EntIn.agr {P : Program} {tS tSe tB tStr : TypeId} {H H' : AH} {O : List Nat} {vc vs : Value} {e : Ent} (r : EntIn P tS tSe tB tStr H O vc vs e) (a : Agr O H H') : EntIn P tS tSe tB tStr H' O vc vs e :=
  ⟨fun H1 a1 => r.code H1 fun i hi => (a1 i hi).trans (a i hi), r.slots.agr a⟩
theorem EntsIn.agr {P : Program} {tE tEe tS tSe tB tStr : TypeId} {H H' : AH} {O : List Nat} {v : Value} {L : List Ent} (r : EntsIn P tE tEe tS tSe tB tStr H O v L) (a : Agr O H H') : EntsIn P tE tEe tS tSe tB tStr H' O v L :=
  ⟨fun H1 a1 => r.len H1 fun i hi => (a1 i hi).trans (a i hi), fun H1 a1 i hi => by
    obtain ⟨p, vc, vs, h1, h2, h3⟩ := r.at_ H1 (fun i hi => (a1 i hi).trans (a i hi)) i hi
    exact ⟨p, vc, vs, h1, h2, h3.agr a⟩⟩
theorem Rest.agr {O O' : List Nat} {H H' : AH} (r : Rest O' H H') (hal : ∀ i ∈ O, ∃ o, H[i]? = some o ∧ o.alive = true) (hd : ∀ i ∈ O, i ∉ O') : Agr O H H' := fun i hi => by
  obtain ⟨o, h1, h2⟩ := hal i hi
  rw [h1]; exact r.same i o h1 h2 (hd i hi)
theorem entsIn_slV {P : Program} {tE tEe tS tSe tB tStr tU : TypeId} {b1 b2 : Nat} {g1 g2 : Bool} (hE : slc P tE = some (g1, 27, b1)) (hEe : tyc P tEe = some (true, 27)) (hS : slc P tS = some (g2, 8, b2)) (hSe : tyc P tSe = some (true, 8)) (hB : P.underlying tB = some (.slice tU)) (hU : P.underlying tU = some (.int .u8)) (hStr : P.underlying tStr = some .string) (s : Sl Ent) (H : AH) :
    EntsIn P tE tEe tS tSe tB tStr H [] (slV encEnt s) s.l := by
  have r := rdS_slV hE hEe length_encEnt (by omega) s H
  refine ⟨r.len, fun H' a i hi => ?_⟩
  obtain ⟨p, h1, h2⟩ := r.at_ H' a i hi
  exact ⟨p, _, _, h1, h2, fun H'' _ => aconv_slB hB hU hStr, rdS_slV hS hSe length_encSlt (by omega) _ _⟩
theorem entV_addr (e : Ent) (vc vs : Value) : (encEntV e vc vs).toArray.extract 0 20 = (encAddr e.addr).toArray := by
  have := mid_part (a := []) (b := encAddr e.addr) (c := .int .u64 e.nonce.toNat :: (encWord e.bal ++ [vc, vs])) (n := 0) (m := 20) rfl (length_encAddr _)
  rw [← this]; simp [encEntV]
theorem entV_bal (e : Ent) (vc vs : Value) : (encEntV e vc vs).toArray.extract 21 25 = (encWord e.bal).toArray := by
  have := mid_part (a := encAddr e.addr ++ [.int .u64 e.nonce.toNat]) (b := encWord e.bal) (c := [vc, vs]) (n := 21) (m := 4) (by simp [length_encAddr]) (length_encWord _)
  rw [← this]; simp [encEntV]
theorem entV_20 (e : Ent) (vc vs : Value) : (encEntV e vc vs)[20]? = some (.int .u64 e.nonce.toNat) := by simp [encEntV, List.getElem?_append, length_encAddr, length_encWord]
theorem entV_25 (e : Ent) (vc vs : Value) : (encEntV e vc vs)[25]? = some vc := by simp [encEntV, List.getElem?_append, length_encAddr, length_encWord]
theorem entV_26 (e : Ent) (vc vs : Value) : (encEntV e vc vs)[26]? = some vs := by simp [encEntV, List.getElem?_append, length_encAddr, length_encWord]
theorem slt_key (s : Slt) : (encSlt s).toArray.extract 0 4 = (encWord s.key).toArray := by
  have := mid_part (a := []) (b := encWord s.key) (c := encWord s.val) (n := 0) (m := 4) rfl (length_encWord _)
  rw [← this]; simp [encSlt]
theorem slt_val (s : Slt) : (encSlt s).toArray.extract 4 8 = (encWord s.val).toArray := by
  have := mid_part (a := encWord s.key) (b := encWord s.val) (c := []) (n := 4) (m := 4) (length_encWord _) (length_encWord _)
  rw [← this]; simp [encSlt]
attribute [go_sem] length_encEntV entV_addr entV_bal entV_20 entV_25 entV_26 slt_key slt_val length_encSlt
end Go.Am

set_option linter.unusedVariables false
set_option linter.unusedSimpArgs false
/- Regions that draw their order, where a store may go ahead of a load of another place. -/
namespace Go.Am.W
open Go Go.Am
/-- a look-up in a short table -/
def lk {α : Type} : List (Nat × α) → Nat → Option α
  | [], _ => none
  | (k, v) :: r, n => bif k == n then some v else lk r n
theorem lk_nil {α : Type} {n : Nat} : lk ([] : List (Nat × α)) n = none := rfl
theorem lk_cons {α : Type} {k n : Nat} {v : α} {r : List (Nat × α)} : lk ((k, v) :: r) n = bif k == n then some v else lk r n := rfl
/-- a place: block, offset, size -/
abbrev Spot := Nat × Nat × Nat
/-- the stores that may go ahead: by the number of their pointer, where they write; the loads that they may go ahead of: by their number, these stores -/
structure Hot where
  ws : List (Nat × Spot)
  ls : List (Nat × List Nat)
def Hot.foes (T : Hot) (o : Oper) : List Nat := match o.dst with
  | some d => (lk T.ls d).getD []
  | none => []
def storePtr : Op → Option Nat
  | .store _ (.tmp p) _ => some p
  | _ => none
/-- may this store go ahead of this load? -/
def isHot (T : Hot) (x i : Oper) : Bool := match storePtr i.op with
  | some p => (T.foes x).contains p && (lk T.ws p).isSome
  | none => false
/-- a load of another place -/
def Disj (P : Program) (t : TypeId) (v : Value) (r : Spot) : Prop := match v with
  | .pointer (some ⟨b, o, none⟩) => ∃ g n, tyc P t = some (g, n) ∧ 0 < n ∧ (b ≠ r.1 ∨ o + n ≤ r.2.1 ∨ r.2.1 + r.2.2 ≤ o)
  | _ => True
/-- what must be known of an operation's operands -/
def Side (P : Program) (T : Hot) (ρ : Operand → Value) (o : Oper) : Prop := match o.op with
  | .load t p => ∀ q ∈ T.foes o, ∀ r, lk T.ws q = some r → Disj P t (ρ p) r
  | .store t (.tmp q) _ => ∀ r, lk T.ws q = some r → ρ (.tmp q) = .pointer (some ⟨r.1, r.2.1, none⟩) ∧ ∃ g, tyc P t = some (g, r.2.2)
  | _ => True
theorem side_congr {P : Program} {T : Hot} {ρ ρ' : Operand → Value} {o : Oper} (hρ : ∀ x ∈ o.op.operands, ρ x = ρ' x) : Side P T ρ o = Side P T ρ' o := by
  obtain ⟨dst, op, type, pos, after, guard⟩ := o
  unfold Side
  cases op with
  | load t p =>
    have := hρ p (by simp [Op.operands])
    simp only [this]
  | store t p v =>
    have := hρ p (by simp [Op.operands])
    cases p with
    | tmp q => simp only [this]
    | _ => rfl
  | _ => rfl
theorem side_at {P : Program} {T : Hot} {ops : Array Oper} {a : Array Value} {x i : Oper} (hap : x.apart ops i = true) (v : Value) : Side P T (aeval P (aput a x.dst v)) i = Side P T (aeval P a) i :=
  side_congr fun y hy => aeval_aput fun d hd' hxd => (Oper.apart_spec hap).1 d hd' (by
    subst hxd
    exact List.mem_append_left _ (List.mem_filterMap.2 ⟨.tmp d, by simpa using hy, rfl⟩))
theorem side_at' {P : Program} {T : Hot} {ops : Array Oper} {a : Array Value} {x i : Oper} (hap : x.apart ops i = true) (v : Value) : Side P T (aeval P (aput a i.dst v)) x = Side P T (aeval P a) x :=
  side_congr fun y hy => aeval_aput fun d hd' hxd => (Oper.apart_spec hap).2.2 d hd' (by
    subst hxd
    exact List.mem_append_left _ (List.mem_filterMap.2 ⟨.tmp d, by simpa using hy, rfl⟩))
/-- axs it was, but for these places -/
def Off (E : List Spot) (H0 h : AH) : Prop := ∀ (b : Nat) (o : AObj), H0[b]? = some o → h[b]? = some o ∨
  ∃ c c' es rw, o = .cells c es rw ∧ h[b]? = some (.cells c' es rw) ∧ c'.size = c.size ∧ ∀ j : Nat, (∀ r ∈ E, ¬ (r.1 = b ∧ r.2.1 ≤ j ∧ j < r.2.1 + r.2.2)) → c'[j]? = c[j]?
theorem Off.of_pres {E : List Spot} {H0 h : AH} (hp : Pres H0 h) : Off E H0 h := fun b o hb => .inl (by rw [hp b (List.getElem?_eq_some_iff.1 hb).1]; exact hb)
theorem get_blit : ∀ (vs : List Value) (c : Array Value) (o j : Nat), ¬ (o ≤ j ∧ j < o + vs.length) → (blit c o vs)[j]? = c[j]?
  | [], c, o, j, _ => rfl
  | v :: r, c, o, j, hj => by
    simp only [List.length_cons] at hj
    rw [Am.blit, get_blit r _ _ _ (by omega), Array.getElem?_setIfInBounds_ne (by omega)]
theorem Off.store {P : Program} {E : List Spot} {H0 h h1 : AH} (hp : Off E H0 h) {t : TypeId} {v : Value} {r : Spot} {g : Bool} (ht : tyc P t = some (g, r.2.2)) (ha : astore P h t (.pointer (some ⟨r.1, r.2.1, none⟩)) v = some h1) : Off (r :: E) H0 h1 := by
  obtain ⟨rb, ro, rn⟩ := r
  obtain ⟨d, i, hu, hi, h2, h3⟩ := tyc_spec ht
  simp only at hi ha ht h2 h3
  unfold astore at ha
  simp only [hi] at ha
  split at ha
  case h_2 => cases ha
  rename_i c es hb
  split at ha
  case isFalse => cases ha
  rename_i hc
  obtain ⟨c1, c2, c3⟩ := hc
  cases ha
  have hlt : rb < h.length := (List.getElem?_eq_some_iff.1 hb).1
  have hlen : v.cells.toList.length = rn := by simp; omega
  intro b o ho
  by_cases he : rb = b
  · subst he
    rw [List.getElem?_set_self hlt]
    rcases hp rb o ho with h4 | ⟨c0, c', es', rw', rfl, h5, h6, h7⟩
    · rw [hb] at h4
      cases h4
      refine .inr ⟨c, _, es, true, rfl, rfl, size_blit _ _ _, fun j hj => get_blit _ _ _ _ ?_⟩
      have := hj (rb, ro, rn) (by simp)
      rw [hlen]; exact fun hh => this ⟨rfl, hh.1, hh.2⟩
    · rw [hb] at h5
      cases h5
      refine .inr ⟨c0, _, es, true, rfl, rfl, by rw [size_blit]; exact h6, fun j hj => ?_⟩
      rw [get_blit _ _ _ _ (by
        have := hj (rb, ro, rn) (by simp)
        rw [hlen]; exact fun hh => this ⟨rfl, hh.1, hh.2⟩)]
      exact h7 j fun r hr => hj r (List.mem_cons_of_mem _ hr)
  · rw [List.getElem?_set_ne he]
    rcases hp b o ho with h4 | ⟨c0, c', es', rw', rfl, h5, h6, h7⟩
    · exact .inl h4
    · exact .inr ⟨c0, c', es', rw', rfl, h5, h6, fun j hj => h7 j fun r hr => hj r (List.mem_cons_of_mem _ hr)⟩
/-- a load of a place that was not written -/
theorem load_off {P : Program} {E : List Spot} {H0 h : AH} (hp : Off E H0 h) {t : TypeId} {v u : Value} (hd : ∀ r ∈ E, Disj P t v r) (ha : aload P H0 t v = some u) : aload P h t v = some u := by
  have other : (∀ b o, v ≠ .pointer (some ⟨b, o, none⟩)) → aload P h t v = some u := fun hv => by
    unfold aload at ha ⊢
    split at ha
    · rename_i b o; exact absurd rfl (hv b o)
    · exact ha
    · cases ha
  by_cases hv : ∃ b o, v = .pointer (some ⟨b, o, none⟩)
  case neg => exact other fun b o e => hv ⟨b, o, e⟩
  obtain ⟨b, o, rfl⟩ := hv
  have hb : ∃ c es rw, H0[b]? = some (.cells c es rw) := by
    unfold aload at ha
    simp only at ha
    split at ha
    · rename_i c es rw hb; exact ⟨c, es, rw, hb⟩
    · cases ha
  obtain ⟨c, es, rw', hb⟩ := hb
  rcases hp b _ hb with h1 | ⟨c0, c', es', rw2, e, h1, h2, h3⟩
  · unfold aload at ha ⊢
    simp only [hb] at ha
    simp only [h1]
    exact ha
  · cases e
    by_cases hE : E = []
    · subst hE
      have : c' = c := Array.ext_getElem? fun j => h3 j fun r hr => by cases hr
      subst this
      unfold aload at ha ⊢
      simp only [hb] at ha
      simp only [h1]
      exact ha
    · obtain ⟨r0, hr0⟩ := List.exists_mem_of_ne_nil E hE
      obtain ⟨g, n, ht, hn, _⟩ := hd r0 hr0
      have hj : ∀ j : Nat, o ≤ j → j < o + n → c'[j]? = c[j]? := fun j j1 j2 => h3 j fun r hr hh => by
        obtain ⟨g', n', ht', _, hx⟩ := hd r hr
        rw [ht] at ht'
        cases ht'
        obtain ⟨q1, q2, q3⟩ := hh
        rcases hx with hx | hx | hx
        · exact hx q1.symm
        · omega
        · omega
      rw [aload_eq ht] at ha ⊢
      rw [hb] at ha
      rw [h1]
      cases g with
      | true =>
        simp only [mkLoad] at ha ⊢
        rw [h2]
        split at ha
        · rename_i hle
          rw [if_pos hle, ← ha]
          congr 2
          apply Array.ext_getElem?
          intro i
          simp only [Array.getElem?_extract, h2]
          split
          · exact hj _ (by omega) (by omega)
          · rfl
        · cases ha
      | false =>
        simp only [mkLoad] at ha ⊢
        rw [hj o (Nat.le_refl _) (by omega)]; exact ha
theorem vop_off {P : Program} {T : Hot} {ρ : Operand → Value} {E : List Spot} {H0 h : AH} (hp : Off E H0 h) {o : Oper} (hl : isLoad o.op = true) (hs : Side P T ρ o) (hE : ∀ r ∈ E, ∃ q ∈ T.foes o, lk T.ws q = some r) {v : Value} (ha : aop P ρ H0 o = some (.val v H0)) : aop P ρ h o = some (.val v h) := by
  have hget : ∀ (b : Nat) (x : AObj), H0[b]? = some x → (∀ c es rw, x ≠ .cells c es rw) → h[b]? = some x := fun b x hb hx => by
    rcases hp b x hb with h1 | ⟨c, c', es, rw', rfl, _⟩
    · exact h1
    · exact absurd rfl (hx _ _ _)
  obtain ⟨dst, op, type, pos, after, guard⟩ := o
  cases op <;> simp only [isLoad] at hl <;> (try (cases hl; done)) <;> simp only [aop] at ha ⊢
  case load t a =>
    obtain ⟨u, h1, h2⟩ := aval_some ha
    cases h2
    rw [load_off hp (fun r hr => by
      obtain ⟨q, hq, hq2⟩ := hE r hr
      exact hs q hq r hq2) h1]
    rfl
  case slice t x lo hi mx =>
    cases mx with
    | some m => simp [amore] at ha
    | none =>
      obtain ⟨u, h1, h2⟩ := aval_some ha
      cases h2
      have : aslice P h t (ρ x) (lo.map ρ) (hi.map ρ) = some v := by
        unfold aslice at h1 ⊢
        split at h1
        · exact h1
        · exact h1
        · rename_i e b o' len cap hu heq
          split at h1
          · rename_i ie hie
            unfold asliceS at h1
            split at h1
            · rename_i c es rw hb
              rcases hp b _ hb with h3 | ⟨c0, c', es', rw', e, h3, h4, _⟩
              · simp only [asliceS, h3]
                exact h1
              · cases e
                simp only [asliceS, h3]
                exact h1
            · cases h1
          · cases h1
        · exact h1
        · exact h1
        · exact h1
        · cases h1
      show aval h (aslice P h t (ρ x) (lo.map ρ) (hi.map ρ)) = some (.val v h)
      rw [this]; rfl
  case lookup t x i ok =>
    obtain ⟨u, h1, h2⟩ := aval_some ha
    cases h2
    have : amLookup P h t (ρ x) (ρ i) ok = some v := by
      unfold amLookup at h1 ⊢
      split at h1
      case h_2 => cases h1
      split at h1
      case h_2 => cases h1
      split at h1
      case isFalse => cases h1
      rename_i hk
      rw [if_pos hk]
      split at h1
      · exact h1
      · rename_i b hm
        split at h1
        · rename_i k' es clk hb
          simp only [hget _ _ hb (fun _ _ _ => by simp)]
          exact h1
        · cases h1
      · cases h1
    rw [this]; rfl
  case entry x =>
    obtain ⟨u, h1, h2⟩ := aval_some ha
    cases h2
    have : amEntryOf h (ρ x) = some v := by
      unfold amEntryOf at h1 ⊢
      split at h1
      case h_2 => cases h1
      split at h1
      case h_2 => cases h1
      rename_i hr
      split at h1
      case h_2 => cases h1
      rename_i hb hs
      simp only [hget _ _ hr (fun _ _ _ => by simp), hget _ _ hb (fun _ _ _ => by simp), hs]
      exact h1
    rw [this]; rfl
  case call c =>
    obtain ⟨cal, args, ts⟩ := c
    cases cal with
    | builtin b =>
      cases b <;> simp only at hl <;> (try (cases hl; done))
      change abuiltin P H0 .len ts type (args.map ρ) = _ at ha
      change abuiltin P h .len ts type (args.map ρ) = _
      unfold abuiltin at ha ⊢
      split at ha <;> (try (rename Builtin.len = _ => he; cases he; done)) <;> (try (cases ha; done))
      rename_i t x heq0 ht hx
      obtain ⟨u, h1, h2⟩ := aval_some ha
      cases h2
      have : alen P h t x = some v := by
        unfold alen at h1 ⊢
        split at h1 <;> (try exact h1)
        rename_i kt et b hu
        split at h1
        · rename_i es clk hb
          simp only [hget _ _ hb (fun _ _ _ => by simp)]
          exact h1
        · cases h1
      simp only [this]
      rfl
    | _ => cases hl
/-- Does this operation leave alone what was there, axs far axs the operations behind it read it? -/
def leaves (T : Hot) (H0 : AH) (rest : List Oper) (o : Oper) (h1 : AH) : Prop := Pres H0 h1 ∨ (isWriter o.op = true ∧ ∀ x ∈ rest, isLoad x.op = true → isHot T x o = true)
theorem leaves_none {T : Hot} {H0 h1 : AH} {rest : List Oper} {o : Oper} (hw : isWriter o.op = true) (hr : (rest.all fun x => !isLoad x.op) = true) : leaves T H0 rest o h1 := .inr ⟨hw, fun x hx hl => by
  have := List.all_eq_true.1 hr x hx
  rw [hl] at this; cases this⟩
/-- what the operations that are left may still read -/
def Wait (T : Hot) (H0 h : AH) (l : List Oper) : Prop := (∀ x ∈ l, isLoad x.op = false) ∨ ∃ E, Off E H0 h ∧ ∀ x ∈ l, isLoad x.op = true → ∀ r ∈ E, ∃ q ∈ T.foes x, lk T.ws q = some r
theorem Wait.sub {T : Hot} {H0 h : AH} {l l' : List Oper} (w : Wait T H0 h l) (hs : ∀ x ∈ l', x ∈ l) : Wait T H0 h l' := w.imp (fun k x hx => k x (hs x hx)) fun ⟨E, h1, h2⟩ => ⟨E, h1, fun x hx => h2 x (hs x hx)⟩
theorem Wait.of_pres {T : Hot} {H0 h : AH} {l : List Oper} (hp : Pres H0 h) : Wait T H0 h l := .inr ⟨[], .of_pres hp, fun x _ _ r hr => by cases hr⟩
theorem Wait.next {P : Program} {T : Hot} {ρ : Operand → Value} {H0 h h1 : AH} {l l' : List Oper} {o : Oper} (w : Wait T H0 h l) (hs : ∀ x ∈ l', x ∈ l) (hsd : Side P T ρ o) (hl : leaves T H0 l' o h1) (hop : (∃ v, aop P ρ h o = some (.val v h1)) ∨ aop P ρ h o = some (.skip h1)) : Wait T H0 h1 l' := by
  rcases hl with hl | ⟨hw, hl⟩
  · exact .of_pres hl
  by_cases hex : ∃ x ∈ l', isLoad x.op = true
  · obtain ⟨x0, hx0, hlx0⟩ := hex
    have h0 := hl x0 hx0 hlx0
    unfold isHot at h0
    split at h0
    case h_2 => cases h0
    rename_i p hp
    simp only [Bool.and_eq_true] at h0
    obtain ⟨_, hsome⟩ := h0
    cases hr : lk T.ws p with
    | none => rw [hr] at hsome; cases hsome
    | some r =>
      rcases w with w | ⟨E, hE, hEl⟩
      · have := w x0 (hs x0 hx0)
        rw [hlx0] at this; cases this
      refine .inr ⟨r :: E, ?_, fun x hx hlx r' hr' => ?_⟩
      · obtain ⟨dst, op, type, pos, after, guard⟩ := o
        unfold storePtr at hp
        simp only at hp
        split at hp
        case h_2 => cases hp
        rename_i t p' v
        cases hp
        obtain ⟨e1, g, e2⟩ := hsd r hr
        have e3 : aop P ρ h ⟨dst, .store t (.tmp p) v, type, pos, after, guard⟩ = askip (astore P h t (ρ (.tmp p)) (ρ v)) := rfl
        rw [e3, e1] at hop
        cases ha : astore P h t (.pointer (some ⟨r.1, r.2.1, none⟩)) (ρ v) with
        | none => rw [ha] at hop; rcases hop with ⟨v', hop⟩ | hop <;> cases hop
        | some h2 =>
          rw [ha] at hop
          rcases hop with ⟨v', hop⟩ | hop
          · cases hop
          · cases hop
            exact hE.store e2 ha
      · rcases List.mem_cons.1 hr' with rfl | hr'
        · have h3 := hl x hx hlx
          unfold isHot at h3
          rw [hp] at h3
          simp only [Bool.and_eq_true] at h3
          exact ⟨p, by simpa using h3.1, hr⟩
        · exact hEl x (hs x hx) hlx r' hr'
  · exact .inl fun x hx => by
      cases h1 : isLoad x.op with
      | false => rfl
      | true => exact absurd ⟨x, hx, h1⟩ hex
/-- operations in the order of the text, such that any order that their edges allow comes to the same -/
def awd (P : Program) (T : Hot) (ops : Array Oper) (H0 : AH) (Q : Exit → Array Value → AH → Prop) : List Oper → Array Value → AH → Prop
  | [], a, h => Q .normal a h
  | o :: rest, a, h =>
    match gval ops a o with
    | some false => awd P T ops H0 Q rest (aput a o.dst undef) h
    | some true => Side P T (aeval P a) o ∧
      (if isV P o.op then (match aop P (aeval P a) H0 o with
        | some (.val v _) => awd P T ops H0 Q rest (aput a o.dst v) h
        | _ => False)
      else match aop P (aeval P a) h o with
      | some (.val v h1) => leaves T H0 rest o h1 ∧ awd P T ops H0 Q rest (aput a o.dst v) h1
      | some (.skip h1) => leaves T H0 rest o h1 ∧ awd P T ops H0 Q rest (aput a o.dst undef) h1
      | some (.enter F args) => ∃ R, ACalls P F args h R ∧ Calm P ops F args h R ∧ ∀ v h1, R v h1 → Pres H0 h1 ∧ awd P T ops H0 Q rest (aput a o.dst v) h1
      | _ => False)
    | none => False
/-- may these two (x ahead of i in the text) be carried out in either order? -/
def swapOk (P : Program) (T : Hot) (ops : Array Oper) (x i : Oper) : Bool :=
  x.apart ops i && (((isV P x.op || isV P i.op) && !(isLoad x.op && isWriter i.op && !isHot T x i) && !(isWriter x.op && isLoad i.op && !isHot T i x)) ||
    (isAlloc i.op && i.guard.isNone && isFn P x.op && hasAlloc ops))
/-- what one operation does to the frame and the heap, in such a region; 'K' for what follows -/
def awd1 (P : Program) (T : Hot) (ops : Array Oper) (H0 : AH) (rest : List Oper) (K : Array Value → AH → Prop) (o : Oper) (a : Array Value) (h : AH) : Prop :=
    match gval ops a o with
    | some false => K (aput a o.dst undef) h
    | some true => Side P T (aeval P a) o ∧
      (if isV P o.op then (match aop P (aeval P a) H0 o with
        | some (.val v _) => K (aput a o.dst v) h
        | _ => False)
      else match aop P (aeval P a) h o with
      | some (.val v h1) => leaves T H0 rest o h1 ∧ K (aput a o.dst v) h1
      | some (.skip h1) => leaves T H0 rest o h1 ∧ K (aput a o.dst undef) h1
      | some (.enter F args) => ∃ R, ACalls P F args h R ∧ Calm P ops F args h R ∧ ∀ v h1, R v h1 → Pres H0 h1 ∧ K (aput a o.dst v) h1
      | _ => False)
    | none => False
theorem awd_cons {P : Program} {T : Hot} {ops : Array Oper} {H0 : AH} {Q : Exit → Array Value → AH → Prop} {o : Oper} {rest : List Oper} {a : Array Value} {h : AH} : awd P T ops H0 Q (o :: rest) a h = awd1 P T ops H0 rest (awd P T ops H0 Q rest) o a h := rfl
theorem awd1_map {P : Program} {T : Hot} {ops : Array Oper} {H0 : AH} {rest rest' : List Oper} {K K' : Array Value → AH → Prop} {o : Oper} {a a' : Array Value} {h : AH} (hg : gval ops a' o = gval ops a o) (ha : ∀ h, aop P (aeval P a') h o = aop P (aeval P a) h o) (hs : Side P T (aeval P a') o = Side P T (aeval P a) o)
    (hl : ∀ h1, leaves T H0 rest o h1 → leaves T H0 rest' o h1) (hk : ∀ v h1, K (aput a o.dst v) h1 → K' (aput a' o.dst v) h1) (H : awd1 P T ops H0 rest K o a h) : awd1 P T ops H0 rest' K' o a' h := by
  unfold awd1 at H ⊢
  rw [hg, ha H0, ha h, hs]
  split at H
  · exact hk _ _ H
  · obtain ⟨hsd, H⟩ := H
    refine ⟨hsd, ?_⟩
    split at H
    · rename_i hv
      simp only [hv, if_true]
      split at H
      · exact hk _ _ H
      · exact H.elim
    · rename_i hv
      simp only [hv, Bool.false_eq_true, if_false]
      split at H
      · exact ⟨hl _ H.1, hk _ _ H.2⟩
      · exact ⟨hl _ H.1, hk _ _ H.2⟩
      · obtain ⟨R, hc, hcm, hR⟩ := H
        exact ⟨R, hc, hcm, fun v h1 hr => ⟨(hR v h1 hr).1, hk _ _ (hR v h1 hr).2⟩⟩
      · exact H.elim
  · exact H.elim
theorem awd1_some {P : Program} {T : Hot} {ops : Array Oper} {H0 : AH} {rest : List Oper} {K : Array Value → AH → Prop} {o : Oper} {a : Array Value} {h : AH} (H : awd1 P T ops H0 rest K o a h) : ∃ v h1, K (aput a o.dst v) h1 := by
  unfold awd1 at H
  split at H
  · exact ⟨_, _, H⟩
  · obtain ⟨_, H⟩ := H
    split at H
    · split at H
      · exact ⟨_, _, H⟩
      · exact H.elim
    · split at H
      · exact ⟨_, _, H.2⟩
      · exact ⟨_, _, H.2⟩
      · obtain ⟨R, hc, _, hR⟩ := H
        obtain ⟨v, h1, hr⟩ := hc.inh
        exact ⟨v, h1, (hR v h1 hr).2⟩
      · exact H.elim
  · exact H.elim
theorem awd1_v {P : Program} {T : Hot} {ops : Array Oper} {H0 : AH} {rest : List Oper} {K : Array Value → AH → Prop} {o : Oper} {a : Array Value} {h : AH} (hv : isV P o.op = true) :
    awd1 P T ops H0 rest K o a h ↔ (gval ops a o = some false ∧ K (aput a o.dst undef) h) ∨ (gval ops a o = some true ∧ Side P T (aeval P a) o ∧ ∃ u h2, aop P (aeval P a) H0 o = some (.val u h2) ∧ K (aput a o.dst u) h) := by
  unfold awd1
  constructor
  · intro H
    split at H
    · rename_i hg; exact .inl ⟨hg, H⟩
    · rename_i hg
      obtain ⟨hsd, H⟩ := H
      rw [if_pos hv] at H
      split at H
      · rename_i u h2 hu; exact .inr ⟨hg, hsd, u, h2, hu, H⟩
      · exact H.elim
    · exact H.elim
  · rintro (⟨hg, hk⟩ | ⟨hg, hsd, u, h2, hu, hk⟩)
    · rw [hg]; exact hk
    · rw [hg]
      refine ⟨hsd, ?_⟩
      simp only [hv, if_true, hu]
      exact hk
theorem side_alloc {P : Program} {T : Hot} {ρ : Operand → Value} {o : Oper} (h : isAlloc o.op = true) : Side P T ρ o := by
  obtain ⟨dst, op, type, pos, after, guard⟩ := o
  cases op <;> first | trivial | (simp [isAlloc] at h)
theorem side_fn {P : Program} {T : Hot} {ρ : Operand → Value} {o : Oper} (h : isFn P o.op = true) : Side P T ρ o := by
  obtain ⟨dst, op, type, pos, after, guard⟩ := o
  cases op <;> first | trivial | (simp [isFn] at h)
theorem swap_v_any {P : Program} {T : Hot} {ops : Array Oper} {H0 : AH} {K : Array Value → AH → Prop} {x i : Oper} {l : List Oper} {a : Array Value} {h : AH} (hap : x.apart ops i = true) (hi : isV P i.op = true) (hw : (isWriter x.op && isLoad i.op && !isHot T i x) = false)
    (H : awd1 P T ops H0 (i :: l) (awd1 P T ops H0 l K i) x a h) : awd1 P T ops H0 (x :: l) (awd1 P T ops H0 l K x) i a h := by
  have hlv : ∀ h1, leaves T H0 (i :: l) x h1 → leaves T H0 l x h1 := fun h1 hl => hl.imp id fun ⟨h2, h3⟩ => ⟨h2, fun y hy => h3 y (List.mem_cons_of_mem _ hy)⟩
  rw [awd1_v hi]
  obtain ⟨v0, h10, hw0⟩ := awd1_some H
  rw [awd1_v hi, gval_at hap, aop_at hap, side_at hap] at hw0
  rcases hw0 with ⟨hg, _⟩ | ⟨hg, hsd, u, h2, hu, _⟩
  · refine .inl ⟨hg, awd1_map (gval_at' hap _) (fun _ => aop_at' hap _) (side_at' hap _) hlv (fun v h1 hk => ?_) H⟩
    rw [awd1_v hi, gval_at hap, aop_at hap, side_at hap] at hk
    rcases hk with ⟨_, hk⟩ | ⟨hg2, _⟩
    · rw [← aput_at hap]; exact hk
    · rw [hg] at hg2; cases hg2
  · refine .inr ⟨hg, hsd, u, h2, hu, awd1_map (gval_at' hap _) (fun _ => aop_at' hap _) (side_at' hap _) hlv (fun v h1 hk => ?_) H⟩
    rw [awd1_v hi, gval_at hap, aop_at hap, side_at hap] at hk
    rcases hk with ⟨hg2, _⟩ | ⟨_, _, u2, h3, hu2, hk⟩
    · rw [hg] at hg2; cases hg2
    · rw [hu] at hu2; cases hu2; rw [← aput_at hap]; exact hk
theorem swap_any_v {P : Program} {T : Hot} {ops : Array Oper} {H0 : AH} {K : Array Value → AH → Prop} {x i : Oper} {l : List Oper} {a : Array Value} {h : AH} (hap : x.apart ops i = true) (hx : isV P x.op = true) (hw : (isLoad x.op && isWriter i.op && !isHot T x i) = false)
    (H : awd1 P T ops H0 (i :: l) (awd1 P T ops H0 l K i) x a h) : awd1 P T ops H0 (x :: l) (awd1 P T ops H0 l K x) i a h := by
  have hlv : ∀ h1, leaves T H0 l i h1 → leaves T H0 (x :: l) i h1 := fun h1 hl => hl.imp id fun ⟨h2, h3⟩ => ⟨h2, fun y hy => by
    rcases List.mem_cons.1 hy with rfl | hy
    · intro hl
      simpa [h2, hl] using hw
    · exact h3 y hy⟩
  rw [awd1_v hx] at H
  rcases H with ⟨hg, H2⟩ | ⟨hg, hsd, u, h2, hu, H2⟩
  · refine awd1_map (gval_at hap _).symm (fun _ => (aop_at hap _).symm) (side_at hap _).symm hlv (fun v h1 hk => ?_) H2
    rw [awd1_v hx, gval_at' hap, aop_at' hap, side_at' hap]
    rw [aput_at hap] at hk
    exact .inl ⟨hg, hk⟩
  · refine awd1_map (gval_at hap _).symm (fun _ => (aop_at hap _).symm) (side_at hap _).symm hlv (fun v h1 hk => ?_) H2
    rw [awd1_v hx, gval_at' hap, aop_at' hap, side_at' hap]
    rw [aput_at hap] at hk
    exact .inr ⟨hg, hsd, u, h2, hu, hk⟩
theorem swap_alloc {P : Program} {T : Hot} {ops : Array Oper} {H0 : AH} {K : Array Value → AH → Prop} {x i : Oper} {l : List Oper} {a : Array Value} {h : AH} (hap : x.apart ops i = true) (hi : isAlloc i.op = true) (hg : i.guard.isNone = true) (hx : isFn P x.op = true) (hal : hasAlloc ops = true)
    (H : awd1 P T ops H0 (i :: l) (awd1 P T ops H0 l K i) x a h) : awd1 P T ops H0 (x :: l) (awd1 P T ops H0 l K x) i a h := by
  have hgi : ∀ b, gval ops b i = some true := fun b => by
    unfold gval
    cases hh : i.guard with
    | none => rfl
    | some p => rw [hh] at hg; cases hg
  obtain ⟨v1, v2, _, v4⟩ := isAlloc_val (P := P) (a := a) (a' := a) hi
  have inner : ∀ b, awd1 P T ops H0 l K i b h → ∃ p z, aop P (aeval P a) h i = some (.val p (h ++ [z])) ∧ leaves T H0 l i (h ++ [z]) ∧ K (aput b i.dst p) (h ++ [z]) := by
    intro b hb
    obtain ⟨_, _, w3, _⟩ := isAlloc_val (P := P) (a := a) (a' := b) hi
    unfold awd1 at hb
    rw [hgi, v1] at hb
    simp only [Bool.false_eq_true, if_false, w3] at hb
    replace hb := hb.2
    split at hb
    · rename_i v h1 hv
      obtain ⟨p, z, e⟩ := v4 h _ hv
      cases e
      exact ⟨_, _, hv, hb.1, hb.2⟩
    · rename_i h1 hv
      obtain ⟨p, z, e⟩ := v4 h _ hv
      cases e
    · rename_i F args hv
      obtain ⟨p, z, e⟩ := v4 h _ hv
      cases e
    · exact hb.elim
  have lift : ∀ z, leaves T H0 l i (h ++ [z]) → Pres H0 (h ++ [z]) := fun z hl => by
    rcases hl with hl | ⟨hw, _⟩
    · exact hl
    · rw [v2] at hw; cases hw
  have out : ∀ p z, aop P (aeval P a) h i = some (.val p (h ++ [z])) → leaves T H0 l i (h ++ [z]) → awd1 P T ops H0 l K x (aput a i.dst p) (h ++ [z]) → awd1 P T ops H0 (x :: l) (awd1 P T ops H0 l K x) i a h := by
    intro p z e1 e2 e3
    unfold awd1
    rw [hgi, v1]
    simp only [Bool.false_eq_true, if_false, e1]
    exact ⟨side_alloc hi, .inl (lift z e2), e3⟩
  obtain ⟨f1, F, args, f2⟩ := isFn_enter (P := P) (a := a) hx
  unfold awd1 at H
  split at H
  · rename_i hgx
    obtain ⟨p, z, e1, e2, e3⟩ := inner _ H
    refine out p z e1 e2 ?_
    unfold awd1
    rw [gval_at' hap, hgx]
    rw [aput_at hap] at e3
    exact e3
  · rename_i hgx
    rw [f1] at H
    simp only [Bool.false_eq_true, if_false, f2] at H
    obtain ⟨_, R, hc, hcm, hR⟩ := H
    rcases hcm with hcm | ⟨c1, c2⟩
    · rw [hal] at hcm; cases hcm
    obtain ⟨v0, h0, r0⟩ := hc.inh
    have hR2 : ∀ v, R v h → awd1 P T ops H0 l K i (aput a x.dst v) h := fun v hr => (hR v h hr).2
    have r0' : R v0 h := by rw [← c1 v0 h0 r0]; rw [c1 v0 h0 r0]; rw [c1 v0 h0 r0] at r0; exact r0
    obtain ⟨p, z, e1, e2, _⟩ := inner _ (hR2 v0 r0')
    refine out p z e1 e2 ?_
    unfold awd1
    rw [gval_at' hap, hgx, f1]
    simp only [Bool.false_eq_true, if_false]
    have e4 : aop P (aeval P (aput a i.dst p)) (h ++ [z]) x = some (.enter F args) := by rw [aop_at' hap]; exact f2 _
    simp only [e4]
    refine ⟨side_fn hx, fun v h1 => R v h ∧ h1 = h ++ [z], c2 [z], .inr ⟨fun v h1 hr => hr.2, fun y => ?_⟩, fun v h1 hr => ?_⟩
    · have := c2 ([z] ++ y)
      rw [← List.append_assoc] at this
      exact this.mono fun v h1 hr => ⟨⟨hr.1, rfl⟩, hr.2⟩
    · obtain ⟨hr1, rfl⟩ := hr
      obtain ⟨p', z', e1', e2', e3'⟩ := inner _ (hR2 v hr1)
      rw [e1] at e1'
      simp only [Option.some.injEq, ARes.val.injEq] at e1'
      obtain ⟨rfl, e6⟩ := e1'
      rw [e6]
      refine ⟨lift _ e2', ?_⟩
      rw [aput_at hap] at e3'
      exact e3'
  · exact H.elim
theorem awd_front {P : Program} {T : Hot} {ops : Array Oper} {H0 : AH} {Q : Exit → Array Value → AH → Prop} {i : Oper} {l2 : List Oper} (l1 : List Oper) : ∀ {a : Array Value} {h : AH}, (∀ x ∈ l1, swapOk P T ops x i = true) →
    awd P T ops H0 Q (l1 ++ i :: l2) a h → awd P T ops H0 Q (i :: (l1 ++ l2)) a h := by
  induction l1 with
  | nil => intro a h _ H; exact H
  | cons x r ih =>
    intro a h hs H
    have hx := hs x (by simp)
    simp only [swapOk, Bool.and_eq_true, Bool.not_eq_true', Bool.or_eq_true] at hx
    obtain ⟨h1, hx⟩ := hx
    have H2 : awd1 P T ops H0 (i :: (r ++ l2)) (awd1 P T ops H0 (r ++ l2) (awd P T ops H0 Q (r ++ l2)) i) x a h := by
      have H3 : awd1 P T ops H0 (r ++ i :: l2) (awd P T ops H0 Q (r ++ i :: l2)) x a h := H
      refine awd1_map rfl (fun _ => rfl) rfl (fun h1 hl => hl.imp id fun ⟨h2, h3⟩ => ⟨h2, fun y hy => h3 y (by
        simp only [List.mem_cons, List.mem_append] at hy ⊢
        rcases hy with h | h | h
        · exact .inr (.inl h)
        · exact .inl h
        · exact .inr (.inr h))⟩) (fun v h1 hk => ?_) H3
      exact ih (fun y hy => hs y (List.mem_cons_of_mem _ hy)) hk
    show awd1 P T ops H0 (x :: (r ++ l2)) (awd1 P T ops H0 (r ++ l2) (awd P T ops H0 Q (r ++ l2)) x) i a h
    rcases hx with ⟨⟨h2, h3⟩, h4⟩ | ⟨⟨⟨h2, h3⟩, h4⟩, h5⟩
    · rcases h2 with h2 | h2
      · exact swap_any_v h1 h2 h3 H2
      · exact swap_v_any h1 h2 h4 H2
    · exact swap_alloc h1 h2 h3 h4 h5 H2
def okDraw (P : Program) (T : Hot) (ops : List Oper) : Bool :=
  let d := deps ops
  (ops.zipIdx.all fun (o, i) => o.after.all fun e => !Region.binds .any e || decide (e.on < i)) &&
  ops.zipIdx.all fun (o, i) => ops.zipIdx.all fun (x, j) => !decide (j < i) || (d.getD i 0).testBit j || swapOk P T ops.toArray x o
theorem okDraw_back {P : Program} {T : Hot} {ops : List Oper} (h : okDraw P T ops = true) {i : Nat} {o : Oper} (ho : ops[i]? = some o) {e : Edge} (he : e ∈ o.after) (hb : Region.binds .any e = true) : e.on < i := by
  simp only [okDraw, Bool.and_eq_true, List.all_eq_true] at h
  have := h.1 (o, i) (by rw [List.mem_zipIdx_iff_getElem?]; exact ho)
  simp only [Array.all_eq_true_iff_forall_mem, Bool.or_eq_true, Bool.not_eq_true', decide_eq_true_eq] at this
  rcases this e he with h1 | h1
  · rw [hb] at h1; cases h1
  · exact h1
theorem okDraw_swap {P : Program} {T : Hot} {ops : List Oper} (h : okDraw P T ops = true) {i j : Nat} {o x : Oper} (ho : ops[i]? = some o) (hx : ops[j]? = some x) (hlt : j < i) : Hangs ops i j ∨ swapOk P T ops.toArray x o = true := by
  simp only [okDraw, Bool.and_eq_true, List.all_eq_true] at h
  have := h.2 (o, i) (by rw [List.mem_zipIdx_iff_getElem?]; exact ho) (x, j) (by rw [List.mem_zipIdx_iff_getElem?]; exact hx)
  simp only [Bool.or_eq_true, Bool.not_eq_true', decide_eq_false_iff_not] at this
  rcases this with (h1 | h1) | h1
  · exact absurd hlt h1
  · exact .inl ((deps_spec ops).2 i j h1)
  · exact .inr h1
theorem awd_any {P : Program} {T : Hot} {ops : List Oper} {H0 : AH} {Q : Exit → Array Value → AH → Prop} {f0 : Emb} {h0 : AH} {w0 : World} (hok : okDraw P T ops = true) (ro : Option Nat) : ∀ (fuel : Nat) (listed : Array Bool) (f : Emb) (a : Array Value) (h : AH) (a' : Act) (w : World),
    listed.size = ops.length → Closed ops listed → (left listed ops.zipIdx).length ≤ fuel → Wait T H0 h (left listed ops.zipIdx) → awd P T ops.toArray H0 Q (left listed ops.zipIdx) a h →
    Good P f0 h0 w0 f a h a' w → wpAnyIn (fenceR ro) 0 P .any ops.toArray (Lift P f0 h0 w0 Q) fuel listed a' w := by
  have hnd := zipIdx_nodup ops 0
  have hinj : ∀ p ∈ ops.zipIdx, ∀ q ∈ ops.zipIdx, p.2 = q.2 → p = q := by
    intro p hp q hq e
    rw [List.mem_zipIdx_iff_getElem?] at hp hq
    rw [e, hq] at hp
    obtain ⟨p1, p2⟩ := p
    obtain ⟨q1, q2⟩ := q
    simp only at e hp
    cases e
    cases hp
    rfl
  -- nothing ready: nothing left
  have done : ∀ (listed : Array Bool), listed.size = ops.length → Closed ops listed → Region.ready .any ops.toArray listed = [] → left listed ops.zipIdx = [] := by
    intro listed hsz hcl hr
    by_cases hx : ∃ i, i < ops.length ∧ listed.getD i false = false
    · exfalso
      obtain ⟨i, hi, hl⟩ := hx
      induction i using Nat.strongRecOn with
      | _ i ih =>
        have : i ∈ Region.ready .any ops.toArray listed ∨ ∃ j, j < i ∧ listed.getD j false = false := by
          by_cases hex : ∃ j, j < i ∧ listed.getD j false = false
          · exact .inr hex
          · left
            rw [mem_ready]
            refine ⟨?_, ops[i], by simp, fun e he hb => ?_⟩
            · have : i < listed.size := by omega
              simp only [Array.getD, this, dite_true] at hl ⊢
              exact hl
            · have hlt := okDraw_back hok (List.getElem?_eq_getElem hi) he hb
              cases hle : listed.getD e.on false with
              | true => rfl
              | false => exact absurd ⟨e.on, hlt, hle⟩ hex
        rcases this with h1 | ⟨j, hj, hjl⟩
        · rw [hr] at h1; cases h1
        · exact ih j hj (by omega) hjl
    · unfold left
      rw [List.map_eq_nil_iff, List.filter_eq_nil_iff]
      rintro ⟨o, i⟩ hm
      rw [List.mem_zipIdx_iff_getElem?] at hm
      have hi := (List.getElem?_eq_some_iff.1 hm).1
      cases hl : listed.getD i false with
      | true => simp [hl]
      | false => exact absurd ⟨i, hi, hl⟩ hx
  -- one of them goes
  have go : ∀ (fuel : Nat), (∀ (listed : Array Bool) (f : Emb) (a : Array Value) (h : AH) (a' : Act) (w : World),
      listed.size = ops.length → Closed ops listed → (left listed ops.zipIdx).length ≤ fuel → Wait T H0 h (left listed ops.zipIdx) → awd P T ops.toArray H0 Q (left listed ops.zipIdx) a h →
      Good P f0 h0 w0 f a h a' w → wpAnyIn (fenceR ro) 0 P .any ops.toArray (Lift P f0 h0 w0 Q) fuel listed a' w) →
      ∀ (listed : Array Bool) (f : Emb) (a : Array Value) (h : AH) (a' : Act) (w : World),
      listed.size = ops.length → Closed ops listed → (left listed ops.zipIdx).length ≤ fuel + 1 → Wait T H0 h (left listed ops.zipIdx) → awd P T ops.toArray H0 Q (left listed ops.zipIdx) a h →
      Good P f0 h0 w0 f a h a' w → ∀ i ∈ Region.ready .any ops.toArray listed, wpOpIn (fenceR ro) 0 P ops.toArray (Lift P f0 h0 w0 Q) i (wpAnyIn (fenceR ro) 0 P .any ops.toArray (Lift P f0 h0 w0 Q) fuel (listed.setIfInBounds i true)) a' w := by
    intro fuel ih listed f a h a' w hsz hcl hlen hpres H g i hi
    have hi0 := hi
    rw [mem_ready] at hi0
    obtain ⟨hun, o, ho, hall⟩ := hi0
    have ho' : ops[i]? = some o := by simpa using ho
    have hlt : i < ops.length := (List.getElem?_eq_some_iff.1 ho').1
    have hun' : listed.getD i false = false := by
      have : i < listed.size := by omega
      simp only [Array.getD, this, dite_true] at hun ⊢
      exact hun
    obtain ⟨l1, l2, e1, e2, e3⟩ := left_split (listed := listed) (i := i) (o := o) ops.zipIdx hinj hnd.1 (by rw [List.mem_zipIdx_iff_getElem?]; exact ho') hun' (by omega)
    have hsw : ∀ x ∈ l1, swapOk P T ops.toArray x o = true := by
      intro x hx
      obtain ⟨j, hj, hjl⟩ := e3 x hx
      obtain ⟨hji, hm⟩ := mem_takeWhile_lt ops i 0 _ hj (Nat.zero_le _)
      rw [List.mem_zipIdx_iff_getElem?] at hm
      rcases okDraw_swap hok ho' hm hji with hh | hh
      · have := ready_hangs hcl hi hh
        rw [hjl] at this; cases this
      · exact hh
    rw [e1] at H hpres hlen
    have H2 := awd_front l1 hsw H
    rw [awd_cons] at H2
    have hcl2 : Closed ops (listed.setIfInBounds i true) := by
      intro k ok e hk hkl he hb
      by_cases hki : k = i
      · subst hki
        rw [ho'] at hk; cases hk
        exact getD_set_true (hall e he hb)
      · rw [getD_set_ne false (fun e => hki e.symm)] at hkl
        exact getD_set_true (hcl k ok e hk hkl he hb)
    have hlen2 : (left (listed.setIfInBounds i true) ops.zipIdx).length ≤ fuel := by
      rw [e2]; simp at hlen ⊢; omega
    have hsub : ∀ x ∈ l1 ++ l2, x ∈ l1 ++ o :: l2 := fun x hx => (by
      simp only [List.mem_append, List.mem_cons] at hx ⊢
      rcases hx with hx | hx
      · exact .inl hx
      · exact .inr (.inr hx))
    have next : ∀ (f1 : Emb) (b : Array Value) (h1 : AH) (b' : Act) (w1 : World), Wait T H0 h1 (l1 ++ l2) → awd P T ops.toArray H0 Q (l1 ++ l2) b h1 → Good P f0 h0 w0 f1 b h1 b' w1 →
        wpAnyIn (fenceR ro) 0 P .any ops.toArray (Lift P f0 h0 w0 Q) fuel (listed.setIfInBounds i true) b' w1 := fun f1 b h1 b' w1 hp hk g1 =>
      ih _ f1 b h1 b' w1 (by simpa using hsz) hcl2 hlen2 (by rw [e2]; exact hp) (by rw [e2]; exact hk) g1
    unfold wpOpIn
    simp only [ho]
    unfold awd1 at H2
    split at H2
    · rename_i hg
      rw [if_neg (by simp [gval_wanted g.tm hg])]
      exact ⟨fun _ _ => trivial, next f _ h _ w (hpres.sub hsub) H2 (g.step (Step.refl g.sim) (g.tm.aput o.dst undef_rel) (put_defers _ _ _))⟩
    · rename_i hg
      obtain ⟨hsd, H2⟩ := H2
      rw [if_pos (gval_wanted g.tm hg)]
      split at H2
      · rename_i hv
        split at H2
        · rename_i v h2 hval
          have hval2 : aop P (aeval P a) h o = some (.val v h) := by
            obtain ⟨u, hu⟩ := isV_val hv hval
            cases hu
            cases hl : isLoad o.op with
            | false => exact vop_pure hv hl hval
            | true =>
              rcases hpres with hp | ⟨E, hp, hE⟩
              · have := hp o (by simp)
                rw [hl] at this; cases this
              · exact vop_off hp hl hsd (hE o (by simp) hl) hval
          exact oper_wp g o hval2 (fun f1 b' w1 g1 => next f1 _ h b' w1 (hpres.sub hsub) H2 g1) ro
        · exact H2.elim
      · rename_i hv
        split at H2
        · rename_i v h1 hval
          exact oper_wp g o hval (fun f1 b' w1 g1 => next f1 _ h1 b' w1 (hpres.next hsub hsd H2.1 (.inl ⟨v, hval⟩)) H2.2 g1) ro
        · rename_i h1 hval
          exact oper_wp g o hval (fun f1 b' w1 g1 => next f1 _ h1 b' w1 (hpres.next hsub hsd H2.1 (.inr hval)) H2.2 g1) ro
        · rename_i F args hval
          obtain ⟨R, hc, _, hR⟩ := H2
          exact oper_wp g o hval ⟨R, hc, fun v h1 hr f1 b' w1 g1 => next f1 _ h1 b' w1 (.of_pres (hR v h1 hr).1) (hR v h1 hr).2 g1⟩ ro
        · exact H2.elim
    · exact H2.elim
  intro fuel
  induction fuel with
  | zero =>
    intro listed f a h a' w hsz hcl hlen hpres H g
    have : left listed ops.zipIdx = [] := List.length_eq_zero_iff.1 (by omega)
    have hr : Region.ready .any ops.toArray listed = [] := by
      cases hr : Region.ready .any ops.toArray listed with
      | nil => rfl
      | cons i r =>
        have hi : i ∈ Region.ready .any ops.toArray listed := by rw [hr]; simp
        rw [mem_ready] at hi
        obtain ⟨hun, o, ho, _⟩ := hi
        have ho' : ops[i]? = some o := by simpa using ho
        have hlt : i < ops.length := (List.getElem?_eq_some_iff.1 ho').1
        have hun' : listed.getD i false = false := by
          have : i < listed.size := by omega
          simp only [Array.getD, this, dite_true] at hun ⊢
          exact hun
        obtain ⟨l1, l2, e1, _⟩ := left_split (listed := listed) (i := i) (o := o) ops.zipIdx hinj hnd.1 (by rw [List.mem_zipIdx_iff_getElem?]; exact ho') hun' (by omega)
        rw [this] at e1
        simp at e1
    rw [this] at H
    exact ⟨hr, ⟨f, a, h, H, g⟩⟩
  | succ fuel ih =>
    intro listed f a h a' w hsz hcl hlen hpres H g
    refine ⟨fun hr => ?_, go fuel ih listed f a h a' w hsz hcl hlen hpres H g⟩
    rw [done listed hsz hcl hr] at H
    exact ⟨f, a, h, H, g⟩
theorem AWP.draw {P : Program} {T : Hot} {h0 : AH} {id : Nat} {l : List Oper} {Q : Exit → Array Value → AH → Prop} {a : Array Value} {h : AH} (hm : P.follows .mixedOrders = true) (hok : okDraw P T l = true) (ha : awd P T l.toArray h Q l a h) :
    AWP P h0 (.region id l.toArray true) Q a h := by
  intro f0 w0 f a' w s0 g ro hrb
  refine wpIn_region_any hm ?_
  have hl : left (Array.replicate l.length false) l.zipIdx = l := by
    have : ∀ (r : List Oper) (k : Nat), left (Array.replicate l.length false) (r.zipIdx k) = r := by
      intro r
      induction r with
      | nil => intro k; rfl
      | cons x r ih =>
        intro k
        rw [List.zipIdx_cons, left_false (by simp only [Array.getD_eq_getD_getElem?, Array.getElem?_replicate]; split <;> rfl), ih]
    exact this l 0
  have := awd_any (Q := Q) (f0 := f0) (h0 := h0) (w0 := w0) hok ro l.length (Array.replicate l.length false) f a h a' w.drew (by simp) (fun i o e _ hl _ _ => by
    exfalso
    simp only [Array.getD_eq_getD_getElem?, Array.getElem?_replicate] at hl
    split at hl <;> cases hl) (by rw [hl]; exact Nat.le_refl _) (.of_pres fun b _ => rfl) (by rw [hl]; exact ha) (g.step (Step.drew g.sim) g.tm rfl)
  simpa using this
section
variable {P : Program} {T : Hot} {ops : Array Oper} {Q : Exit → Array Value → AH → Prop} {rest : List Oper} {a : Array Value} {h H0 h0 : AH} {dst : Option Tmp} {ty : TypeId} {pos : String} {after : Array Edge}
/-- what follows an operation, in a region that draws -/
def dstep (P : Program) (T : Hot) (ops : Array Oper) (H0 : AH) (Q : Exit → Array Value → AH → Prop) (rest : List Oper) (o : Oper) (a : Array Value) (h : AH) : Option ARes → Prop
  | some (.val v h1) => leaves T H0 rest o h1 ∧ awd P T ops H0 Q rest (aput a o.dst v) h1
  | some (.skip h1) => leaves T H0 rest o h1 ∧ awd P T ops H0 Q rest (aput a o.dst undef) h1
  | some (.enter F args) => ∃ R, ACalls P F args h R ∧ Calm P ops F args h R ∧ ∀ v h1, R v h1 → Pres H0 h1 ∧ awd P T ops H0 Q rest (aput a o.dst v) h1
  | _ => False
def dvstep (P : Program) (T : Hot) (ops : Array Oper) (H0 : AH) (Q : Exit → Array Value → AH → Prop) (rest : List Oper) (dst : Option Tmp) (a : Array Value) (h : AH) : Option ARes → Prop
  | some (.val v _) => awd P T ops H0 Q rest (aput a dst v) h
  | _ => False
def dgate (P : Program) (T : Hot) (ops : Array Oper) (H0 : AH) (Q : Exit → Array Value → AH → Prop) (rest : List Oper) (o : Oper) (a : Array Value) (h : AH) : Option Bool → Prop
  | some false => awd P T ops H0 Q rest (aput a o.dst undef) h
  | some true => Side P T (aeval P a) o ∧ bif isV P o.op then dvstep P T ops H0 Q rest o.dst a h (aop P (aeval P a) H0 o) else dstep P T ops H0 Q rest o a h (aop P (aeval P a) h o)
  | none => False
theorem awd_nil : awd P T ops H0 Q [] a h = Q .normal a h := rfl
theorem awd_gate {o : Oper} : awd P T ops H0 Q (o :: rest) a h = dgate P T ops H0 Q rest o a h (gval ops a o) := by
  show awd P T ops H0 Q (o :: rest) a h = _
  unfold awd dgate
  cases gval ops a o with
  | none => rfl
  | some b => cases b with
    | false => rfl
    | true =>
      simp only
      congr 1
      cases hv : isV P o.op with
      | true =>
        simp only [if_true, cond_true, dvstep]
      | false =>
        simp only [Bool.false_eq_true, if_false, cond_false, dstep]
theorem dgate_true {o : Oper} : dgate P T ops H0 Q rest o a h (some true) = (Side P T (aeval P a) o ∧ bif isV P o.op then dvstep P T ops H0 Q rest o.dst a h (aop P (aeval P a) H0 o) else dstep P T ops H0 Q rest o a h (aop P (aeval P a) h o)) := rfl
theorem dvstep_val {v : Value} {h1 : AH} : dvstep P T ops H0 Q rest dst a h (some (.val v h1)) = awd P T ops H0 Q rest (aput a dst v) h := rfl
theorem dstep_val {o : Oper} {v : Value} {h1 : AH} : dstep P T ops H0 Q rest o a h (some (.val v h1)) = (leaves T H0 rest o h1 ∧ awd P T ops H0 Q rest (aput a o.dst v) h1) := rfl
theorem dstep_skip {o : Oper} {h1 : AH} : dstep P T ops H0 Q rest o a h (some (.skip h1)) = (leaves T H0 rest o h1 ∧ awd P T ops H0 Q rest (aput a o.dst undef) h1) := rfl
variable {x y z : Operand} {t u : TypeId} {guard : Option (Nat × Bool)} {ρ : Operand → Value}
theorem side_load : Side P T ρ ⟨dst, .load t x, ty, pos, after, guard⟩ = ∀ q ∈ T.foes ⟨dst, .load t x, ty, pos, after, guard⟩, ∀ r, lk T.ws q = some r → Disj P t (ρ x) r := rfl
theorem foes_some {d : Nat} {op : Op} : T.foes ⟨some d, op, ty, pos, after, guard⟩ = (lk T.ls d).getD [] := rfl
theorem side_store {q : Nat} : Side P T ρ ⟨dst, .store t (.tmp q) y, ty, pos, after, guard⟩ = ∀ r, lk T.ws q = some r → ρ (.tmp q) = .pointer (some ⟨r.1, r.2.1, none⟩) ∧ ∃ g, tyc P t = some (g, r.2.2) := rfl
theorem side_move : Side P T ρ ⟨dst, .move x, ty, pos, after, guard⟩ = True := rfl
theorem side_slice {lo hi mx : Option Operand} : Side P T ρ ⟨dst, .slice t x lo hi mx, ty, pos, after, guard⟩ = True := rfl
theorem side_fieldAddr {k : Nat} : Side P T ρ ⟨dst, .fieldAddr t x k, ty, pos, after, guard⟩ = True := rfl
theorem side_nilCheck : Side P T ρ ⟨dst, .nilCheck x, ty, pos, after, guard⟩ = True := rfl
theorem nil_forall {α : Type} {K : α → Prop} : (∀ q ∈ ([] : List α), K q) = True := eq_true fun q h => by cases h
theorem cons_forall {α : Type} {x : α} {l : List α} {K : α → Prop} : (∀ q ∈ x :: l, K q) = (K x ∧ ∀ q ∈ l, K q) := propext ⟨fun h => ⟨h x (List.mem_cons_self ..), fun q hq => h q (List.mem_cons_of_mem _ hq)⟩, fun h q hq => (List.mem_cons.1 hq).elim (fun e => e ▸ h.1) (h.2 q)⟩
end
attribute [go_sem ↓] awd_nil awd_gate dgate_true dvstep_val dstep_val dstep_skip
attribute [go_sem] side_load foes_some side_store side_move side_slice side_fieldAddr side_nilCheck nil_forall cons_forall lk_nil lk_cons true_and Option.getD_none Option.getD_some
end Go.Am.W

