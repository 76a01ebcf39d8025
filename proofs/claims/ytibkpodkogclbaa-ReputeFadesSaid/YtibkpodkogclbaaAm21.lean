import Derived.Test.YtibkpodkogclbaaAm20
set_option linter.unusedVariables false
set_option linter.unusedSimpArgs false
/- From what is read of an argument to an abstract value: rows in memory. -/
namespace Go.Am
open Go

/-- nothing that may be written -/
def NoRW (h : AH) : Prop := ∀ (b : Nat) (o : AObj), h[b]? = some o → o.rw = false

theorem NoRW.append {h l : AH} (h1 : NoRW h) (h2 : NoRW l) : NoRW (h ++ l) := fun b o hb => by
  by_cases hlt : b < h.length
  · rw [List.getElem?_append_left hlt] at hb; exact h1 b o hb
  · rw [List.getElem?_append_right (by omega)] at hb; exact h2 _ o hb

theorem NoRW.one {o : AObj} (h : o.rw = false) : NoRW [o] := fun b o' hb => by
  cases b with
  | zero => simp at hb; subst hb; exact h
  | succ b => simp at hb

/-- one more look at the same world -/
theorem Sim.view {P : Program} {f : Nat → Img} {h : AH} {w : World} (hs : Sim P f h w) (hno : NoRW h) (o : AObj) (I : Img) (hrw : o.rw = false)
    (ho : o.alive = true → ∃ o', w.heap[I.blk]? = some o' ∧ ORel f h.length I o o') : Sim P (upd f h.length I) (h ++ [o]) w := by
  have hag : ∀ b, b < h.length → upd f h.length I b = f b := fun b hb => upd_lt _ _ _ _ hb
  refine ⟨fun b x hb ha => ?_, fun b b' x x' hb hb' ha ha' hr => ?_, fun g hg => ?_, ?_⟩
  · by_cases hl : b < h.length
    · rw [List.getElem?_append_left hl] at hb
      obtain ⟨y, hy, hr⟩ := hs.obj b x hb ha
      rw [hag b hl]
      exact ⟨y, hy, hr.mono (by simp) hag⟩
    · rw [List.getElem?_append_right (by omega)] at hb
      obtain ⟨he, hx⟩ : b = h.length ∧ x = o := by
        have h1 := (List.getElem?_eq_some_iff.1 hb).1
        simp at h1
        have : b = h.length := by omega
        subst this
        simp at hb
        exact ⟨rfl, hb.symm⟩
      subst he; subst hx
      obtain ⟨y, hy, hr⟩ := ho ha
      simp only [upd_eq]
      exact ⟨y, hy, hr.mono (by simp) hag⟩
  · rw [(hno.append (.one hrw)) b x hb] at hr; cases hr
  · rw [hag g (Nat.lt_of_lt_of_le hg hs.size)]; exact hs.glob g hg
  · have := hs.size; simp; omega

/-- a heap that tells more of one world -/
structure Ext (P : Program) (w : World) (f : Nat → Img) (h : AH) (f' : Nat → Img) (l : AH) : Prop where
  sim : Sim P f' (h ++ l) w
  ro : NoRW l
  agree : ∀ b, b < h.length → f' b = f b

theorem Ext.refl {P : Program} {w : World} {f : Nat → Img} {h : AH} (hs : Sim P f h w) : Ext P w f h f [] := ⟨by simpa using hs, fun b o hb => by simp at hb, fun _ _ => rfl⟩
theorem Ext.trans {P : Program} {w : World} {f f1 f2 : Nat → Img} {h l1 l2 : AH} (e1 : Ext P w f h f1 l1) (e2 : Ext P w f1 (h ++ l1) f2 l2) : Ext P w f h f2 (l1 ++ l2) :=
  ⟨by rw [← List.append_assoc]; exact e2.sim, e1.ro.append e2.ro, fun b hb => (e2.agree b (by simp; omega)).trans (e1.agree b hb)⟩

def Told (P : Program) (w : World) (f : Nat → Img) (h : AH) (t : TypeId) (v : Value) : Prop :=
  ∃ f' l v', Ext P w f h f' l ∧ VRel f' (h ++ l).length v' v ∧ ALeaf P (h ++ l) t v'

theorem rows_abs {P : Program} {w : World} {Rd : TypeId → Value → Prop} (habs : ∀ t v, Rd t v → v.oneCell' = true ∧ ∀ f h, Sim P f h w → NoRW h → Told P w f h t v) :
    ∀ (us : List TypeId) (vs : List Value), us.length = vs.length → (∀ (i : Nat) (u : TypeId) (v : Value), us[i]? = some u → vs[i]? = some v → Rd u v) → ∀ f h, Sim P f h w → NoRW h →
      ∃ (f' : Nat → Img) (l : AH) (vs' : List Value), Ext P w f h f' l ∧ vs'.length = vs.length ∧ (∀ i : Nat, VRel f' (h ++ l).length (vs'.getD i junk) (vs.getD i junk) ∧ (i < vs.length → (vs.getD i junk).oneCell' = true)) ∧ ∀ i, i < us.length → ALeaf P (h ++ l) (us.getD i 0) (vs'.getD i junk) := by
  intro us
  induction us with
  | nil =>
    intro vs hl _ f h hs hn
    cases vs with
    | nil => exact ⟨f, [], [], .refl hs, rfl, fun i => ⟨by simp; exact .junk _, fun h => by simp at h⟩, fun i h => by simp at h⟩
    | cons v vs => simp at hl
  | cons u us ih =>
    intro vs hl hr f h hs hn
    cases vs with
    | nil => simp at hl
    | cons v vs =>
      obtain ⟨h1, f1, l1, v1, e1, r1, a1⟩ := let x := habs u v (hr 0 u v rfl rfl); (⟨x.1, x.2 f h hs hn⟩ : _ ∧ _)
      obtain ⟨f2, l2, vs2, e2, hlen, r2, a2⟩ := ih vs (by simpa using hl) (fun i u v hu hv => hr (i + 1) u v (by simpa using hu) (by simpa using hv)) f1 (h ++ l1) e1.sim (hn.append e1.ro)
      refine ⟨f2, l1 ++ l2, v1 :: vs2, e1.trans e2, by simp [hlen], fun i => ?_, fun i hi => ?_⟩
      · rw [← List.append_assoc]
        cases i with
        | zero => exact ⟨by simpa using r1.mono (by simp) e2.agree, fun _ => by simpa using h1⟩
        | succ i => simpa using r2 i
      · rw [← List.append_assoc]
        cases i with
        | zero => simpa using a1.mono l2
        | succ i => simpa using a2 i (by simpa using hi)

variable {H : Type} {enc : TypeId × Value → H} {P : Program} {w : World} {base : Nat} {spare : Nat → Bool} {held : Bool}

theorem cell_of {w : World} {a : Addr} {v : Value} (h : w.cell? a = some v) : a.spot = none ∧ ∃ c el fr, w.heap[a.block]? = some (.cells c el fr) ∧ c[a.off]? = some v := by
  unfold World.cell? at h
  split at h
  · rename_i c el fr hc
    split at h
    · cases h
    · rename_i hsp
      exact ⟨by simpa using hsp, c, el, fr, hc, h⟩
  · cases h

theorem leaf_abs (hspare : ∀ b, spare b = true) : ∀ (N n m : Nat) (t : TypeId) (v : Value) (x : DataW H × List MemPlace), n ≤ N → DataW.trod enc P w base spare held n t [v] = some x → okLeaf P m t = true →
    v.oneCell' = true ∧ ∀ f h, Sim P f h w → NoRW h → Told P w f h t v := by
  intro N
  induction N with
  | zero =>
    intro n m t v x hn hx
    obtain rfl : n = 0 := by omega
    simp [DataW.trod] at hx
  | succ N ih =>
    intro n m t v x hn hx ho
    have plain : ∀ f h, Sim P f h w → (∀ f L, VRel f L v v) → (∀ h, ALeaf P h t v) → Told P w f h t v := fun f h hs hv hl => ⟨f, [], v, .refl hs, hv _ _, hl _⟩
    cases m with
    | zero => simp [okLeaf] at ho
    | succ m =>
      unfold okLeaf at ho
      cases hu : P.underlying t with
      | none => simp [hu] at ho
      | some d =>
        rw [hu] at ho
        cases d with
        | bool =>
          obtain ⟨b, e, _⟩ := DataW.trod_bool hu hx
          cases e
          exact ⟨rfl, fun f h hs _ => plain f h hs (fun _ _ => .bool b) fun _ => .bool b hu⟩
        | int k =>
          obtain ⟨b, e, _, hw⟩ := DataW.trod_int hu hx
          cases e
          exact ⟨rfl, fun f h hs _ => plain f h hs (fun _ _ => .int k b) fun _ => .int b hu hw⟩
        | string =>
          obtain ⟨b, e, _, hw⟩ := DataW.trod_string hu hx
          cases e
          exact ⟨rfl, fun f h hs _ => plain f h hs (fun _ _ => .string b) fun _ => .string b hu hw⟩
        | slice e =>
          simp only at ho
          cases hf : flat P 8 e with
          | none => simp [hf] at ho
          | some l =>
            simp only [hf, Bool.and_eq_true, bne_iff_ne, ne_eq, beq_iff_eq] at ho
            obtain ⟨⟨h0, he⟩, hall⟩ := ho
            rcases DataW.trod_slice hu hx with ⟨e1, _⟩ | ⟨a, len, cap, elems, rest, n', rfl, e1, _, _, hlc, hmax, hel, hread, hrest, _⟩
            · cases e1
              exact ⟨rfl, fun f h hs _ => plain f h hs (fun _ _ => .nilSlice 0 0) fun _ => .nil hu⟩
            · cases e1
              refine ⟨rfl, fun f h hs hno => ?_⟩
              by_cases hz : len = 0
              · subst hz
                by_cases hc : cap = 0
                · subst hc
                  exact ⟨upd f h.length ⟨0, 0, 0, 0, 0⟩, [.dead], .slice (some ⟨h.length, 0, none⟩) 0 0,
                    ⟨hs.view hno .dead _ rfl (fun h => by cases h), .one rfl, fun b hb => upd_lt _ _ _ _ hb⟩, .slice0 _ _ (by simp), .empty _ hu (by simp)⟩
                · refine ⟨upd f h.length ⟨a.block, a.off, 0, a.off + cap * l.length, l.length⟩, [.dead], .slice (some ⟨h.length, 0, none⟩) 0 0,
                    ⟨hs.view hno .dead _ rfl (fun h => by cases h), .one rfl, fun b hb => upd_lt _ _ _ _ hb⟩, ?_, .empty _ hu (by simp)⟩
                  have hsp : a.spot = none := by
                    obtain ⟨hr1, hr2⟩ := hrest (hspare _)
                    have h1 := hr2 0 (by omega)
                    rw [List.getElem?_eq_getElem (by omega), Option.bind_eq_some_iff] at h1
                    obtain ⟨cs, hcs, hy⟩ := h1
                    obtain ⟨_, hcl, hcg⟩ := World.cells?_some hcs
                    have h2 := hcg 0 (by omega)
                    rw [List.getElem?_eq_getElem (by omega)] at h2
                    have h3 := (cell_of h2).1
                    simpa [Addr.add] using h3
                  obtain ⟨ab, ao, as⟩ := a
                  simp only at hsp
                  subst hsp
                  refine .slice _ _ _ _ _ _ _ (by simp) (by simp [upd_eq]) (by simp [upd_eq]) (.inr ?_)
                  simp only [upd_eq]
                  refine ⟨h0, by simp, by simp, by omega⟩
              · have hcell : ∀ i j, i < len → j < l.length → ∃ c n2 y, w.cell? ((a.add (i * l.length)).add j) = some c ∧ n2 ≤ N ∧ DataW.trod enc P w base spare held n2 (l.getD j 0) [c] = some y := by
                  intro i j hi hj
                  have h1 := hread i hi
                  rw [List.getElem?_eq_getElem (by omega), Option.bind_eq_some_iff] at h1
                  obtain ⟨cs, hcs, hy⟩ := h1
                  obtain ⟨_, hcl, hcg⟩ := World.cells?_some hcs
                  obtain ⟨c, n2, y, h2, h3, h4⟩ := (trod_flat 8 _ _ _ _ _ hy hf).2 j (l.getD j 0) (by rw [List.getElem?_eq_getElem hj]; simp [List.getD, hj])
                  rw [← he] at hcg hcl
                  exact ⟨c, n2, y, by rw [hcg j hj, h2], by omega, h4⟩
                obtain ⟨c0, _, _, hc0, _⟩ := hcell 0 0 (by omega) (by omega)
                obtain ⟨hsp, c', el, fr, hblk, _⟩ := cell_of hc0
                obtain ⟨ab, ao, as⟩ := a
                simp only [Nat.zero_mul, Addr.add, if_true] at hsp hblk
                subst hsp
                have hget : ∀ i j, i < len → j < l.length → ∃ c n2 y, c'[ao + (i * l.length + j)]? = some c ∧ n2 ≤ N ∧ DataW.trod enc P w base spare held n2 (l.getD j 0) [c] = some y := by
                  intro i j hi hj
                  obtain ⟨c, n2, y, h1, h2, h3⟩ := hcell i j hi hj
                  refine ⟨c, n2, y, ?_, h2, h3⟩
                  obtain ⟨_, c2, el2, fr2, h4, h5⟩ := cell_of h1
                  have e1 : (((⟨ab, ao, none⟩ : Addr).add (i * l.length)).add j).block = ab := by unfold Addr.add; split <;> split <;> rfl
                  have e2 : (((⟨ab, ao, none⟩ : Addr).add (i * l.length)).add j).off = ao + (i * l.length + j) := by unfold Addr.add; split <;> split <;> simp_all <;> omega
                  rw [e1, hblk] at h4
                  rw [e2] at h5
                  cases h4
                  exact h5
                have hpos : 0 < l.length := by omega
                let us := (List.range (len * l.length)).map fun q => l.getD (q % l.length) 0
                let vs := (List.range (len * l.length)).map fun q => c'.getD (ao + q) junk
                have hq : ∀ q, q < len * l.length → ∃ c n2 y, c'[ao + q]? = some c ∧ n2 ≤ N ∧ DataW.trod enc P w base spare held n2 (l.getD (q % l.length) 0) [c] = some y := by
                  intro q hq
                  have := hget (q / l.length) (q % l.length) ((Nat.div_lt_iff_lt_mul hpos).2 hq) (Nat.mod_lt _ hpos)
                  rwa [show q / l.length * l.length + q % l.length = q by rw [Nat.mul_comm]; exact Nat.div_add_mod _ _] at this
                obtain ⟨f1, l1, vs1, e1, hl1, r1, a1⟩ := rows_abs (P := P) (w := w) (Rd := fun t v => ∃ n2 y, n2 ≤ N ∧ DataW.trod enc P w base spare held n2 t [v] = some y ∧ okLeaf P m t = true)
                  (fun t v ⟨n2, y, h1, h2, h3⟩ => ih n2 m t v y h1 h2 h3) us vs (by simp [us, vs]) (by
                    intro i u v hu hv
                    have hi : i < len * l.length := by
                      have := (List.getElem?_eq_some_iff.1 hu).1
                      simpa [us] using this
                    obtain ⟨c, n2, y, h1, h2, h3⟩ := hq i hi
                    simp only [us, vs, List.getElem?_map, List.getElem?_range hi, Option.map_some, Option.some.injEq] at hu hv
                    subst hu; subst hv
                    refine ⟨n2, y, h2, by rw [show c'.getD (ao + i) junk = c by simp [Array.getD_eq_getD_getElem?, h1]]; exact h3, ?_⟩
                    rw [List.all_eq_true] at hall
                    refine hall _ ?_
                    have : i % l.length < l.length := Nat.mod_lt _ hpos
                    simp only [List.getD, List.getElem?_eq_getElem this, Option.getD_some]
                    exact List.getElem_mem _) f h hs hno
                have hvl : vs1.length = len * l.length := by rw [hl1]; simp [vs]
                have hcap : len * l.length ≤ cap * l.length := Nat.mul_le_mul_right _ hlc
                have hsz : ao + len * l.length ≤ c'.size := by
                  have hlast : len * l.length - 1 < len * l.length := by
                    have := Nat.mul_pos (Nat.pos_of_ne_zero hz) hpos
                    omega
                  obtain ⟨c, _, _, h1, _⟩ := hq (len * l.length - 1) hlast
                  have := (Array.getElem?_eq_some_iff.1 h1).1
                  omega
                refine ⟨upd f1 (h ++ l1).length ⟨ab, ao, len * l.length, ao + cap * l.length, l.length⟩, l1 ++ [.cells vs1.toArray l.length false], .slice (some ⟨(h ++ l1).length, 0, none⟩) len len,
                  e1.trans ⟨e1.sim.view (hno.append e1.ro) (.cells vs1.toArray l.length false) _ rfl fun _ => ⟨_, hblk, c', el, fr, rfl, by simp [hvl], rfl, by simp; exact hcap, (fun h => by cases h), hsz, fun i hi => ?_⟩, .one rfl, fun b hb => upd_lt _ _ _ _ hb⟩, ?_, ?_⟩
                · have hi' : i < len * l.length := by simpa [hvl] using hi
                  have := r1 i
                  have e2 : vs.getD i junk = c'.getD (ao + i) junk := by simp [vs, List.getD, hi']
                  rw [e2] at this
                  refine ⟨?_, this.2 (by simp [vs]; exact hi')⟩
                  have e3 : vs1.toArray.getD i junk = vs1.getD i junk := by simp [Array.getD_eq_getD_getElem?, List.getD]
                  rw [e3]
                  exact this.1
                · refine .slice _ _ _ _ _ _ _ (by simp) (by simp only [upd_eq]) (by simp only [upd_eq]; rfl) (.inr ?_)
                  simp only [upd_eq]
                  exact ⟨h0, by simp, by simp, hlc⟩
                · rw [← List.append_assoc]
                  refine ALeaf.slice l (h ++ l1).length len vs1.toArray hu hf he.symm h0 (by omega) (by omega) (by rw [List.getElem?_append_right (Nat.le_refl _)]; simp) (by simp [hvl]) fun i j hi hj => ?_
                  have hij : i * l.length + j < len * l.length := by
                    have : (i + 1) * l.length ≤ len * l.length := Nat.mul_le_mul_right _ hi
                    rw [Nat.add_mul, Nat.one_mul] at this
                    omega
                  have := a1 (i * l.length + j) (by simp [us]; exact hij)
                  have e2 : us.getD (i * l.length + j) 0 = l.getD j 0 := by
                    simp only [us, List.getD, List.getElem?_map, List.getElem?_range hij, Option.map_some, Option.getD_some]
                    rw [Nat.mul_comm, Nat.mul_add_mod, Nat.mod_eq_of_lt hj]
                  have e3 : vs1.toArray.getD (i * l.length + j) junk = vs1.getD (i * l.length + j) junk := by simp [Array.getD_eq_getD_getElem?, List.getD]
                  rw [e2] at this
                  rw [e3]
                  exact this.mono _
        | _ => simp at ho
end Go.Am
