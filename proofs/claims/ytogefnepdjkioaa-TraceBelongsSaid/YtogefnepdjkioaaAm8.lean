import Derived.Test.YtogefnepdjkioaaAm7
set_option linter.unusedVariables false
set_option linter.unusedSimpArgs false
/- append: the abstract one is the world's. -/
namespace Go.Am
open Go

theorem getD_append_left' (A B : Array Value) (i : Nat) (h : i < A.size) : (A ++ B).getD i junk = A.getD i junk := by
  have h2 : i < A.size + B.size := by omega
  simp [Array.getD, h, h2, Array.getElem_append]

theorem getD_append_right' (A B : Array Value) (i : Nat) (h : A.size ≤ i) : (A ++ B).getD i junk = B.getD (i - A.size) junk := by
  by_cases h3 : i < A.size + B.size
  · have h4 : i - A.size < B.size := by omega
    have h5 : ¬ i < A.size := by omega
    simp [Array.getD, h3, h4, Array.getElem_append, h5]
  · rw [getD_ge i (by simpa using h3), getD_ge _ (by omega)]

theorem CRel.append {f : Emb} {L : Nat} {A A' B B' : Array Value} (h : CRel f L A A') (k : CRel f L B B') : CRel f L (A ++ B) (A' ++ B') := by
  refine ⟨by simp [h.1, k.1], fun i => ?_⟩
  by_cases hi : i < A.size
  · rw [getD_append_left' _ _ _ hi, getD_append_left' _ _ _ (h.1 ▸ hi)]; exact h.2 i
  · rw [getD_append_right' _ _ _ (by omega), getD_append_right' _ _ _ (by have := h.1; omega), h.1]; exact k.2 _

theorem orel_grown {f : Emb} {L : Nat} {A B Z : Array Value} {es r : Nat} {elem : TypeId} (h : CRel f L A B) :
    ORel f L ⟨r, 0, A.size, A.size + Z.size, es⟩ (.cells A es true) (.cells (B ++ Z) elem (0, 0)) := by
  refine ⟨_, _, _, rfl, rfl, rfl, by simp, fun _ => ⟨by simp [h.1], fun i _ => by simp⟩, by simp [h.1], fun i hi => ?_⟩
  simp only [Nat.zero_add]
  rw [getD_append_left' _ _ _ (h.1 ▸ hi)]
  exact h.2 i

theorem Step.after_drew {P : Program} {f f1 : Emb} {h h1 : AH} {w w1 : World} (hs : Sim P f h w) (s : Step P f h w.drew f1 h1 w1) : Step P f h w f1 h1 w1 :=
  (Step.drew hs).trans s

theorem sound_append {P : Program} {f : Emb} {h : AH} {w : World} (hs : Sim P f h w) {ts : Array TypeId} {sT xT ty : TypeId} (h0 : ts[0]? = some sT) (h1 : ts[1]? = some xT) {s s' x x' : Value} (hS : VRel f h.length s s') (hx : VRel f h.length x x')
    {r : Value} {h2 : AH} (ha : aappend P h sT xT s x = some (r, h2)) :
    ∃ f1 r' w1, (Builtin.append_ ts ty #[s', x']).run P w = .ok r' w1 ∧ Step P f h w f1 h2 w1 ∧ VRel f1 h2.length r r' := by
  unfold aappend at ha
  split at ha
  case h_2 => cases ha
  rename_i elem hu
  split at ha
  case h_2 => cases ha
  rename_i ie zc hie hzc
  obtain ⟨i, z, hi, hz, hzc', hall, hsz, hpos⟩ := zeroCellsOf_spec hzc
  have hii : i = ie := by rw [hi] at hie; exact Option.some.inj hie
  subst hii
  subst hzc'
  split at ha
  case h_2 => cases ha
  rename_i n new hap
  obtain ⟨d, hd, ds, hA, hcr, hsize⟩ := sound_appended hs hie hzc hx hap
  have hsd : Sim P f h w.drew := hs.congr rfl
  obtain ⟨d2, hd2, ds2, hA2, hcr2, _⟩ := sound_appended hsd hie hzc hx hap
  have hdd : d2 = d := by rw [hd] at hd2; exact (Option.some.inj hd2).symm
  subst hdd
  -- all is copied
  have grow : ∀ (base : Option Addr) (len cap : Nat) (hk : AH) (old : Array Value) (oldA : Array Value), Step P f h w.drew f hk w.drew → hk.length = h.length → cap < len + n → (2 * (len + n) + 192) * i.bytes ≤ 2 ^ 48 → len + n < 2 ^ 62 →
      (Builtin.firstCells i.size len (.slice base len cap)).run P w.drew = .ok old w.drew → CRel f h.length oldA old → oldA.size = len * i.size →
      ∃ f1 r' w1, (Builtin.append_ ts ty #[.slice base len cap, x']).run P w = .ok r' w1 ∧ Step P f h w f1 (hk ++ [.cells (oldA ++ new) i.size true]) w1 ∧ VRel f1 (h.length + 1) (.slice (some ⟨h.length, 0, none⟩) (len + n) (len + n)) r' := by
    intro base len cap hk old oldA hst hkl hcap hb1 hb2 hold hco hso
    obtain ⟨newCap, hnc, hrun⟩ := append_grow w h0 h1 hu hd hie hz hsz base len cap x' hA hA2 hcap hb1 hb2 hold
    have hnew := hco.append hcr2
    have hAsz : (oldA ++ new).size = (len + n) * i.size := by simp [hso, hsize, Nat.add_mul]
    have hzsz : (zeros z.cells ((newCap - (len + n)) * z.cells.size)).size = (newCap - (len + n)) * i.size := by rw [size_zeros, hsz]
    have halloc := Step.alloc hst.sim (.cells (oldA ++ new) i.size true) (.cells (old ++ ds2 ++ zeros z.cells ((newCap - (len + n)) * z.cells.size)) elem)
      ⟨w.drew.heap.size, 0, (oldA ++ new).size, (oldA ++ new).size + (zeros z.cells ((newCap - (len + n)) * z.cells.size)).size, i.size⟩ rfl (by rw [hkl]; exact orel_grown hnew)
    refine ⟨_, _, _, hrun, Step.after_drew hs (hst.trans halloc), ?_⟩
    refine .slice h.length 0 _ _ _ _ _ (by omega) ?_ ?_ (.inr ⟨?_, ?_, ?_, by omega⟩)
    · rw [← hkl, upd_eq]; rfl
    · rw [← hkl, upd_eq]
    · rw [← hkl, upd_eq]; simp only; omega
    · rw [← hkl, upd_eq]; simp only [hAsz]; omega
    · rw [← hkl, upd_eq]; simp only [hAsz, hzsz]
      rw [← Nat.add_mul]
      have : len + n + (newCap - (len + n)) = newCap := by omega
      rw [this]; omega
  split at ha
  · -- nil
    have hS' : s' = .slice none 0 0 := plain_inv rfl hS
    subst hS'
    split at ha
    · rename_i hn0
      subst hn0
      simp only [Option.some.injEq, Prod.mk.injEq] at ha
      obtain ⟨rfl, rfl⟩ := ha
      refine ⟨f, .slice none 0 0, w, ?_, Step.refl hs, .nilSlice 0 0⟩
      rw [append_room w h0 h1 hu hd hie hz hsz none 0 0 x' hA (by omega)]
      rfl
    · rename_i hn0
      split at ha
      · rename_i hb
        simp only [Option.some.injEq, Prod.mk.injEq] at ha
        obtain ⟨rfl, rfl⟩ := ha
        obtain ⟨f1, r', w1, g1, g2, g3⟩ := grow none 0 0 h #[] #[] (Step.refl hsd) rfl (by omega) (by simpa using hb.1) (by omega) rfl crel_nil (by simp)
        refine ⟨f1, r', w1, g1, by simpa using g2, by simpa using g3⟩
      · cases ha
  · rename_i b o len cap
    split at ha
    · rename_i hn0
      obtain ⟨hn0, hlc⟩ := hn0
      subst hn0
      simp only [Option.some.injEq, Prod.mk.injEq] at ha
      obtain ⟨rfl, rfl⟩ := ha
      have hds : ds = #[] := by
        have := hcr.1
        exact Array.eq_empty_of_size_eq_zero (by rw [← this, hsize]; simp)
      subst hds
      rcases hS.slice_inv with ⟨cap', rfl, hbL, hc⟩ | ⟨rfl, rfl, a', rfl, _⟩
      · have hcc : cap ≤ cap' := hc.le
        refine ⟨f, _, w, ?_, Step.refl hs, hS⟩
        rw [append_room w h0 h1 hu hd hie hz hsz _ len cap' x' hA (by omega)]
        rfl
      · refine ⟨f, _, w, ?_, Step.refl hs, hS⟩
        rw [append_room w h0 h1 hu hd hie hz hsz _ 0 0 x' hA (by omega)]
        rfl
    · rename_i hne
      split at ha
      · rename_i c es hb
        split at ha
        · rename_i hc1
          obtain ⟨hle, hes⟩ := hc1
          subst hes
          obtain ⟨o', ho', hrel⟩ := hs.obj b _ hb rfl
          have hrel0 := hrel
          obtain ⟨c', elem', fr, rfl, q2, q3, q4, q5, q6, q7⟩ := hrel
          obtain ⟨hN, hfr⟩ := q5 rfl
          obtain ⟨olds, ho1, ho2, ho3, ho4⟩ := hsd.loadCells hb o (len * i.size) hle
          have hold : CRel f h.length (c.extract o (o + len * i.size)) olds := ⟨by simp; omega, fun j => ⟨ho3 j, ho4 j⟩⟩
          split at ha
          · -- there is room, by what is known
            rename_i hroom
            split at ha
            · rename_i hfit
              simp only [Option.some.injEq, Prod.mk.injEq] at ha
              obtain ⟨rfl, rfl⟩ := ha
              have hlist := hcr.list
              have hnl : new.toList.length = n * i.size := by simpa using hsize
              obtain ⟨w1, k1, k2⟩ := sound_storeCells hs hb (o := o + len * i.size) (vs := new.toList) (vs' := ds.toList) hlist.1 (by rw [hnl, Nat.add_assoc, ← Nat.add_mul]; exact hfit) hlist.2
              have hlen2 : (h.set b (.cells (blit c (o + len * i.size) new.toList) i.size true)).length = h.length := by simp
              rcases hS.slice_inv with ⟨cap', rfl, hbL, hc⟩ | ⟨rfl, rfl, a', rfl, _⟩
              · have hcc : cap ≤ cap' := hc.le
                refine ⟨f, .slice (some ⟨(f b).blk, (f b).off + o, none⟩) (len + n) cap', w1, ?_, k2, by rw [hlen2]; exact .slice b _ _ _ _ _ _ hbL rfl rfl hc⟩
                rw [append_room w h0 h1 hu hd hie hz hsz _ len cap' x' hA (by omega)]
                simp only [addr_add]
                rw [Nat.add_assoc, k1]
                rfl
              · exfalso; omega
            · cases ha
          · rename_i hroom
            split at ha
            · rename_i hbd
              obtain ⟨hb1, hb2⟩ := hbd
              simp only [Option.some.injEq, Prod.mk.injEq] at ha
              obtain ⟨rfl, rfl⟩ := ha
              have hlenr : (h.set b .dead ++ [AObj.cells (c.extract o (o + len * i.size) ++ new) i.size true]).length = h.length + 1 := by simp
              rw [hlenr]
              have hextsz : (c.extract o (o + len * i.size)).size = len * i.size := by simp; omega
              rcases hS.slice_inv with ⟨cap', rfl, hbL, hc⟩ | ⟨rfl, rfl, a', rfl, _⟩
              · by_cases hreal : len + n ≤ cap'
                · -- the world has room, which the abstract heap does not know
                  rcases hc with rfl | ⟨k1, k2, k3, k4⟩
                  · omega
                  rw [← q3] at k1 k2 k3
                  have hfits : (f b).off + (o + len * i.size) + ds.toList.length ≤ c'.size := by
                    have e1 : ds.toList.length = n * i.size := by have := hcr.1; simp; omega
                    have e2 : (len + n) * i.size ≤ cap' * i.size := Nat.mul_le_mul_right _ hreal
                    rw [Nat.add_mul] at e2
                    omega
                  obtain ⟨w1, g1, g2, g3, g4, g5, g6, g7⟩ := run_storeAt (P := P) ho' hfr ds.toList hfits (hcr.list.2 · |>.2)
                  have hAsz : (c.extract o (o + len * i.size) ++ new).size = (len + n) * i.size := by simp only [Array.size_append, hextsz, hsize, Nat.add_mul]
                  have e2 : (len + n) * i.size ≤ cap' * i.size := Nat.mul_le_mul_right _ hreal
                  have horel : ORel f h.length ⟨(f b).blk, (f b).off + o, (len + n) * i.size, (f b).N, i.size⟩ (.cells (c.extract o (o + len * i.size) ++ new) i.size true) (.cells (blit c' ((f b).off + (o + len * i.size)) ds.toList) elem' fr) := by
                    refine ⟨_, _, _, rfl, hAsz, rfl, by simp only; omega, fun _ => ⟨by rw [size_blit]; exact hN, fun j hj => hfr j (by rwa [size_blit] at hj)⟩, by rw [size_blit]; simp only; omega, fun j hj => ?_⟩
                    rw [hAsz] at hj
                    have hdl : ds.toList.length = n * i.size := by have := hcr.1; simp; omega
                    rw [getD_blit]
                    by_cases hjl : j < len * i.size
                    · rw [getD_append_left' _ _ _ (by omega), getD_extract _ _ _ _ hle, if_pos hjl, if_neg (by simp only; omega)]
                      have := q7 (o + j) (by omega)
                      simpa [Nat.add_assoc] using this
                    · rw [getD_append_right' _ _ _ (by omega), hextsz, if_pos (by simp only; rw [Nat.add_mul] at hj e2; omega)]
                      have e4 : (f b).off + o + j - ((f b).off + (o + len * i.size)) = j - len * i.size := by omega
                      simp only [e4]
                      have := hcr.list.2 (j - len * i.size)
                      simpa [Array.getD_eq_getD_getElem?, List.getD] using this
                  have hmv := Step.move hs hb rfl ⟨(f b).blk, (f b).off + o, (len + n) * i.size, (f b).N, i.size⟩ rfl ok_cells g2 horel g3 g4 g5 g6 g7
                  refine ⟨_, .slice (some ⟨(f b).blk, (f b).off + o, none⟩) (len + n) cap', w1, ?_, hmv, ?_⟩
                  · rw [append_room w h0 h1 hu hd hie hz hsz _ len cap' x' hA hreal]
                    simp only [addr_add]
                    rw [Nat.add_assoc, g1]
                    rfl
                  · refine .slice h.length 0 _ _ _ _ _ (by omega) ?_ ?_ (.inr ⟨?_, ?_, ?_, by omega⟩)
                    · rw [upd_eq]
                    · rw [upd_eq]; rfl
                    · rw [upd_eq]; exact k1
                    · rw [upd_eq]; simp
                    · rw [upd_eq]; simp only; omega
                · obtain ⟨f1, r', w1, g1, g2, g3⟩ := grow (some ⟨(f b).blk, (f b).off + o, none⟩) len cap' (h.set b .dead) olds _ (Step.kill hsd b) (by simp) (by omega) hb1 hb2 (by simpa [Builtin.firstCells] using ho1) hold hextsz
                  exact ⟨f1, r', w1, g1, g2, g3⟩
              · have e0 : c.extract o (o + 0 * i.size) = #[] := by simp; omega
                obtain ⟨f1, r', w1, g1, g2, g3⟩ := grow (some a') 0 0 (h.set b .dead) #[] #[] (Step.kill hsd b) (by simp) (by omega) hb1 hb2 (by simp [Builtin.firstCells, run_loadCells_zero]) crel_nil (by simp)
                rw [e0]
                exact ⟨f1, r', w1, g1, g2, g3⟩
            · cases ha
        · cases ha
      · cases ha
  · cases ha

end Go.Am
