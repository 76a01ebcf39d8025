import Derived.Test.YtihdilnanhjedaaAm46x
set_option linter.unusedVariables false
set_option linter.unusedSimpArgs false
/- Digits: the plain laws. -/
namespace Go.Am
open Go

theorem all8 {p : UInt8 → Prop} (h : ∀ n : Fin 256, p (UInt8.ofNat n.1)) (c : UInt8) : p c := by
  have := h ⟨c.toNat, c.toNat_lt⟩
  simpa using this
def low (c : UInt8) : UInt8 := if 65 ≤ c.toNat ∧ c.toNat ≤ 70 then c + 32 else c
theorem dig_tab : ∀ n : Fin 16, dz (dig n.1) = UInt8.ofNat n.1 ∧ isD (dig n.1) = true := by decide +kernel
theorem dz_dig {n : Nat} (h : n < 16) : dz (dig n) = UInt8.ofNat n := (dig_tab ⟨n, h⟩).1
theorem isD_dig {n : Nat} (h : n < 16) : isD (dig n) = true := (dig_tab ⟨n, h⟩).2
theorem dig_dz (c : UInt8) : isD c = true → dig (dz c).toNat = low c := all8 (p := fun c => isD c = true → dig (dz c).toNat = low c) (by decide +kernel) c
theorem dz_lt (c : UInt8) : (dz c).toNat < 16 := all8 (p := fun c => (dz c).toNat < 16) (by decide +kernel) c
theorem dz_low (c : UInt8) : dz (low c) = dz c := all8 (p := fun c => dz (low c) = dz c) (by decide +kernel) c
theorem isD_low (c : UInt8) : isD (low c) = isD c := all8 (p := fun c => isD (low c) = isD c) (by decide +kernel) c
theorem low_48 (c : UInt8) : low c = 48 ↔ c = 48 := all8 (p := fun c => low c = 48 ↔ c = 48) (by decide +kernel) c
theorem low_120 (c : UInt8) : low c = 120 ↔ c = 120 := all8 (p := fun c => low c = 120 ↔ c = 120) (by decide +kernel) c
theorem pr_split (b : UInt8) : pr (UInt8.ofNat (b.toNat / 16)) (UInt8.ofNat (b.toNat % 16)) = b := all8 (p := fun b => pr (UInt8.ofNat (b.toNat / 16)) (UInt8.ofNat (b.toNat % 16)) = b) (by decide +kernel) b
theorem hexB_tab : ∀ n m : Fin 16, hexB (pr (UInt8.ofNat n.1) (UInt8.ofNat m.1)) = [dig n.1, dig m.1] := by decide +kernel
theorem hexB_pr {x y : UInt8} (hx : x.toNat < 16) (hy : y.toNat < 16) : hexB (pr x y) = [dig x.toNat, dig y.toNat] := by
  have := hexB_tab ⟨x.toNat, hx⟩ ⟨y.toNat, hy⟩
  simpa using this

/-! the size of letters -/
theorem cut_low (s : List UInt8) : cutS (s.map low) = (cutS s).map (List.map low) := by
  match s with
  | [] => rfl
  | [a] => simp [cutS]
  | a :: b :: r =>
    by_cases h : a = 48 ∧ b = 120
    · obtain ⟨rfl, rfl⟩ := h; rfl
    · have e1 : cutS (a :: b :: r) = none := by
        unfold cutS; split
        · rename_i e; simp at e; exact absurd ⟨e.1, e.2.1⟩ h
        · rfl
      have e2 : cutS (low a :: low b :: r.map low) = none := by
        unfold cutS; split
        · rename_i e
          simp only [List.cons.injEq] at e
          exact absurd ⟨(low_48 a).1 e.1, (low_120 b).1 e.2.1⟩ h
        · rfl
      simp only [List.map_cons, e1, e2]; rfl
theorem valsR_low (r : List UInt8) : valsR (r.map low) = valsR r := by
  have e1 : (r.map low).all isD = r.all isD := by
    rw [List.all_map]; congr 1; funext c; exact isD_low c
  have e2 : (r.map low).map dz = r.map dz := by
    rw [List.map_map]; congr 1; funext c; exact dz_low c
  rw [valsR, valsR, e1, e2]
theorem vals_low (s : List UInt8) : valsS (s.map low) = valsS s := by
  rw [valsS, valsS, cut_low]
  cases cutS s with
  | none => rfl
  | some r => exact valsR_low r
theorem read_low (s : List UInt8) : readM (s.map low) = readM s := by rw [readM, readM, vals_low]
theorem count_low (s : List UInt8) : countM (s.map low) = countM s := by rw [countM, countM, vals_low]

/-! what is read is written again -/
theorem vals_some {s l : List UInt8} (h : valsS s = some l) : ∃ r, s = 48 :: 120 :: r ∧ r.all isD = true ∧ l = r.map dz := by
  unfold valsS at h
  cases hc : cutS s with
  | none => rw [hc] at h; cases h
  | some r =>
    rw [hc] at h
    simp only [Option.bind_some, valsR] at h
    split at h
    · rename_i ha
      cases h
      refine ⟨r, ?_, ha, rfl⟩
      unfold cutS at hc; split at hc <;> cases hc; rfl
    · cases h
theorem dig_map {r : List UInt8} (h : r.all isD = true) : (r.map dz).map (fun x => dig x.toNat) = r.map low := by
  rw [List.map_map]
  apply List.map_congr_left
  intro c hc
  exact dig_dz c (List.all_eq_true.1 h c hc)
theorem hexL_pairs : ∀ (l : List UInt8), l.length % 2 = 0 → (∀ x ∈ l, x.toNat < 16) → hexL (pairsL l) = l.map fun x => dig x.toNat
  | [], _, _ => rfl
  | [_], h, _ => by simp at h
  | a :: b :: r, h, hl => by
    have := hexL_pairs r (by simp at h; omega) (fun x hx => hl x (by simp [hx]))
    rw [pairsL, hexL, List.flatMap_cons, ← hexL, this, hexB_pr (hl a (by simp)) (hl b (by simp))]
    rfl
theorem vals_lt {r : List UInt8} : ∀ x ∈ r.map dz, x.toNat < 16 := by
  intro x hx
  obtain ⟨c, _, rfl⟩ := List.mem_map.1 hx
  exact dz_lt c
theorem low_pre (r : List UInt8) : (48 :: 120 :: r).map low = 48 :: 120 :: r.map low := rfl
theorem write_read {s a : List UInt8} (h : readM s = some a) : hexW a = s.map low := by
  unfold readM at h
  cases hv : valsS s with
  | none => rw [hv] at h; cases h
  | some l =>
    rw [hv] at h
    simp only [Option.bind_some] at h
    split at h
    · rename_i he
      cases h
      obtain ⟨r, rfl, ha, rfl⟩ := vals_some hv
      rw [hexW, hexL_pairs _ he vals_lt, dig_map ha, low_pre]
    · cases h

/-! words: zeros ahead -/
theorem byteAt_0 (k : Nat) : byteAt 0 k = 0 := by simp [byteAt]
theorem rd_zero {bs : List UInt8} {n : Nat} (h : byteR bs n = 0) : rd bs (n + 1) = rd bs n := by
  simp only [rd, h, byteAt_0]
  split
  · rw [UInt64.or_zero, Vector.set_getElem_self]
  · rfl
def pad32 (p : List UInt8) : List UInt8 := List.replicate (32 - p.length) 0 ++ p
theorem length_pad32 {p : List UInt8} (h : p.length ≤ 32) : (pad32 p).length = 32 := by simp [pad32]; omega
theorem byteR_pad {p : List UInt8} (h : p.length ≤ 32) {i : Nat} (hi : i < p.length) : byteR (pad32 p) i = byteR p i := by
  unfold byteR
  rw [length_pad32 h, List.getD_eq_getElem?_getD, List.getD_eq_getElem?_getD]
  unfold pad32
  rw [List.getElem?_append_right (by simp; omega), List.length_replicate]
  congr 2; omega
theorem byteR_pad0 {p : List UInt8} (h : p.length ≤ 32) {i : Nat} (hi : p.length ≤ i) (h32 : i < 32) : byteR (pad32 p) i = 0 := by
  unfold byteR
  rw [length_pad32 h, List.getD_eq_getElem?_getD]
  unfold pad32
  rw [List.getElem?_append_left (by simp; omega), List.getElem?_replicate, if_pos (by omega)]; rfl
theorem rd_pad {p : List UInt8} (h : p.length ≤ 32) : rd (pad32 p) 32 = rdW p := by
  have key : ∀ k, p.length + k ≤ 32 → rd (pad32 p) (p.length + k) = rd p p.length := by
    intro k
    induction k with
    | zero => intro _; exact rd_congr _ fun i hi => byteR_pad h hi
    | succ k ih =>
      intro hk
      rw [← Nat.add_assoc, rd_zero (byteR_pad0 h (by omega) (by omega))]
      exact ih (by omega)
  have := key (32 - p.length) (by omega)
  rw [show p.length + (32 - p.length) = 32 by omega] at this
  rw [this, rdW, Nat.min_eq_right h]
theorem bytesW_rdW {p : List UInt8} (h : p.length ≤ 32) : bytesW (rdW p) = pad32 p := by rw [← rd_pad h, bytesW_rd (length_pad32 h)]
theorem hexL_append (a b : List UInt8) : hexL (a ++ b) = hexL a ++ hexL b := by simp [hexL]
theorem hexL_zeros : ∀ k, hexL (List.replicate k 0) = List.replicate (2 * k) 48
  | 0 => rfl
  | k + 1 => by
    rw [List.replicate_succ, hexL, List.flatMap_cons, ← hexL, hexL_zeros k, show 2 * (k + 1) = 2 * k + 1 + 1 by omega, List.replicate_succ, List.replicate_succ]
    rfl
theorem dropWhile_zeros (k : Nat) (x : List UInt8) : (List.replicate k 48 ++ x).dropWhile (· == 48) = x.dropWhile (· == 48) := by
  induction k with
  | zero => rfl
  | succ k ih => rw [List.replicate_succ, List.cons_append, List.dropWhile_cons]; simp
theorem trimN_zeros (k : Nat) (x : List UInt8) : trimN (List.replicate k 48 ++ x) = trimN x := by rw [trimN, trimN, dropWhile_zeros]
theorem trimN_one {d : UInt8} {y : List UInt8} (h : d ≠ 48) : trimN (d :: y) = d :: y := by simp [trimN, h]
theorem dig_48 {n : Nat} (h : n < 16) : dig n = 48 ↔ n = 0 := by
  have : ∀ n : Fin 16, dig n.1 = 48 ↔ n.1 = 0 := by decide
  exact this ⟨n, h⟩
theorem length_evenL (l : List UInt8) : (evenL l).length % 2 = 0 := by
  unfold evenL; split
  · assumption
  · rw [List.length_cons]; omega
theorem write_count {s : List UInt8} {w : Word4} (h : countM s = some w) : numW w = s.map low := by
  unfold countM at h
  cases hv : valsS s with
  | none => rw [hv] at h; cases h
  | some l =>
    rw [hv] at h
    simp only [Option.bind_some] at h
    split at h
    · rename_i hk
      cases h
      obtain ⟨r, rfl, ha, rfl⟩ := vals_some hv
      have hlt := vals_lt (r := r)
      obtain ⟨l, hl⟩ : ∃ l, l = r.map dz := ⟨_, rfl⟩
      rw [← hl] at hk hlt ⊢
      have hdg := dig_map ha
      rw [← hl] at hdg
      have h64 : l.length ≤ 64 := by simp only [cntOk, Bool.and_eq_true, decide_eq_true_eq] at hk; exact hk.1.2
      have h1 : 1 ≤ l.length := by simp only [cntOk, Bool.and_eq_true, decide_eq_true_eq] at hk; exact hk.1.1
      have hev : ∀ x ∈ evenL l, x.toNat < 16 := by
        intro x hx
        unfold evenL at hx; split at hx
        · exact hlt x hx
        · rcases List.mem_cons.1 hx with rfl | hx
          · decide
          · exact hlt x hx
      have hp : (pairsL (evenL l)).length ≤ 32 := by
        rw [length_pairsL]; unfold evenL; split
        · omega
        · rw [List.length_cons]; omega
      rw [numW, bytesW_rdW hp, pad32, hexL_append, hexL_zeros, trimN_zeros, hexL_pairs _ (length_evenL l) hev, low_pre, ← hdg]
      congr 2
      have e1 : trimN ((evenL l).map fun x => dig x.toNat) = trimN (l.map fun x => dig x.toNat) := by
        unfold evenL; split
        · rfl
        · rw [List.map_cons]
          exact trimN_zeros 1 _
      rw [e1]
      match l, h1, hk, hlt with
      | d :: y, _, hk, hlt =>
        rw [List.map_cons]
        by_cases hd : d = 0
        · subst hd
          have : y = [] := by
            simp only [cntOk, Bool.and_eq_true] at hk
            have h2 := hk.2
            cases y with
            | nil => rfl
            | cons e y => simp at h2
          subst this
          rfl
        · refine trimN_one fun e => hd ?_
          have := (dig_48 (hlt d (by simp))).1 e
          exact UInt8.toNat_inj.1 this
    · cases h

/-- bytes in a block, as a string -/
theorem aconv_blk {P : Program} {h : AH} {src dst e : TypeId} {b es n cap : Nat} {rw : Bool} {l : List UInt8} (hs : P.underlying src = some (.slice e)) (he : P.underlying e = some (.int .u8)) (hd : P.underlying dst = some .string) (hn : l.length = n) (h0 : n ≠ 0)
    (hb : h[b]? = some (.cells (flatV encU8 l) es rw)) : aconvert P h src dst (.slice (some ⟨b, 0, none⟩) n cap) = some (.string (bs l), h) := by
  subst hn
  have e1 : ((flatV encU8 l).extract 0 (0 + l.length)).toList = l.map fun b => Value.int .u8 b.toNat := by
    rw [Nat.zero_add, ← size_u8 l, Array.extract_size, flat_u8]
  have e2 : 0 + l.length ≤ (flatV encU8 l).size := by rw [size_u8]; omega
  simp only [aconvert, hs, hd, he, hb, if_neg h0, if_pos e2, e1, bytesIn_u8]
  rfl
end Go.Am
namespace Go.Am
open Go
/-! what is written is read -/
theorem all_hexL (l : List UInt8) : (hexL l).all isD = true := by
  rw [List.all_eq_true]
  intro c hc
  obtain ⟨b, _, hb⟩ := List.mem_flatMap.1 hc
  have := b.toNat_lt
  simp only [hexB, List.mem_cons, List.not_mem_nil, or_false] at hb
  rcases hb with rfl | rfl
  · exact isD_dig (by omega)
  · exact isD_dig (by omega)
/-- two numbers a byte -/
def nib (l : List UInt8) : List UInt8 := l.flatMap fun b => [UInt8.ofNat (b.toNat / 16), UInt8.ofNat (b.toNat % 16)]
theorem dz_hexL (l : List UInt8) : (hexL l).map dz = nib l := by
  induction l with
  | nil => rfl
  | cons b l ih =>
    have := b.toNat_lt
    rw [hexL, List.flatMap_cons, ← hexL, List.map_append, ih]
    show _ = [UInt8.ofNat (b.toNat / 16), UInt8.ofNat (b.toNat % 16)] ++ nib l
    congr 1
    simp only [hexB, List.map_cons, List.map_nil]
    rw [dz_dig (by omega), dz_dig (by omega)]
theorem length_nib (l : List UInt8) : (nib l).length = 2 * l.length := by rw [← dz_hexL, List.length_map, length_hexL]
theorem pairs_nib (l : List UInt8) : pairsL (nib l) = l := by
  induction l with
  | nil => rfl
  | cons b l ih =>
    rw [nib, List.flatMap_cons, ← nib]
    show pr (UInt8.ofNat (b.toNat / 16)) (UInt8.ofNat (b.toNat % 16)) :: pairsL (nib l) = b :: l
    rw [pr_split, ih]
theorem vals_pre {r : List UInt8} : valsS (48 :: 120 :: r) = valsR r := rfl
theorem read_write (b : List UInt8) : readM (hexW b) = some b := by
  rw [readM, hexW, vals_pre, valsR, if_pos (all_hexL b), Option.bind_some, dz_hexL, if_pos (by rw [length_nib]; omega), pairs_nib]
theorem pairs_zeros : ∀ (m : Nat) (x : List UInt8), pairsL (List.replicate (2 * m) 0 ++ x) = List.replicate m 0 ++ pairsL x
  | 0, _ => rfl
  | m + 1, x => by
    rw [show 2 * (m + 1) = 2 * m + 1 + 1 by omega, List.replicate_succ, List.replicate_succ, List.replicate_succ]
    show pr 0 0 :: pairsL (List.replicate (2 * m) 0 ++ x) = 0 :: (List.replicate m 0 ++ pairsL x)
    rw [pairs_zeros m x]; rfl
/-- the zeros that are taken off -/
theorem trim_split : ∀ (x : List UInt8), x ≠ [] → ∃ k, x = List.replicate k 48 ++ trimN x
  | [], h => absurd rfl h
  | [d], _ => by
    by_cases hd : d = 48
    · subst hd; exact ⟨0, rfl⟩
    · exact ⟨0, by rw [trimN_one hd]; rfl⟩
  | d :: e :: y, _ => by
    by_cases hd : d = 48
    · subst hd
      obtain ⟨k, hk⟩ := trim_split (e :: y) (by simp)
      refine ⟨k + 1, ?_⟩
      have : trimN (48 :: e :: y) = trimN (e :: y) := trimN_zeros 1 (e :: y)
      rw [this, List.replicate_succ, List.cons_append, ← hk]
    · exact ⟨0, by rw [trimN_one hd]; rfl⟩
theorem trim_front {x : List UInt8} {y : List UInt8} (h : trimN x = 48 :: y) : y = [] := by
  unfold trimN at h
  split at h
  · cases h; rfl
  · have := List.head?_dropWhile_not (· == 48) x
    rw [h] at this
    simp at this
theorem trim_ne (x : List UInt8) : 1 ≤ (trimN x).length := by
  unfold trimN
  split
  · decide
  · rename_i h
    cases hd : x.dropWhile (· == 48) with
    | nil => rw [hd] at h; exact absurd rfl h
    | cons _ _ => simp
theorem rdW_zeros {m : Nat} {p : List UInt8} (h : m + p.length ≤ 32) : rdW (List.replicate m 0 ++ p) = rdW p := by
  have e : pad32 (List.replicate m 0 ++ p) = pad32 p := by
    unfold pad32
    rw [List.length_append, List.length_replicate, ← List.append_assoc, List.replicate_append_replicate]
    congr 2; omega
  rw [← rd_pad (by simp; omega), e, rd_pad (by omega)]
theorem rdW_bytes (a : Word4) : rdW (bytesW a) = a := by
  rw [rdW, length_bytesW]; exact rd_bytesW a
theorem count_number (a : Word4) : countM (numW a) = some a := by
  have hl : (hexL (bytesW a)).length = 64 := by rw [length_hexL, length_bytesW]
  obtain ⟨k, hk⟩ := trim_split (hexL (bytesW a)) (by intro h0; rw [h0] at hl; cases hl)
  have h1 := trim_ne (hexL (bytesW a))
  have h2 : k + (trimN (hexL (bytesW a))).length = 64 := by
    have := congrArg List.length hk
    rw [List.length_append, List.length_replicate] at this
    omega
  have hf := fun y => trim_front (x := hexL (bytesW a)) (y := y)
  have hall : (trimN (hexL (bytesW a))).all isD = true := by
    rw [List.all_eq_true]
    intro c hc
    exact List.all_eq_true.1 (all_hexL (bytesW a)) c (by rw [hk]; exact List.mem_append_right _ hc)
  have hd : nib (bytesW a) = List.replicate k 0 ++ (trimN (hexL (bytesW a))).map dz := by
    rw [← dz_hexL, hk, List.map_append, List.map_replicate]
    rw [← hk]; rfl
  obtain ⟨x, hx⟩ : ∃ x, x = trimN (hexL (bytesW a)) := ⟨_, rfl⟩
  rw [← hx] at h1 h2 hf hall hd
  obtain ⟨l, hl⟩ : ∃ l, l = x.map dz := ⟨_, rfl⟩
  have hll : l.length = x.length := by rw [hl, List.length_map]
  have hok : cntOk l = true := by
    match x, l, hl, h1, hall, hf with
    | c :: y, _, rfl, _, hall, hf =>
      have h3 : ((c :: y).map dz).length ≤ 64 := by rw [List.length_map]; omega
      have h4 : 1 ≤ ((c :: y).map dz).length := by simp
      unfold cntOk
      rw [decide_eq_true h3, decide_eq_true h4]
      by_cases hz : dz c = 0
      · have hc : c = 48 := by
          have := dig_dz c (by simp at hall; exact hall.1)
          rw [hz] at this
          exact (low_48 c).1 this.symm
        subst hc
        have := hf y rfl
        subst this
        rfl
      · simp [hz]
  have hpb := pairs_nib (bytesW a)
  rw [hd, ← hl] at hpb
  rw [countM, numW, vals_pre, valsR, ← hx, if_pos hall, Option.bind_some, ← hl, if_pos hok]
  congr 1
  unfold evenL
  by_cases he : l.length % 2 = 0
  · rw [if_pos he]
    have hke : k = 2 * (k / 2) := by omega
    rw [hke, pairs_zeros] at hpb
    have := rdW_bytes a
    rw [← hpb, rdW_zeros (by rw [length_pairsL]; omega)] at this
    exact this
  · rw [if_neg he]
    have hke : List.replicate k (0 : UInt8) ++ l = List.replicate (2 * (k / 2)) 0 ++ (0 :: l) := by
      have : k = 2 * (k / 2) + 1 := by omega
      conv => lhs; rw [this]
      rw [List.replicate_succ']
      simp
    rw [hke, pairs_zeros] at hpb
    have := rdW_bytes a
    rw [← hpb, rdW_zeros (by rw [length_pairsL, List.length_cons]; omega)] at this
    exact this
end Go.Am
set_option linter.unusedVariables false
set_option linter.unusedSimpArgs false
/- Words by their bits; digits as numbers. -/
namespace Go.Am
open Go

def toI (l : List UInt8) : List Int := l.map fun x => ((x.toNat : Nat) : Int)
theorem length_toI (l : List UInt8) : (toI l).length = l.length := by simp [toI]
theorem toI_get {l : List UInt8} {i : Nat} (h : i < (toI l).length) : (toI l)[i] = ((((l[i]'(by rw [length_toI] at h; exact h)).toNat : Nat)) : Int) := by simp [toI]
theorem toI_snoc (l : List UInt8) (d : UInt8) : toI (l ++ [d]) = toI l ++ [((d.toNat : Nat) : Int)] := by simp [toI]
def dgI (c : UInt8) : Int := match dgt c with | some d => ((d.toNat : Nat) : Int) | none => -1
theorem dgI_yes {c : UInt8} (h : isD c = true) : dgI c = (((dz c).toNat : Nat) : Int) := by
  unfold isD at h; unfold dgI dz
  cases hd : dgt c with
  | none => rw [hd] at h; cases h
  | some d => rfl
theorem dgI_no {c : UInt8} (h : isD c = false) : dgI c = -1 := by
  unfold isD at h; unfold dgI
  cases hd : dgt c with
  | none => rfl
  | some d => rw [hd] at h; cases h
theorem pr_tab : ∀ n m : Fin 16, (pr (UInt8.ofNat n.1) (UInt8.ofNat m.1)).toNat = 16 * n.1 + m.1 := by decide +kernel
theorem pr_toNat {a b : UInt8} (ha : a.toNat < 16) (hb : b.toNat < 16) : (pr a b).toNat = 16 * a.toNat + b.toNat := by
  have := pr_tab ⟨a.toNat, ha⟩ ⟨b.toNat, hb⟩
  simpa using this

/-! bits -/
def wbit (w : Word4) (k : Nat) : Bool := if h : k / 64 < 4 then w[k / 64].toNat.testBit (k % 64) else false
def bitAt (k : Nat) : UInt64 := UInt64.ofNat (2 ^ k)
theorem bitAt_toNat {k : Nat} (h : k < 64) : (bitAt k).toNat = 2 ^ k := by
  unfold bitAt
  rw [UInt64.toNat_ofNat']
  exact Nat.mod_eq_of_lt (Nat.pow_lt_pow_right (by decide) h)
def withW (w : Word4) (i : Nat) (b : Bool) : Word4 := if h : i / 64 < 4 then w.set (i / 64) (bif b then w[i / 64] ||| bitAt (i % 64) else w[i / 64] &&& ~~~(bitAt (i % 64))) else w
def bw (f : Nat → Bool) : Nat → Word4
  | 0 => zeroW
  | i + 1 => withW (bw f i) i (f i)
theorem wbit_with (w : Word4) {i : Nat} (hi : i < 256) (b : Bool) (k : Nat) : wbit (withW w i b) k = if k = i then b else wbit w k := by
  have h4 : i / 64 < 4 := by omega
  have hm : i % 64 < 64 := Nat.mod_lt _ (by decide)
  unfold withW
  rw [dif_pos h4]
  unfold wbit
  by_cases hk : k / 64 < 4
  · rw [dif_pos hk]
    by_cases hq : i / 64 = k / 64
    · have hg : (w.set (i / 64) (bif b then w[i / 64] ||| bitAt (i % 64) else w[i / 64] &&& ~~~(bitAt (i % 64))))[k / 64] = (bif b then w[k / 64] ||| bitAt (i % 64) else w[k / 64] &&& ~~~(bitAt (i % 64))) := by
        have h2 : w[i / 64] = w[k / 64] := by simp only [hq]
        rw [h2]
        simp only [hq, Vector.getElem_set_self]
      rw [hg, dif_pos hk]
      cases b with
      | true =>
        rw [cond_true, UInt64.toNat_or, Nat.testBit_or, bitAt_toNat hm, Nat.testBit_two_pow]
        by_cases he : k = i
        · rw [if_pos he, decide_eq_true (show i % 64 = k % 64 by rw [he]), Bool.or_true]
        · rw [if_neg he, decide_eq_false (by omega), Bool.or_false]
      | false =>
        have hn : (~~~(bitAt (i % 64))).toNat = 2 ^ 64 - (2 ^ (i % 64) + 1) := by
          rw [UInt64.toNat_not, bitAt_toNat hm]
          simp only [UInt64.size]
          omega
        rw [cond_false, UInt64.toNat_and, Nat.testBit_and, hn, Nat.testBit_two_pow_sub_succ (Nat.pow_lt_pow_right (by decide) hm), Nat.testBit_two_pow]
        by_cases he : k = i
        · rw [if_pos he, decide_eq_true (show i % 64 = k % 64 by rw [he]), Bool.not_true, Bool.and_false, Bool.and_false]
        · rw [if_neg he, decide_eq_false (p := i % 64 = k % 64) (by omega), decide_eq_true (p := k % 64 < 64) (Nat.mod_lt _ (by decide))]; simp
    · rw [Vector.getElem_set_ne _ _ hq, dif_pos hk, if_neg (by intro e; rw [e] at hq; exact hq rfl)]
  · rw [dif_neg hk, dif_neg hk, if_neg (by omega)]
theorem wbit_zero (k : Nat) : wbit zeroW k = false := by
  unfold wbit
  split
  · rename_i h
    have : ∀ j : Nat, (hj : j < 4) → (zeroW[j]).toNat = 0 := by
      intro j hj
      have : j = 0 ∨ j = 1 ∨ j = 2 ∨ j = 3 := by omega
      rcases this with rfl | rfl | rfl | rfl <;> rfl
    rw [this _ h]; simp
  · rfl
theorem wbit_bw (f : Nat → Bool) : ∀ (i : Nat), i ≤ 256 → ∀ k, wbit (bw f i) k = (decide (k < i) && f k)
  | 0, _, k => by rw [bw, wbit_zero]; simp
  | i + 1, hi, k => by
    rw [bw, wbit_with _ (by omega), wbit_bw f i (by omega)]
    by_cases he : k = i
    · rw [if_pos he, he]; simp
    · rw [if_neg he]
      by_cases h2 : k < i
      · rw [decide_eq_true h2, decide_eq_true (show k < i + 1 by omega)]
      · rw [decide_eq_false h2, decide_eq_false (show ¬ k < i + 1 by omega)]
theorem testBit_valW (w : Word4) (k : Nat) : (valW w).testBit k = wbit w k := by
  have h0 := w[0].toNat_lt; have h1 := w[1].toNat_lt; have h2 := w[2].toNat_lt; have h3 := w[3].toNat_lt
  have e : valW w = 2 ^ 64 * (2 ^ 64 * (2 ^ 64 * w[3].toNat + w[2].toNat) + w[1].toNat) + w[0].toNat := by unfold valW; omega
  rw [e, Nat.testBit_two_pow_mul_add _ h0]
  unfold wbit
  by_cases c0 : k < 64
  · rw [if_pos c0, dif_pos (by omega)]
    have a1 : k / 64 = 0 := by omega
    have a2 : k % 64 = k := by omega
    simp only [a1, a2]
  · rw [if_neg c0, Nat.testBit_two_pow_mul_add _ h1]
    by_cases c1 : k - 64 < 64
    · rw [if_pos c1, dif_pos (by omega)]
      have a1 : k / 64 = 1 := by omega
      have a2 : k % 64 = k - 64 := by omega
      simp only [a1, a2]
    · rw [if_neg c1, Nat.testBit_two_pow_mul_add _ h2]
      by_cases c2 : k - 64 - 64 < 64
      · rw [if_pos c2, dif_pos (by omega)]
        have a1 : k / 64 = 2 := by omega
        have a2 : k % 64 = k - 64 - 64 := by omega
        simp only [a1, a2]
      · rw [if_neg c2]
        by_cases c3 : k / 64 < 4
        · rw [dif_pos c3]
          have a1 : k / 64 = 3 := by omega
          have a2 : k % 64 = k - 64 - 64 - 64 := by omega
          simp only [a1, a2]
        · rw [dif_neg c3]
          exact Nat.testBit_lt_two_pow (Nat.lt_of_lt_of_le h3 (Nat.pow_le_pow_right (by decide) (by omega)))
/-- moved up by n -/
def shlB (w : Word4) (n : Nat) (i : Nat) : Bool := decide (n ≤ i) && wbit w (i - n)
def shlW (w : Word4) (n : Nat) : Word4 := bw (shlB w n) 256
theorem shlW_val (w : Word4) (n : Nat) : valW (shlW w n) = valW w * 2 ^ n % 2 ^ 256 := by
  apply Nat.eq_of_testBit_eq
  intro k
  rw [testBit_valW, shlW, wbit_bw _ 256 (Nat.le_refl _), Nat.testBit_mod_two_pow, ← Nat.shiftLeft_eq, Nat.testBit_shiftLeft, testBit_valW, shlB]
end Go.Am
namespace Go.Am
open Go
/-! numbers of digits -/
def hx (acc : Nat) (d : UInt8) : Nat := 16 * acc + d.toNat
def be (acc : Nat) (b : UInt8) : Nat := 256 * acc + b.toNat
def hexN (l : List UInt8) : Nat := l.foldl hx 0
theorem fold_pairs : ∀ (l : List UInt8) (acc : Nat), l.length % 2 = 0 → (∀ x ∈ l, x.toNat < 16) → (pairsL l).foldl be acc = l.foldl hx acc
  | [], _, _, _ => rfl
  | [_], _, h, _ => by simp at h
  | a :: b :: r, acc, h, hl => by
    rw [pairsL, List.foldl_cons, List.foldl_cons, List.foldl_cons, fold_pairs r _ (by simp at h; omega) (fun x hx => hl x (by simp [hx]))]
    congr 1
    simp only [be, hx]
    rw [pr_toNat (hl a (by simp)) (hl b (by simp))]
    omega
theorem be_zeros (k : Nat) (p : List UInt8) : (List.replicate k 0 ++ p).foldl be 0 = p.foldl be 0 := by
  induction k with
  | zero => rfl
  | succ k ih => rw [List.replicate_succ, List.cons_append, List.foldl_cons]; exact ih
theorem le_succ (f : Nat → Nat) : ∀ n, le f (n + 1) = f 0 + 256 * le (fun k => f (k + 1)) n
  | 0 => by simp [le]
  | n + 1 => by
    rw [le, le_succ f n, le]
    have : 2 ^ (8 * (n + 1)) = 256 * 2 ^ (8 * n) := by rw [Nat.mul_add, Nat.pow_add, Nat.mul_comm]
    rw [this, Nat.mul_add, ← Nat.add_assoc]
    congr 1
    rw [Nat.mul_left_comm]
theorem le_split (f : Nat → Nat) (m : Nat) : ∀ n, le f (m + n) = le f m + le (fun k => f (m + k)) n * 2 ^ (8 * m)
  | 0 => by simp [le]
  | n + 1 => by
    rw [← Nat.add_assoc, le, le_split f m n, le, Nat.add_mul, Nat.add_assoc, Nat.mul_assoc, ← Nat.pow_add]
    congr 4; omega
theorem le_congr {f g : Nat → Nat} : ∀ n, (∀ k, k < n → f k = g k) → le f n = le g n
  | 0, _ => rfl
  | n + 1, h => by rw [le, le, le_congr n (fun k hk => h k (by omega)), h n (by omega)]
theorem byteR_snoc0 (q : List UInt8) (b : UInt8) : byteR (q ++ [b]) 0 = b := by
  unfold byteR
  rw [List.getD_eq_getElem?_getD, List.getElem?_append_right (by simp)]
  simp
theorem byteR_snoc (q : List UInt8) (b : UInt8) {k : Nat} (hk : k < q.length) : byteR (q ++ [b]) (k + 1) = byteR q k := by
  unfold byteR
  rw [List.getD_eq_getElem?_getD, List.getD_eq_getElem?_getD, List.getElem?_append_left (by simp; omega)]
  congr 2
  simp; omega
theorem le_byteR : ∀ (n : Nat) (p : List UInt8), p.length = n → le (fun k => (byteR p k).toNat) n = p.foldl be 0
  | 0, p, h => by rw [List.length_eq_zero_iff.1 h]; rfl
  | n + 1, p, h => by
    have hne : p ≠ [] := by intro h0; rw [h0] at h; cases h
    obtain ⟨q, b, rfl⟩ : ∃ q b, p = q ++ [b] := ⟨p.dropLast, p.getLast hne, (List.dropLast_concat_getLast hne).symm⟩
    have hq : q.length = n := by simpa using h
    rw [le_succ, List.foldl_append, ← le_byteR n q hq, byteR_snoc0]
    have := le_congr (f := fun k => (byteR (q ++ [b]) (k + 1)).toNat) (g := fun k => (byteR q k).toNat) n fun k hk => by
      show (byteR (q ++ [b]) (k + 1)).toNat = (byteR q k).toNat
      rw [byteR_snoc q b (by omega)]
    rw [this]
    show _ = 256 * _ + b.toNat
    omega
theorem valW_rd (bs : List UInt8) : valW (rd bs 32) = le (fun k => (byteR bs k).toNat) 32 := by
  have h := fun j (hj : j < 4) => rd_limb bs 32 (Nat.le_refl _) j hj
  have e : ∀ j, j < 4 → min 8 (32 - 8 * j) = 8 := by intro j hj; omega
  have s1 := le_split (fun k => (byteR bs k).toNat) 24 8
  have s2 := le_split (fun k => (byteR bs k).toNat) 16 8
  have s3 := le_split (fun k => (byteR bs k).toNat) 8 8
  have h0 := h 0 (by decide); have h1 := h 1 (by decide); have h2 := h 2 (by decide); have h3 := h 3 (by decide)
  rw [e _ (by decide)] at h0 h1 h2 h3
  simp only [Nat.mul_zero, Nat.zero_add, Nat.reduceMul, Nat.reduceAdd] at h0 h1 h2 h3 s1 s2 s3
  rw [s1, s2, s3]
  unfold valW
  rw [h0, h1, h2, h3]
theorem valW_rdW {p : List UInt8} (h : p.length ≤ 32) : valW (rdW p) = p.foldl be 0 := by
  rw [← rd_pad h, valW_rd, le_byteR 32 _ (length_pad32 h), pad32, be_zeros]
theorem evenL_fold (l : List UInt8) : (evenL l).foldl hx 0 = hexN l := by
  unfold evenL; split
  · rfl
  · rfl
theorem valW_digits {l : List UInt8} (h : l.length ≤ 64) (hl : ∀ x ∈ l, x.toNat < 16) : valW (rdW (pairsL (evenL l))) = hexN l := by
  have hev : ∀ x ∈ evenL l, x.toNat < 16 := by
    intro x hx
    unfold evenL at hx; split at hx
    · exact hl x hx
    · rcases List.mem_cons.1 hx with rfl | hx
      · decide
      · exact hl x hx
  have hp : (pairsL (evenL l)).length ≤ 32 := by
    rw [length_pairsL]; unfold evenL; split
    · omega
    · rw [List.length_cons]; omega
  rw [valW_rdW hp, fold_pairs _ _ (length_evenL l) hev, evenL_fold]
/-- the word of digits, by the document -/
def cwW (l : List UInt8) : Word4 := l.foldl (fun w d => (shlW w 4).set 0 ((shlW w 4)[0] ||| UInt64.ofNat d.toNat)) zeroW
theorem or_val (w : Word4) (d : UInt8) (hd : d.toNat < 16) (h : valW w % 16 = 0) : valW (w.set 0 (w[0] ||| UInt64.ofNat d.toNat)) = valW w + d.toNat := by
  have h0 := w[0].toNat_lt
  have hm : w[0].toNat % 16 = 0 := by unfold valW at h; omega
  have e : (w[0] ||| UInt64.ofNat d.toNat).toNat = w[0].toNat + d.toNat := by
    rw [UInt64.toNat_or, UInt64.toNat_ofNat', Nat.mod_eq_of_lt (by omega)]
    have := or_add (x := d.toNat) (b := w[0].toNat / 16) (k := 4) hd
    have e2 : w[0].toNat / 16 * 2 ^ 4 = w[0].toNat := by omega
    rw [e2, Nat.or_comm] at this
    omega
  have g0 : (w.set 0 (w[0] ||| UInt64.ofNat d.toNat))[0] = w[0] ||| UInt64.ofNat d.toNat := Vector.getElem_set_self ..
  have g1 : (w.set 0 (w[0] ||| UInt64.ofNat d.toNat))[1] = w[1] := Vector.getElem_set_ne _ _ (by decide)
  have g2 : (w.set 0 (w[0] ||| UInt64.ofNat d.toNat))[2] = w[2] := Vector.getElem_set_ne _ _ (by decide)
  have g3 : (w.set 0 (w[0] ||| UInt64.ofNat d.toNat))[3] = w[3] := Vector.getElem_set_ne _ _ (by decide)
  unfold valW
  rw [g0, g1, g2, g3, e]
  omega
theorem cwW_val : ∀ (n : Nat) (l : List UInt8), l.length = n → n ≤ 64 → (∀ x ∈ l, x.toNat < 16) → valW (cwW l) = hexN l ∧ hexN l < 16 ^ n
  | 0, l, h, _, _ => by rw [List.length_eq_zero_iff.1 h]; exact ⟨rfl, by decide⟩
  | n + 1, l, h, hn, hl => by
    have hne : l ≠ [] := by intro h0; rw [h0] at h; cases h
    obtain ⟨q, d, rfl⟩ : ∃ q b, l = q ++ [b] := ⟨l.dropLast, l.getLast hne, (List.dropLast_concat_getLast hne).symm⟩
    have hq : q.length = n := by simpa using h
    obtain ⟨h1, h2⟩ := cwW_val n q hq (by omega) (fun x hx => hl x (by simp [hx]))
    have hd := hl d (by simp)
    have h3 : hexN (q ++ [d]) = 16 * hexN q + d.toNat := by rw [hexN, List.foldl_append]; rfl
    have hp : 16 ^ (n + 1) = 16 * 16 ^ n := by rw [Nat.pow_succ, Nat.mul_comm]
    have hle : 16 ^ (n + 1) ≤ 16 ^ 64 := Nat.pow_le_pow_right (by decide) hn
    have h256 : (16 : Nat) ^ 64 = 2 ^ 256 := by decide
    have hsv := shlW_val (cwW q) 4
    rw [h1, Nat.mod_eq_of_lt (by omega)] at hsv
    have hc : cwW (q ++ [d]) = (shlW (cwW q) 4).set 0 ((shlW (cwW q) 4)[0] ||| UInt64.ofNat d.toNat) := by
      rw [cwW, List.foldl_append]; rfl
    refine ⟨?_, by omega⟩
    rw [hc, or_val _ d hd (by omega), hsv, h3]
    omega
theorem cwW_digits {l : List UInt8} (h : l.length ≤ 64) (hl : ∀ x ∈ l, x.toNat < 16) : cwW l = rdW (pairsL (evenL l)) := by
  apply valW_inj
  rw [(cwW_val l.length l rfl h hl).1, valW_digits h hl]
end Go.Am
namespace Go.Am
open Go
section
variable {P : Program} {t u : TypeId} {x y : Operand}
theorem abin_shlBit {n : Nat} (h : n < 64) : abinOp P .shl t x y (.int .u64 1) (.int .u64 ((n : Nat) : Int)) = some (.int .u64 (((bitAt n).toNat : Nat) : Int)) := by
  rw [abin_shl (by omega), bitAt_toNat h]
  have e1 : (1 : Int) * 2 ^ (min ((n : Nat) : Int).toNat IntKind.u64.bits) = ((2 ^ n : Nat) : Int) := by
    have : min ((n : Nat) : Int).toNat IntKind.u64.bits = n := by
      show min ((n : Nat) : Int).toNat 64 = n
      rw [Int.toNat_natCast]; omega
    rw [this]; push_cast; omega
  have h2 : 2 ^ n < 2 ^ 64 := Nat.pow_lt_pow_right (by decide) h
  rw [e1]
  generalize 2 ^ n = N at h2
  rw [wrap_u64_of _ (by omega) (by omega)]
theorem abin_andNotW (a b : UInt64) : abinOp P .andNot t x y (.int .u64 ((a.toNat : Nat) : Int)) (.int .u64 ((b.toNat : Nat) : Int)) = some (.int .u64 (((a &&& ~~~b).toNat : Nat) : Int)) := by
  rw [abin_andNot]
  have e : ∀ a : UInt64, BitVec.ofInt 64 ((a.toNat : Nat) : Int) = a.toBitVec := by intro a; rw [BitVec.ofInt_natCast]; simp
  have e2 : (BitVec.ofInt 64 ((a.toNat : Nat) : Int) &&& ~~~ BitVec.ofInt 64 ((b.toNat : Nat) : Int)).toNat = (a &&& ~~~b).toNat := by
    rw [e, e]; rfl
  have := (a &&& ~~~b).toNat_lt
  have e3 : IntKind.u64.wrap (((BitVec.ofInt 64 ((a.toNat : Nat) : Int) &&& ~~~ BitVec.ofInt 64 ((b.toNat : Nat) : Int)).toNat : Nat) : Int) = (((a &&& ~~~b).toNat : Nat) : Int) := by
    rw [e2]; exact wrap_u64_of _ (by omega) (by omega)
  exact congrArg (fun n => some (Value.int .u64 n)) e3
theorem abin_shrN {a n : Nat} (h : n < 64) : abinOp P .shr t x y (.int .u64 ((a : Nat) : Int)) (.int .u64 ((n : Nat) : Int)) = some (.int .u64 ((a / 2 ^ n : Nat) : Int)) := by
  rw [abin_shr (by omega)]
  have : min ((n : Nat) : Int).toNat IntKind.u64.bits = n := by
    show min ((n : Nat) : Int).toNat 64 = n
    rw [Int.toNat_natCast]; omega
  rw [this, Int.fdiv_eq_ediv_of_nonneg _ (Int.le_of_lt (Int.pow_pos (by decide)))]
  simp
theorem abin_and1N {a : Nat} (h : a < 18446744073709551616) : abinOp P .and t x y (.int .u64 ((a : Nat) : Int)) (.int .u64 1) = some (.int .u64 ((a % 2 : Nat) : Int)) := by
  rw [abin_and]
  have e2 : (BitVec.ofInt 64 ((a : Nat) : Int) &&& BitVec.ofInt 64 1).toNat = a % 2 := by
    rw [BitVec.toNat_and]
    have h1 : (BitVec.ofInt 64 ((a : Nat) : Int)).toNat = a := by rw [BitVec.ofInt_natCast, BitVec.toNat_ofNat, Nat.mod_eq_of_lt (by omega)]
    have h2 : (BitVec.ofInt 64 1).toNat = 1 := rfl
    rw [h1, h2, Nat.and_one_is_mod]
  have e3 : IntKind.u64.wrap (((BitVec.ofInt 64 ((a : Nat) : Int) &&& BitVec.ofInt 64 1).toNat : Nat) : Int) = ((a % 2 : Nat) : Int) := by
    rw [e2]; exact wrap_u64_of _ (by omega) (by omega)
  exact congrArg (fun n => some (Value.int .u64 n)) e3
end
attribute [go_sem high] abin_and1N abin_andNotW
theorem bit_eq (a r : Nat) : ((((a / 2 ^ r) % 2 : Nat) : Int) == 1) = a.testBit r := by
  rw [Nat.testBit_eq_decide_div_mod_eq]
  by_cases h : a / 2 ^ r % 2 = 1
  · rw [decide_eq_true h, h]; rfl
  · rw [decide_eq_false h, beq_eq_false_iff_ne]; omega
end Go.Am
namespace Go.Am
open Go
/-- so much is copied, the rest is zero -/
def tkI (r : List UInt8) (i : Nat) : List UInt8 := r.take i ++ List.replicate (r.length - i) 0
theorem length_tkI {r : List UInt8} {i : Nat} (hi : i ≤ r.length) : (tkI r i).length = r.length := by simp [tkI]; omega
theorem tkI_set {r : List UInt8} {i : Nat} (hi : i < r.length) : (tkI r i).set i r[i] = tkI r (i + 1) := by
  apply List.ext_getElem
  · rw [List.length_set, length_tkI (by omega), length_tkI (by omega)]
  · intro j h1 h2
    rw [length_tkI (by omega)] at h2
    rw [List.getElem_set]
    by_cases he : i = j
    · subst he
      rw [if_pos rfl]
      simp only [tkI, List.getElem_append, List.length_take]
      rw [dif_pos (by omega)]
      simp
    · rw [if_neg he]
      simp only [tkI, List.getElem_append, List.length_take]
      by_cases h3 : j < i
      · rw [dif_pos (by omega), dif_pos (by omega)]; simp
      · rw [dif_neg (by omega), dif_neg (by omega)]; simp
theorem tkI_all (r : List UInt8) : tkI r r.length = r := by simp [tkI]
theorem tkI_0 (r : List UInt8) : tkI r 0 = List.replicate r.length 0 := by simp [tkI]
end Go.Am
set_option linter.unusedVariables false
set_option linter.unusedSimpArgs false
/- Bytes compared; a block of the caller's written, and a value told. -/
namespace Go.Am
open Go

theorem find_none {p : Nat → Bool} {n : Nat} (h : (List.range n).find? p = none) {i : Nat} (hi : i < n) : p i = false := by
  have := List.find?_eq_none.1 h i (List.mem_range.2 hi)
  simpa using this
theorem cmpV_zero {xs ys : List UInt8} (hl : xs.length = ys.length) (h : cmpV (xs.map fun b => Value.int .u8 b.toNat).toArray (ys.map fun b => Value.int .u8 b.toNat).toArray = 0) : xs = ys := by
  have e : ∀ l : List UInt8, bytesV (l.map fun b => Value.int .u8 b.toNat).toArray = bs l := by
    intro l
    unfold bytesV bs
    congr 1
    rw [List.map_toArray, List.map_map]
    congr 1
    conv => rhs; rw [← List.map_id l]
    apply List.map_congr_left
    intro b _
    show (((b.toNat : Nat) : Int).toNat).toUInt8 = b
    simp
  unfold cmpV at h
  rw [e, e] at h
  unfold Extern.BytealgCompare.cmp at h
  rw [size_bs, size_bs] at h
  split at h
  · split at h <;> cases h
  · rename_i hn
    apply List.ext_getElem hl
    intro i h1 h2
    have := find_none hn (i := i) (by omega)
    have g : ∀ (l : List UInt8) (hi : i < l.length), (bs l)[i]! = l[i] := by
      intro l hi
      rw [getElem!_def, get_bs, List.getElem?_eq_getElem hi]
    rw [g xs h1, g ys h2] at this
    simpa using this
theorem apost_wroteV {P : Program} {h0 t : AH} {fn : Func} {R : Value → AH → Prop} {b k : Nat} {o : AObj} {v : Value} (hr : fn.results = #[.tmp k]) (ho : ∀ L, ORen id L o o) (hv : ∀ L, h0.length ≤ L → VRen id L v v) (hR : R v (h0.set b o)) (l : List Value) (hl : l.getD k junk = v) : apost P h0 fn R .ret l.toArray (h0.set b o ++ t) := by
  refine ⟨v, v, h0.set b o, by rw [aresults_tmp hr, getD_lit, hl], ?_, hR⟩
  have := Eases.tail (P := P) (h0 := h0) (hk := h0.set b o) (x := t) (l := [v]) (l1 := [v]) (by simp) (fun b' o' hb ha => ?_) ?_
  · exact this
  · by_cases he : b = b'
    · subst he
      have hlt : b < h0.length := by have := (List.getElem?_eq_some_iff.1 hb).1; simpa using this
      rw [List.getElem?_set_self hlt] at hb
      cases hb
      exact .inr (ho _)
    · rw [List.getElem?_set_ne he] at hb
      exact .inl ⟨(List.getElem?_eq_some_iff.1 hb).1, hb⟩
  · exact .keep (hv _ (by simp)) .nil

section
variable {P : Program} {t e : TypeId}
theorem pure_partA {i : TypeInfo} {d : TypeDesc} {n : Nat} {el : TypeId} {cs : Array Value} {off : Nat} (he : P.underlying e = some (.array n el)) (hi : P.info? e = some i) : pureRun P (part e cs off) = some (.agg (cs.extract off (off + i.size))) := by
  have : pureRun P (isAgg e) = some true := by
    unfold isAgg
    rw [pureRun_bind _ _ (pure_underlying he)]; rfl
  unfold part
  rw [pureRun_bind _ _ this]
  simp only [if_true]
  rw [pureRun_bind _ _ (pure_size hi)]
  rfl
end
end Go.Am
