import Derived.Test.YtljobcehngpicaaDoorAm46x
set_option linter.unusedVariables false
set_option linter.unusedSimpArgs false
/- Digits: the plain laws. -/
namespace Go.Am
open Go

theorem all8 {p : UInt8 → Prop} (h : ∀ n : Fin 256, p (UInt8.ofNat n.1)) (c : UInt8) : p c := by
  have := h ⟨c.toNat, c.toNat_lt⟩
  simpa using this
def low (c : UInt8) : UInt8 := if 65 ≤ c.toNat ∧ c.toNat ≤ 70 then c + 32 else c
theorem dig_tab : ∀ n : Fin 16, dz (dig n.1) = UInt8.ofNat n.1 ∧ isD (dig n.1) = true := by decide +kernel
theorem dz_dig {n : Nat} (h : n < 16) : dz (dig n) = UInt8.ofNat n := (dig_tab ⟨n, h⟩).1
theorem isD_dig {n : Nat} (h : n < 16) : isD (dig n) = true := (dig_tab ⟨n, h⟩).2
theorem dig_dz (c : UInt8) : isD c = true → dig (dz c).toNat = low c := all8 (p := fun c => isD c = true → dig (dz c).toNat = low c) (by decide +kernel) c
theorem dz_lt (c : UInt8) : (dz c).toNat < 16 := all8 (p := fun c => (dz c).toNat < 16) (by decide +kernel) c
theorem dz_low (c : UInt8) : dz (low c) = dz c := all8 (p := fun c => dz (low c) = dz c) (by decide +kernel) c
theorem isD_low (c : UInt8) : isD (low c) = isD c := all8 (p := fun c => isD (low c) = isD c) (by decide +kernel) c
theorem low_48 (c : UInt8) : low c = 48 ↔ c = 48 := all8 (p := fun c => low c = 48 ↔ c = 48) (by decide +kernel) c
theorem low_120 (c : UInt8) : low c = 120 ↔ c = 120 := all8 (p := fun c => low c = 120 ↔ c = 120) (by decide +kernel) c
theorem pr_split (b : UInt8) : pr (UInt8.ofNat (b.toNat / 16)) (UInt8.ofNat (b.toNat % 16)) = b := all8 (p := fun b => pr (UInt8.ofNat (b.toNat / 16)) (UInt8.ofNat (b.toNat % 16)) = b) (by decide +kernel) b
theorem hexB_tab : ∀ n m : Fin 16, hexB (pr (UInt8.ofNat n.1) (UInt8.ofNat m.1)) = [dig n.1, dig m.1] := by decide +kernel
theorem hexB_pr {x y : UInt8} (hx : x.toNat < 16) (hy : y.toNat < 16) : hexB (pr x y) = [dig x.toNat, dig y.toNat] := by
  have := hexB_tab ⟨x.toNat, hx⟩ ⟨y.toNat, hy⟩
  simpa using this

/-! the size of letters -/
theorem cut_low (s : List UInt8) : cutS (s.map low) = (cutS s).map (List.map low) := by
  match s with
  | [] => rfl
  | [a] => simp [cutS]
  | a :: b :: r =>
    by_cases h : a = 48 ∧ b = 120
    · obtain ⟨rfl, rfl⟩ := h; rfl
    · have e1 : cutS (a :: b :: r) = none := by
        unfold cutS; split
        · rename_i e; simp at e; exact absurd ⟨e.1, e.2.1⟩ h
        · rfl
      have e2 : cutS (low a :: low b :: r.map low) = none := by
        unfold cutS; split
        · rename_i e
          simp only [List.cons.injEq] at e
          exact absurd ⟨(low_48 a).1 e.1, (low_120 b).1 e.2.1⟩ h
        · rfl
      simp only [List.map_cons, e1, e2]; rfl
theorem valsR_low (r : List UInt8) : valsR (r.map low) = valsR r := by
  have e1 : (r.map low).all isD = r.all isD := by
    rw [List.all_map]; congr 1; funext c; exact isD_low c
  have e2 : (r.map low).map dz = r.map dz := by
    rw [List.map_map]; congr 1; funext c; exact dz_low c
  rw [valsR, valsR, e1, e2]
theorem vals_low (s : List UInt8) : valsS (s.map low) = valsS s := by
  rw [valsS, valsS, cut_low]
  cases cutS s with
  | none => rfl
  | some r => exact valsR_low r
theorem read_low (s : List UInt8) : readM (s.map low) = readM s := by rw [readM, readM, vals_low]
theorem count_low (s : List UInt8) : countM (s.map low) = countM s := by rw [countM, countM, vals_low]

/-! what is read is written again -/
theorem vals_some {s l : List UInt8} (h : valsS s = some l) : ∃ r, s = 48 :: 120 :: r ∧ r.all isD = true ∧ l = r.map dz := by
  unfold valsS at h
  cases hc : cutS s with
  | none => rw [hc] at h; cases h
  | some r =>
    rw [hc] at h
    simp only [Option.bind_some, valsR] at h
    split at h
    · rename_i ha
      cases h
      refine ⟨r, ?_, ha, rfl⟩
      unfold cutS at hc; split at hc <;> cases hc; rfl
    · cases h
theorem dig_map {r : List UInt8} (h : r.all isD = true) : (r.map dz).map (fun x => dig x.toNat) = r.map low := by
  rw [List.map_map]
  apply List.map_congr_left
  intro c hc
  exact dig_dz c (List.all_eq_true.1 h c hc)
theorem hexL_pairs : ∀ (l : List UInt8), l.length % 2 = 0 → (∀ x ∈ l, x.toNat < 16) → hexL (pairsL l) = l.map fun x => dig x.toNat
  | [], _, _ => rfl
  | [_], h, _ => by simp at h
  | a :: b :: r, h, hl => by
    have := hexL_pairs r (by simp at h; omega) (fun x hx => hl x (by simp [hx]))
    rw [pairsL, hexL, List.flatMap_cons, ← hexL, this, hexB_pr (hl a (by simp)) (hl b (by simp))]
    rfl
theorem vals_lt {r : List UInt8} : ∀ x ∈ r.map dz, x.toNat < 16 := by
  intro x hx
  obtain ⟨c, _, rfl⟩ := List.mem_map.1 hx
  exact dz_lt c
theorem low_pre (r : List UInt8) : (48 :: 120 :: r).map low = 48 :: 120 :: r.map low := rfl
theorem write_read {s a : List UInt8} (h : readM s = some a) : hexW a = s.map low := by
  unfold readM at h
  cases hv : valsS s with
  | none => rw [hv] at h; cases h
  | some l =>
    rw [hv] at h
    simp only [Option.bind_some] at h
    split at h
    · rename_i he
      cases h
      obtain ⟨r, rfl, ha, rfl⟩ := vals_some hv
      rw [hexW, hexL_pairs _ he vals_lt, dig_map ha, low_pre]
    · cases h

/-! words: zeros ahead -/
theorem byteAt_0 (k : Nat) : byteAt 0 k = 0 := by simp [byteAt]
theorem rd_zero {bs : List UInt8} {n : Nat} (h : byteR bs n = 0) : rd bs (n + 1) = rd bs n := by
  simp only [rd, h, byteAt_0]
  split
  · rw [UInt64.or_zero, Vector.set_getElem_self]
  · rfl
def pad32 (p : List UInt8) : List UInt8 := List.replicate (32 - p.length) 0 ++ p
theorem length_pad32 {p : List UInt8} (h : p.length ≤ 32) : (pad32 p).length = 32 := by simp [pad32]; omega
theorem byteR_pad {p : List UInt8} (h : p.length ≤ 32) {i : Nat} (hi : i < p.length) : byteR (pad32 p) i = byteR p i := by
  unfold byteR
  rw [length_pad32 h, List.getD_eq_getElem?_getD, List.getD_eq_getElem?_getD]
  unfold pad32
  rw [List.getElem?_append_right (by simp; omega), List.length_replicate]
  congr 2; omega
theorem byteR_pad0 {p : List UInt8} (h : p.length ≤ 32) {i : Nat} (hi : p.length ≤ i) (h32 : i < 32) : byteR (pad32 p) i = 0 := by
  unfold byteR
  rw [length_pad32 h, List.getD_eq_getElem?_getD]
  unfold pad32
  rw [List.getElem?_append_left (by simp; omega), List.getElem?_replicate, if_pos (by omega)]; rfl
theorem rd_pad {p : List UInt8} (h : p.length ≤ 32) : rd (pad32 p) 32 = rdW p := by
  have key : ∀ k, p.length + k ≤ 32 → rd (pad32 p) (p.length + k) = rd p p.length := by
    intro k
    induction k with
    | zero => intro _; exact rd_congr _ fun i hi => byteR_pad h hi
    | succ k ih =>
      intro hk
      rw [← Nat.add_assoc, rd_zero (byteR_pad0 h (by omega) (by omega))]
      exact ih (by omega)
  have := key (32 - p.length) (by omega)
  rw [show p.length + (32 - p.length) = 32 by omega] at this
  rw [this, rdW, Nat.min_eq_right h]
theorem bytesW_rdW {p : List UInt8} (h : p.length ≤ 32) : bytesW (rdW p) = pad32 p := by rw [← rd_pad h, bytesW_rd (length_pad32 h)]
theorem hexL_append (a b : List UInt8) : hexL (a ++ b) = hexL a ++ hexL b := by simp [hexL]
theorem hexL_zeros : ∀ k, hexL (List.replicate k 0) = List.replicate (2 * k) 48
  | 0 => rfl
  | k + 1 => by
    rw [List.replicate_succ, hexL, List.flatMap_cons, ← hexL, hexL_zeros k, show 2 * (k + 1) = 2 * k + 1 + 1 by omega, List.replicate_succ, List.replicate_succ]
    rfl
theorem dropWhile_zeros (k : Nat) (x : List UInt8) : (List.replicate k 48 ++ x).dropWhile (· == 48) = x.dropWhile (· == 48) := by
  induction k with
  | zero => rfl
  | succ k ih => rw [List.replicate_succ, List.cons_append, List.dropWhile_cons]; simp
theorem trimN_zeros (k : Nat) (x : List UInt8) : trimN (List.replicate k 48 ++ x) = trimN x := by rw [trimN, trimN, dropWhile_zeros]
theorem trimN_one {d : UInt8} {y : List UInt8} (h : d ≠ 48) : trimN (d :: y) = d :: y := by simp [trimN, h]
theorem dig_48 {n : Nat} (h : n < 16) : dig n = 48 ↔ n = 0 := by
  have : ∀ n : Fin 16, dig n.1 = 48 ↔ n.1 = 0 := by decide
  exact this ⟨n, h⟩
theorem length_evenL (l : List UInt8) : (evenL l).length % 2 = 0 := by
  unfold evenL; split
  · assumption
  · rw [List.length_cons]; omega
theorem write_count {s : List UInt8} {w : Word4} (h : countM s = some w) : numW w = s.map low := by
  unfold countM at h
  cases hv : valsS s with
  | none => rw [hv] at h; cases h
  | some l =>
    rw [hv] at h
    simp only [Option.bind_some] at h
    split at h
    · rename_i hk
      cases h
      obtain ⟨r, rfl, ha, rfl⟩ := vals_some hv
      have hlt := vals_lt (r := r)
      obtain ⟨l, hl⟩ : ∃ l, l = r.map dz := ⟨_, rfl⟩
      rw [← hl] at hk hlt ⊢
      have hdg := dig_map ha
      rw [← hl] at hdg
      have h64 : l.length ≤ 64 := by simp only [cntOk, Bool.and_eq_true, decide_eq_true_eq] at hk; exact hk.1.2
      have h1 : 1 ≤ l.length := by simp only [cntOk, Bool.and_eq_true, decide_eq_true_eq] at hk; exact hk.1.1
      have hev : ∀ x ∈ evenL l, x.toNat < 16 := by
        intro x hx
        unfold evenL at hx; split at hx
        · exact hlt x hx
        · rcases List.mem_cons.1 hx with rfl | hx
          · decide
          · exact hlt x hx
      have hp : (pairsL (evenL l)).length ≤ 32 := by
        rw [length_pairsL]; unfold evenL; split
        · omega
        · rw [List.length_cons]; omega
      rw [numW, bytesW_rdW hp, pad32, hexL_append, hexL_zeros, trimN_zeros, hexL_pairs _ (length_evenL l) hev, low_pre, ← hdg]
      congr 2
      have e1 : trimN ((evenL l).map fun x => dig x.toNat) = trimN (l.map fun x => dig x.toNat) := by
        unfold evenL; split
        · rfl
        · rw [List.map_cons]
          exact trimN_zeros 1 _
      rw [e1]
      match l, h1, hk, hlt with
      | d :: y, _, hk, hlt =>
        rw [List.map_cons]
        by_cases hd : d = 0
        · subst hd
          have : y = [] := by
            simp only [cntOk, Bool.and_eq_true] at hk
            have h2 := hk.2
            cases y with
            | nil => rfl
            | cons e y => simp at h2
          subst this
          rfl
        · refine trimN_one fun e => hd ?_
          have := (dig_48 (hlt d (by simp))).1 e
          exact UInt8.toNat_inj.1 this
    · cases h

/-- bytes in a block, as a string -/
theorem aconv_blk {P : Program} {h : AH} {src dst e : TypeId} {b es n cap : Nat} {rw : Bool} {l : List UInt8} (hs : P.underlying src = some (.slice e)) (he : P.underlying e = some (.int .u8)) (hd : P.underlying dst = some .string) (hn : l.length = n) (h0 : n ≠ 0)
    (hb : h[b]? = some (.cells (flatV encU8 l) es rw)) : aconvert P h src dst (.slice (some ⟨b, 0, none⟩) n cap) = some (.string (bs l), h) := by
  subst hn
  have e1 : ((flatV encU8 l).extract 0 (0 + l.length)).toList = l.map fun b => Value.int .u8 b.toNat := by
    rw [Nat.zero_add, ← size_u8 l, Array.extract_size, flat_u8]
  have e2 : 0 + l.length ≤ (flatV encU8 l).size := by rw [size_u8]; omega
  simp only [aconvert, hs, hd, he, hb, if_neg h0, if_pos e2, e1, bytesIn_u8]
  rfl
end Go.Am
namespace Go.Am
open Go
/-! what is written is read -/
theorem all_hexL (l : List UInt8) : (hexL l).all isD = true := by
  rw [List.all_eq_true]
  intro c hc
  obtain ⟨b, _, hb⟩ := List.mem_flatMap.1 hc
  have := b.toNat_lt
  simp only [hexB, List.mem_cons, List.not_mem_nil, or_false] at hb
  rcases hb with rfl | rfl
  · exact isD_dig (by omega)
  · exact isD_dig (by omega)
/-- two numbers a byte -/
def nib (l : List UInt8) : List UInt8 := l.flatMap fun b => [UInt8.ofNat (b.toNat / 16), UInt8.ofNat (b.toNat % 16)]
theorem dz_hexL (l : List UInt8) : (hexL l).map dz = nib l := by
  induction l with
  | nil => rfl
  | cons b l ih =>
    have := b.toNat_lt
    rw [hexL, List.flatMap_cons, ← hexL, List.map_append, ih]
    show _ = [UInt8.ofNat (b.toNat / 16), UInt8.ofNat (b.toNat % 16)] ++ nib l
    congr 1
    simp only [hexB, List.map_cons, List.map_nil]
    rw [dz_dig (by omega), dz_dig (by omega)]
theorem length_nib (l : List UInt8) : (nib l).length = 2 * l.length := by rw [← dz_hexL, List.length_map, length_hexL]
theorem pairs_nib (l : List UInt8) : pairsL (nib l) = l := by
  induction l with
  | nil => rfl
  | cons b l ih =>
    rw [nib, List.flatMap_cons, ← nib]
    show pr (UInt8.ofNat (b.toNat / 16)) (UInt8.ofNat (b.toNat % 16)) :: pairsL (nib l) = b :: l
    rw [pr_split, ih]
theorem vals_pre {r : List UInt8} : valsS (48 :: 120 :: r) = valsR r := rfl
theorem read_write (b : List UInt8) : readM (hexW b) = some b := by
  rw [readM, hexW, vals_pre, valsR, if_pos (all_hexL b), Option.bind_some, dz_hexL, if_pos (by rw [length_nib]; omega), pairs_nib]
theorem pairs_zeros : ∀ (m : Nat) (x : List UInt8), pairsL (List.replicate (2 * m) 0 ++ x) = List.replicate m 0 ++ pairsL x
  | 0, _ => rfl
  | m + 1, x => by
    rw [show 2 * (m + 1) = 2 * m + 1 + 1 by omega, List.replicate_succ, List.replicate_succ, List.replicate_succ]
    show pr 0 0 :: pairsL (List.replicate (2 * m) 0 ++ x) = 0 :: (List.replicate m 0 ++ pairsL x)
    rw [pairs_zeros m x]; rfl
/-- the zeros that are taken off -/
theorem trim_split : ∀ (x : List UInt8), x ≠ [] → ∃ k, x = List.replicate k 48 ++ trimN x
  | [], h => absurd rfl h
  | [d], _ => by
    by_cases hd : d = 48
    · subst hd; exact ⟨0, rfl⟩
    · exact ⟨0, by rw [trimN_one hd]; rfl⟩
  | d :: e :: y, _ => by
    by_cases hd : d = 48
    · subst hd
      obtain ⟨k, hk⟩ := trim_split (e :: y) (by simp)
      refine ⟨k + 1, ?_⟩
      have : trimN (48 :: e :: y) = trimN (e :: y) := trimN_zeros 1 (e :: y)
      rw [this, List.replicate_succ, List.cons_append, ← hk]
    · exact ⟨0, by rw [trimN_one hd]; rfl⟩
theorem trim_front {x : List UInt8} {y : List UInt8} (h : trimN x = 48 :: y) : y = [] := by
  unfold trimN at h
  split at h
  · cases h; rfl
  · have := List.head?_dropWhile_not (· == 48) x
    rw [h] at this
    simp at this
theorem trim_ne (x : List UInt8) : 1 ≤ (trimN x).length := by
  unfold trimN
  split
  · decide
  · rename_i h
    cases hd : x.dropWhile (· == 48) with
    | nil => rw [hd] at h; exact absurd rfl h
    | cons _ _ => simp
theorem rdW_zeros {m : Nat} {p : List UInt8} (h : m + p.length ≤ 32) : rdW (List.replicate m 0 ++ p) = rdW p := by
  have e : pad32 (List.replicate m 0 ++ p) = pad32 p := by
    unfold pad32
    rw [List.length_append, List.length_replicate, ← List.append_assoc, List.replicate_append_replicate]
    congr 2; omega
  rw [← rd_pad (by simp; omega), e, rd_pad (by omega)]
theorem rdW_bytes (a : Word4) : rdW (bytesW a) = a := by
  rw [rdW, length_bytesW]; exact rd_bytesW a
theorem count_number (a : Word4) : countM (numW a) = some a := by
  have hl : (hexL (bytesW a)).length = 64 := by rw [length_hexL, length_bytesW]
  obtain ⟨k, hk⟩ := trim_split (hexL (bytesW a)) (by intro h0; rw [h0] at hl; cases hl)
  have h1 := trim_ne (hexL (bytesW a))
  have h2 : k + (trimN (hexL (bytesW a))).length = 64 := by
    have := congrArg List.length hk
    rw [List.length_append, List.length_replicate] at this
    omega
  have hf := fun y => trim_front (x := hexL (bytesW a)) (y := y)
  have hall : (trimN (hexL (bytesW a))).all isD = true := by
    rw [List.all_eq_true]
    intro c hc
    exact List.all_eq_true.1 (all_hexL (bytesW a)) c (by rw [hk]; exact List.mem_append_right _ hc)
  have hd : nib (bytesW a) = List.replicate k 0 ++ (trimN (hexL (bytesW a))).map dz := by
    rw [← dz_hexL, hk, List.map_append, List.map_replicate]
    rw [← hk]; rfl
  obtain ⟨x, hx⟩ : ∃ x, x = trimN (hexL (bytesW a)) := ⟨_, rfl⟩
  rw [← hx] at h1 h2 hf hall hd
  obtain ⟨l, hl⟩ : ∃ l, l = x.map dz := ⟨_, rfl⟩
  have hll : l.length = x.length := by rw [hl, List.length_map]
  have hok : cntOk l = true := by
    match x, l, hl, h1, hall, hf with
    | c :: y, _, rfl, _, hall, hf =>
      have h3 : ((c :: y).map dz).length ≤ 64 := by rw [List.length_map]; omega
      have h4 : 1 ≤ ((c :: y).map dz).length := by simp
      unfold cntOk
      rw [decide_eq_true h3, decide_eq_true h4]
      by_cases hz : dz c = 0
      · have hc : c = 48 := by
          have := dig_dz c (by simp at hall; exact hall.1)
          rw [hz] at this
          exact (low_48 c).1 this.symm
        subst hc
        have := hf y rfl
        subst this
        rfl
      · simp [hz]
  have hpb := pairs_nib (bytesW a)
  rw [hd, ← hl] at hpb
  rw [countM, numW, vals_pre, valsR, ← hx, if_pos hall, Option.bind_some, ← hl, if_pos hok]
  congr 1
  unfold evenL
  by_cases he : l.length % 2 = 0
  · rw [if_pos he]
    have hke : k = 2 * (k / 2) := by omega
    rw [hke, pairs_zeros] at hpb
    have := rdW_bytes a
    rw [← hpb, rdW_zeros (by rw [length_pairsL]; omega)] at this
    exact this
  · rw [if_neg he]
    have hke : List.replicate k (0 : UInt8) ++ l = List.replicate (2 * (k / 2)) 0 ++ (0 :: l) := by
      have : k = 2 * (k / 2) + 1 := by omega
      conv => lhs; rw [this]
      rw [List.replicate_succ']
      simp
    rw [hke, pairs_zeros] at hpb
    have := rdW_bytes a
    rw [← hpb, rdW_zeros (by rw [length_pairsL, List.length_cons]; omega)] at this
    exact this
end Go.Am
