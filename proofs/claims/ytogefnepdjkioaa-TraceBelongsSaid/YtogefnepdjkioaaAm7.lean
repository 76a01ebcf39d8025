import Derived.Test.YtogefnepdjkioaaAm6
set_option linter.unusedVariables false
set_option linter.unusedSimpArgs false
/- append, proved. -/
namespace Go.Am
open Go

theorem rw_alive {o : AObj} (h : o.rw = true) : o.alive = true := by cases o <;> simp_all [AObj.rw, AObj.alive]

/-- A block is given up; what it was goes on as another one (perhaps written, perhaps longer), in the same place of the world. -/
theorem Step.move {P : Program} {f : Emb} {h : AH} {w : World} (hs : Sim P f h w) {b : Nat} {o o1 : AObj} (hb : h[b]? = some o) (ho : o.rw = true)
    {w1 : World} {o1' : Obj} (I : Img) (hI : I.blk = (f b).blk) (hok : o1.ok P) (hw : w1.heap[(f b).blk]? = some o1') (hr : ORel f h.length I o1 o1') (hother : ∀ r, r ≠ (f b).blk → w1.heap[r]? = w.heap[r]?)
    (hos : w1.os = w.os) (htape : w1.tape = w.tape) (hout : w1.output = w.output) (hsize : w1.heap.size = w.heap.size) :
    Step P f h w (upd f h.length I) (h.set b .dead ++ [o1]) w1 := by
  have hlt : b < h.length := (List.getElem?_eq_some_iff.1 hb).1
  have hag : ∀ b, b < h.length → upd f h.length I b = f b := fun b hb => upd_lt _ _ _ _ hb
  have hagr := upd_agree f h.length I
  have hcase : ∀ (b' : Nat) (x : AObj), (h.set b .dead ++ [o1])[b']? = some x → x.alive = true → (b' < h.length ∧ b' ≠ b ∧ h[b']? = some x) ∨ (b' = h.length ∧ x = o1) := by
    intro b' x hx ha
    by_cases hl : b' < h.length
    · rw [List.getElem?_append_left (by simpa using hl)] at hx
      by_cases he : b = b'
      · subst he
        rw [List.getElem?_set_self hlt] at hx
        cases hx
        simp [AObj.alive] at ha
      · rw [List.getElem?_set_ne he] at hx
        exact .inl ⟨hl, fun e => he e.symm, hx⟩
    · rw [List.getElem?_append_right (by simpa using hl)] at hx
      simp only [List.length_set] at hx
      by_cases he : b' = h.length
      · subst he; simp at hx; exact .inr ⟨rfl, hx.symm⟩
      · exfalso
        obtain ⟨k, hk⟩ := Nat.exists_eq_succ_of_ne_zero (show b' - h.length ≠ 0 by omega)
        rw [hk] at hx
        simp at hx
  have hlen : (h.set b .dead ++ [o1]).length = h.length + 1 := by simp
  refine ⟨⟨?_, ?_, ?_, ?_, ?_, hs.laid, fun b' x hb => by
    by_cases ha : x.alive = true
    · exact (hcase b' x hb ha).elim (fun ⟨_, _, h1⟩ => hs.ok b' x h1) (fun ⟨_, e⟩ => e ▸ hok)
    · cases x <;> first | exact trivial | (exfalso; exact ha rfl)⟩, hagr, by omega, ⟨hos, htape, hout, by omega, fun r hr' hno => hother r (fun e => hno b o hb ho e.symm)⟩, ?_⟩
  · intro b' x hx ha
    rcases hcase b' x hx ha with ⟨hl, hne, hx'⟩ | ⟨rfl, rfl⟩
    · obtain ⟨y, hy, hyr⟩ := hs.obj b' x hx' ha
      have : (f b).blk ≠ (f b').blk := hs.sep b b' o x hb hx' (rw_alive ho) ha ho (fun e => hne e.symm)
      rw [hag b' hl]
      exact ⟨y, by rw [hother _ (fun e => this e.symm)]; exact hy, hyr.mono (by omega) hagr⟩
    · rw [upd_eq]
      exact ⟨o1', by rw [hI]; exact hw, hr.mono (by omega) hagr⟩
  · intro b1 b2 x1 x2 h1 h2 ha1 ha2 hrw hne
    rcases hcase b1 x1 h1 ha1 with ⟨hl1, hn1, h1'⟩ | ⟨rfl, rfl⟩ <;> rcases hcase b2 x2 h2 ha2 with ⟨hl2, hn2, h2'⟩ | ⟨rfl, rfl⟩
    · rw [hag b1 hl1, hag b2 hl2]; exact hs.sep b1 b2 x1 x2 h1' h2' ha1 ha2 hrw hne
    · rw [hag b1 hl1, upd_eq, hI]
      exact fun e => hs.sep b b1 o x1 hb h1' (rw_alive ho) ha1 ho (fun e => hn1 e.symm) e.symm
    · rw [hag b2 hl2, upd_eq, hI]
      exact hs.sep b b2 o x2 hb h2' (rw_alive ho) ha2 ho (fun e => hn2 e.symm)
    · exact absurd rfl hne
  · intro g hg
    rw [hag g (Nat.lt_of_lt_of_le hg hs.size)]
    exact hs.glob g hg
  · have := hs.size
    omega
  · intro r ds hr
    obtain ⟨⟨elem, fr, k1⟩, k2⟩ := hs.rom r ds hr
    refine ⟨⟨elem, fr, by rw [hother r (k2 b o hb ho).symm]; exact k1⟩, fun b' x hx hrw => ?_⟩
    rcases hcase b' x hx (rw_alive hrw) with ⟨hl, hne, hx'⟩ | ⟨rfl, rfl⟩
    · rw [hag b' hl]; exact k2 b' x hx' hrw
    · rw [upd_eq, hI]; exact k2 b o hb ho
  · intro b1 x1 h1 hrw
    rcases hcase b1 x1 h1 (rw_alive hrw) with ⟨hl, hn, h1'⟩ | ⟨rfl, rfl⟩
    · exact .inr ⟨b1, x1, h1', hrw, by rw [hag b1 hl]⟩
    · exact .inr ⟨b, o, hb, ho, by rw [upd_eq, hI]⟩

theorem Step.kill {P : Program} {f : Emb} {h : AH} {w : World} (hs : Sim P f h w) (b : Nat) : Step P f h w f (h.set b .dead) w := by
  have hcase : ∀ (b' : Nat) (x : AObj), (h.set b .dead)[b']? = some x → x.alive = true → h[b']? = some x := by
    intro b' x hx ha
    by_cases he : b = b'
    · subst he
      by_cases hl : b < h.length
      · rw [List.getElem?_set_self hl] at hx
        cases hx
        simp [AObj.alive] at ha
      · rw [List.getElem?_eq_none (by simpa using hl)] at hx
        cases hx
    · rwa [List.getElem?_set_ne he] at hx
  refine ⟨⟨fun b' x hx ha => by simpa using hs.obj b' x (hcase b' x hx ha) ha, fun b1 b2 x1 x2 h1 h2 ha1 ha2 => hs.sep b1 b2 x1 x2 (hcase _ _ h1 ha1) (hcase _ _ h2 ha2) ha1 ha2, hs.glob, by simpa using hs.size,
    fun r ds hr => ⟨(hs.rom r ds hr).1, fun b' x hx hrw => (hs.rom r ds hr).2 b' x (hcase b' x hx (rw_alive hrw)) hrw⟩, hs.laid, fun b' x hx => by
      by_cases ha : x.alive = true
      · exact hs.ok b' x (hcase b' x hx ha)
      · cases x <;> first | exact trivial | (exfalso; exact ha rfl)⟩, .refl _ _, by simp, Keep.refl _ _ _, fun b1 x1 h1 hrw => .inr ⟨b1, x1, hcase b1 x1 h1 (rw_alive hrw), hrw, rfl⟩⟩

theorem Step.drew {P : Program} {f : Emb} {h : AH} {w : World} (hs : Sim P f h w) : Step P f h w f h w.drew :=
  ⟨hs.congr rfl, .refl _ _, Nat.le_refl _, ⟨rfl, rfl, rfl, Nat.le_refl _, fun _ _ _ => rfl⟩, fun b o hb ho => .inr ⟨b, o, hb, ho, rfl⟩⟩

theorem getD_blit (vs : List Value) : ∀ (c : Array Value) (o i : Nat), (blit c o vs).getD i junk = if o ≤ i ∧ i < o + vs.length ∧ i < c.size then vs.getD (i - o) junk else c.getD i junk := by
  induction vs with
  | nil => intro c o i; simp only [blit, List.length_nil, Nat.add_zero]; rw [if_neg (by omega)]
  | cons v r ih =>
    intro c o i
    simp only [blit, ih, Array.size_setIfInBounds, List.length_cons]
    by_cases h1 : o + 1 ≤ i ∧ i < o + 1 + r.length ∧ i < c.size
    · rw [if_pos h1, if_pos (by omega)]
      obtain ⟨k, hk⟩ : ∃ k, i - o = k + 1 := ⟨i - o - 1, by omega⟩
      rw [hk]
      have : i - (o + 1) = k := by omega
      rw [this]
      simp
    · rw [if_neg h1]
      by_cases h2 : o ≤ i ∧ i < o + (r.length + 1) ∧ i < c.size
      · rw [if_pos h2]
        have : i = o := by omega
        subst this
        simp [Array.getD, h2.2.2]
      · rw [if_neg h2]
        simp only [Array.getD_eq_getD_getElem?]
        by_cases he : o = i
        · subst he
          have : ¬ o < c.size := by omega
          simp [this]
        · rw [Array.getElem?_setIfInBounds_ne he]

/-- a store into a block of the world -/
theorem run_storeAt {P : Program} {w : World} {r o : Nat} {c : Array Value} {t : TypeId} {fr : Nat × Nat} (hw : w.heap[r]? = some (.cells c t fr)) (hfr : ∀ i : Nat, i < c.size → (fr.1 ≤ i && i < fr.2) = false) (vs : List Value)
    (hle : o + vs.length ≤ c.size) (h1 : ∀ i : Nat, (vs.getD i junk).oneCell' = true) :
    ∃ w1, (storeCells ⟨r, o, none⟩ vs).run P w = .ok () w1 ∧ w1.heap[r]? = some (.cells (blit c o vs) t fr) ∧ (∀ r', r' ≠ r → w1.heap[r']? = w.heap[r']?) ∧
      w1.os = w.os ∧ w1.tape = w.tape ∧ w1.output = w.output ∧ w1.heap.size = w.heap.size := by
  have hrun := run_storeCells_cells (P := P) r o vs 0 w
    (fun j hj => by rw [cell_of_block hw]; simp; omega)
    (fun j hj => by
      simp only [World.frozen?, hw]
      exact hfr _ (by omega))
    (fun v hv' => by
      obtain ⟨i, hi⟩ := List.mem_iff_getElem?.1 hv'
      have := h1 i
      simpa [List.getD, hi] using this)
  exact ⟨_, hrun, setCells_heap vs hw o⟩

theorem zeroCells_eq (z : Array Value) (n : Nat) : Builtin.zeroCells z n = zeros z (n * z.size) := rfl

def isIntD (d : TypeDesc) : Bool := d matches .int _

/-- what is appended, in the world: so many zeros, or cells that are there -/
def Appended (P : Program) (w : World) (elem : TypeId) (ie : TypeInfo) (zc : Array Value) (d : TypeDesc) (x : Value) (n : Nat) (ds : Array Value) : Prop :=
  (∃ k n0, d = .int k ∧ x = .int .i64 n0 ∧ 0 ≤ n0 ∧ n0 < 2 ^ 62 ∧ n0 * (ie.bytes : Int) ≤ 2 ^ 48 ∧ n = n0.toNat ∧ ds = zeros zc (n * zc.size)) ∨
  (isIntD d = false ∧ (Builtin.lenOf x).run P w = .ok n w ∧ (Builtin.firstCells ie.size n x).run P w = .ok ds w)

theorem sound_appended {P : Program} {f : Emb} {h : AH} {w : World} (hs : Sim P f h w) {elem xT : TypeId} {ie : TypeInfo} {zc : Array Value} (hie : P.info? elem = some ie) (hzc : zeroCellsOf P elem = some zc) {x x' : Value} (hx : VRel f h.length x x')
    {n : Nat} {cs : Array Value} (ha : aappended P h elem xT ie.size x = some (n, cs)) :
    ∃ d, P.underlying xT = some d ∧ ∃ ds, Appended P w elem ie zc d x' n ds ∧ CRel f h.length cs ds ∧ cs.size = n * ie.size := by
  obtain ⟨i, z, hi, hz, hzc', hall, hsz, hpos⟩ := zeroCellsOf_spec hzc
  have hii : i = ie := by rw [hi] at hie; exact Option.some.inj hie
  subst hii
  unfold aappended at ha
  split at ha
  · rename_i k hu
    refine ⟨_, hu, ?_⟩
    split at ha
    · rename_i n0 zc' ie' hzc2 hie2
      rw [hzc] at hzc2
      cases hzc2
      rw [hie] at hie2
      cases hie2
      split at ha
      · rename_i hc
        obtain ⟨c1, c2, c3⟩ := hc
        simp only [Option.some.injEq, Prod.mk.injEq] at ha
        obtain ⟨rfl, rfl⟩ := ha
        cases hx.int_inv
        exact ⟨_, .inl ⟨k, n0, rfl, rfl, c1, c2, c3, rfl, rfl⟩, zeros_crel hall (by omega) _, by rw [size_zeros, hsz]⟩
      · cases ha
    · cases ha
  · rename_i d hni hu
    refine ⟨d, hu, ?_⟩
    have hd : isIntD d = false := by
      cases d <;> first | rfl | (exfalso; exact hni _ rfl)
    obtain ⟨h1, ds, h2, h3, h4⟩ := sound_source hs hx ha
    exact ⟨ds, .inr ⟨hd, h1, h2⟩, h3, h4⟩
  · cases ha

set_option maxRecDepth 4000 in
/-- there is room: what is appended is stored behind what is there -/
theorem append_room {P : Program} (w : World) {ts : Array TypeId} {sT xT ty elem : TypeId} (h0 : ts[0]? = some sT) (h1 : ts[1]? = some xT) (hu : P.underlying sT = some (.slice elem)) {d : TypeDesc} (hd : P.underlying xT = some d)
    {ie : TypeInfo} (hie : P.info? elem = some ie) {z : Value} (hz : ie.zero = some z) (hzs : z.cells.size = ie.size) (base : Option Addr) (len cap : Nat) (x : Value) {n : Nat} {ds : Array Value}
    (hap : Appended P w elem ie z.cells d x n ds) (hcap : len + n ≤ cap) :
    (Builtin.append_ ts ty #[.slice base len cap, x]).run P w = (match base with
      | some a => (storeCells (a.add (len * ie.size)) ds.toList).run P w
      | none => .ok () w).andThen fun _ w' => .ok (.slice base (len + n) cap) w' := by
  have hsz : P.cellsOf elem = ie.size := by simp [Program.cellsOf, hie]
  have hz0 := run_zeroValue hie hz w
  rcases hap with ⟨k, n0, rfl, rfl, c1, c2, c3, rfl, rfl⟩ | ⟨hb, hn, hds⟩
  · have e1 : IntKind.i64.wrap n0 = n0 := wrap_i64 c1 c2
    have e2 : ¬ n0 < 0 := by omega
    have e3 : ¬ (n0 * (ie.bytes : Int) > 2 ^ 48) := by omega
    by_cases h00 : n0.toNat * ie.size = 0
    · have hnil : zeros z.cells (n0.toNat * z.cells.size) = #[] := by rw [hzs, h00]; simp [zeros]
      rw [hnil]
      simp only [Builtin.append_, h0, h1, List.getElem?_toArray, List.getElem?_cons_zero, List.getElem?_cons_succ, Sem.run_bind, run_underlying hu, run_underlying hd, Result.andThen_ok, run_sizeOf w hie, hsz, Sem.run_pure, if_true,
        asInt, asIntOf, e1, e2, if_false, run_typeInfo w hie, e3, hcap, h00, Bool.not_true, Bool.false_eq_true]
      cases base <;> simp only [Sem.run_bind, Sem.run_pure, Result.andThen_ok]
    · simp only [Builtin.append_, h0, h1, List.getElem?_toArray, List.getElem?_cons_zero, List.getElem?_cons_succ, Sem.run_bind, run_underlying hu, run_underlying hd, Result.andThen_ok, run_sizeOf w hie, hsz, Sem.run_pure, if_true,
        asInt, asIntOf, e1, e2, if_false, run_typeInfo w hie, e3, hcap, h00, Bool.not_true, Bool.false_eq_true, hz0, zeroCells_eq]
      cases base <;> simp only [Sem.run_bind, Sem.run_pure, Result.andThen_ok]
  · cases d <;> first
      | (cases hb; done)
      | (simp only [Builtin.append_, h0, h1, List.getElem?_toArray, List.getElem?_cons_zero, List.getElem?_cons_succ, Sem.run_bind, run_underlying hu, run_underlying hd, Result.andThen_ok, run_sizeOf w hie, hsz, Sem.run_pure, Bool.false_eq_true, if_false, hn, hcap, if_true, Bool.not_false, hds]
         cases base <;> simp only [Sem.run_bind, Sem.run_pure, Result.andThen_ok])

set_option maxRecDepth 4000 in
/-- there is none: all is copied -/
theorem append_grow {P : Program} (w : World) {ts : Array TypeId} {sT xT ty elem : TypeId} (h0 : ts[0]? = some sT) (h1 : ts[1]? = some xT) (hu : P.underlying sT = some (.slice elem)) {d : TypeDesc} (hd : P.underlying xT = some d)
    {ie : TypeInfo} (hie : P.info? elem = some ie) {z : Value} (hz : ie.zero = some z) (hzs : z.cells.size = ie.size) (base : Option Addr) (len cap : Nat) (x : Value) {n : Nat} {ds old : Array Value}
    {ds0 : Array Value} (hap : Appended P w elem ie z.cells d x n ds0) (hap2 : Appended P w.drew elem ie z.cells d x n ds) (hcap : cap < len + n) (hb1 : (2 * (len + n) + 192) * ie.bytes ≤ 2 ^ 48) (hb2 : len + n < 2 ^ 62)
    (hold : (Builtin.firstCells ie.size len (.slice base len cap)).run P w.drew = .ok old w.drew) :
    ∃ newCap, len + n ≤ newCap ∧ (Builtin.append_ ts ty #[.slice base len cap, x]).run P w =
      .ok (.slice (some ⟨w.heap.size, 0, none⟩) (len + n) newCap) (w.drew.alloc (.cells (old ++ ds ++ zeros z.cells ((newCap - (len + n)) * z.cells.size)) elem)) := by
  have hsz : P.cellsOf elem = ie.size := by simp [Program.cellsOf, hie]
  have hzw := fun w' => run_zeroValue (P := P) hie hz w'
  have hnc : ¬ (len + n ≤ cap) := by omega
  have hn1 : ¬ (((len + n : Nat) : Int) > IntKind.i64.max) := by
    have : IntKind.i64.max = 9223372036854775807 := by decide
    rw [this]; omega
  have hn2 : ¬ (Builtin.nextslicecap (len + n) cap * ie.bytes > 2 ^ 48) := by
    have h1 := nextslicecap_le (len + n) cap hcap
    have h2 : Builtin.nextslicecap (len + n) cap * ie.bytes ≤ (2 * (len + n) + 192) * ie.bytes := Nat.mul_le_mul_right _ h1
    omega
  refine ⟨(Question.appendCap (len + n) cap elem).cut (w.tape w.drawn (.appendCap (len + n) cap elem)), ?_, ?_⟩
  · simp [Question.cut]
  have hch : ∀ w', (choose (.appendCap (len + n) cap elem)).run P w' = .ok ((Question.appendCap (len + n) cap elem).cut (w'.tape w'.drawn (.appendCap (len + n) cap elem))) w'.drew := by
    intro w'; rw [run_choose]; simp [Question.forced]
  rcases hap with ⟨k, n0, rfl, rfl, c1, c2, c3, rfl, rfl⟩ | ⟨hb, hn, hds⟩
  · have hds3 : ds = zeros z.cells (n0.toNat * z.cells.size) := by
      rcases hap2 with ⟨_, _, _, _, _, _, _, _, h9⟩ | ⟨h1, _⟩
      · exact h9
      · cases h1
    subst hds3
    have e1 : IntKind.i64.wrap n0 = n0 := wrap_i64 c1 c2
    have e2 : ¬ n0 < 0 := by omega
    have e3 : ¬ (n0 * (ie.bytes : Int) > 2 ^ 48) := by omega
    by_cases h00 : n0.toNat * ie.size = 0
    · have hnil : zeros z.cells (n0.toNat * z.cells.size) = #[] := by rw [hzs, h00]; simp [zeros]
      rw [hnil]
      simp only [Builtin.append_, h0, h1, List.getElem?_toArray, List.getElem?_cons_zero, List.getElem?_cons_succ, Sem.run_bind, run_underlying hu, run_underlying hd, Result.andThen_ok, run_sizeOf w hie, hsz, Sem.run_pure, if_true,
        asInt, asIntOf, e1, e2, if_false, run_typeInfo _ hie, e3, hnc, hn1, false_and, hn2, h00, Bool.not_true, Bool.false_eq_true, hch, run_askRoom, hold, hzw, zeroCells_eq, newRow, run_newObj]
      rfl
    · simp only [Builtin.append_, h0, h1, List.getElem?_toArray, List.getElem?_cons_zero, List.getElem?_cons_succ, Sem.run_bind, run_underlying hu, run_underlying hd, Result.andThen_ok, run_sizeOf w hie, hsz, Sem.run_pure, if_true,
        asInt, asIntOf, e1, e2, if_false, run_typeInfo _ hie, e3, hnc, hn1, false_and, hn2, h00, Bool.not_true, Bool.false_eq_true, hch, run_askRoom, hold, hzw, zeroCells_eq, newRow, run_newObj]
      rfl
  · have hds2 : (Builtin.firstCells ie.size n x).run P w.drew = .ok ds w.drew := by
      rcases hap2 with ⟨k, n0, rfl, _⟩ | ⟨_, _, h2⟩
      · cases hb
      · exact h2
    cases d <;> first
      | (cases hb; done)
      | (simp only [Builtin.append_, h0, h1, List.getElem?_toArray, List.getElem?_cons_zero, List.getElem?_cons_succ, Sem.run_bind, run_underlying hu, run_underlying hd, Result.andThen_ok, run_sizeOf w hie, hsz, Sem.run_pure, Bool.false_eq_true, if_false, hn, hnc, hn1, false_and, hn2, if_true, Bool.not_false,
          run_typeInfo _ hie, hch, run_askRoom, hold, hds2, hzw, zeroCells_eq, newRow, run_newObj]
         rfl)

end Go.Am
