import Derived.Test.YtihdilnanhjedaaAm28x
set_option linter.unusedVariables false
set_option linter.unusedSimpArgs false
/- The rules of a walk. -/
namespace Go.Am
open Go

theorem blit_list {c : Array Value} {l : List Value} (h : l.length = c.size) : blit c 0 l = l.toArray := by
  have := blit_whole c l.toArray.toList (by simp [h])
  simpa using this
theorem extract_full {l : List Value} {n : Nat} (h : l.length = n) : l.toArray.extract 0 n = l.toArray := by subst h; simp
theorem ofNat_lt' {m n : Nat} : ((m : Int) < (n : Int)) = (m < n) := by simp
theorem ofNat_le' {m n : Nat} : ((m : Int) ≤ (n : Int)) = (m ≤ n) := by simp
theorem ofNat_nonneg' {m : Nat} : (0 ≤ (m : Int)) = True := by simp
theorem ofNat_succ' {m : Nat} : (m : Int) + 1 = ((m + 1 : Nat) : Int) := by omega

/-- one row begins as another one -/
def Pre : List AObj → List AObj → Prop
  | [], _ => True
  | a :: l, b :: l' => a = b ∧ Pre l l'
  | _ :: _, [] => False
theorem Pre.get : ∀ {l l' : List AObj}, Pre l l' → ∀ i, i < l.length → l'[i]? = l[i]?
  | a :: l, b :: l', h, 0, _ => by rw [h.1]; rfl
  | a :: l, b :: l', h, i + 1, hi => by simpa using Pre.get h.2 i (by simpa using hi)
theorem pre_nil {l : List AObj} : Pre [] l = True := rfl
theorem pre_cons {a : AObj} {l l' : List AObj} : Pre (a :: l) (a :: l') = Pre l l' := by simp [Pre]
theorem leaves_pre {h l l' : AH} {rest : List Oper} {o : Oper} (hp : Pre l l') : leaves (h ++ l) rest o (h ++ l') = True := by
  simp only [eq_iff_iff, iff_true]
  refine .inl fun b hb => ?_
  by_cases hl : b < h.length
  · rw [List.getElem?_append_left hl, List.getElem?_append_left hl]
  · rw [List.getElem?_append_right (by omega), List.getElem?_append_right (by omega)]
    exact hp.get _ (by simp at hb; omega)
theorem leaves_app {h l : AH} {rest : List Oper} {o : Oper} : leaves h rest o (h ++ l) = True := by
  simp only [eq_iff_iff, iff_true]
  exact .inl fun b hb => List.getElem?_append_left hb
theorem leaves_same {h : AH} {rest : List Oper} {o : Oper} : leaves h rest o h = True := by
  simp only [eq_iff_iff, iff_true]
  exact .inl fun b hb => rfl
def noLoads (l : List Oper) : Bool := l.all fun x => !isLoad x.op
theorem noLoads_all {l : List Oper} (h : noLoads l = true) : ∀ x ∈ l, isLoad x.op = false := fun x hx => by
  have := List.all_eq_true.1 h x hx
  simpa only [Bool.not_eq_true'] using this
theorem noLoads_nil : noLoads [] = true := rfl
theorem noLoads_cons {x : Oper} {l : List Oper} : noLoads (x :: l) = (!isLoad x.op && noLoads l) := rfl
theorem leaves_w {h h1 : AH} {rest : List Oper} {o : Oper} (hw : isWriter o.op = true) (hr : noLoads rest = true) : leaves h rest o h1 = True := by
  simp only [eq_iff_iff, iff_true]
  exact .inr ⟨hw, fun x hx hl => by rw [noLoads_all hr x hx] at hl; cases hl⟩

def mkLook (ok : Bool) (k : TypeId) (z key : Value) : Option AObj → Option Value
  | some (.map k' es _) => if k' = k then some (lookK ok z key es.toList) else none
  | _ => none
def mkEnt (h : AH) (b : Nat) (k : TypeId) (z key : Value) : Option AObj → Option (Value × AH)
  | some (.map k' es clock) => if k' = k then (match findK key es.toList 0 with
    | some (j, x) => some (.tuple #[x.val, .int .i64 (x.born : Nat)], h.set b (.map k (es.modify j fun e => { e with key := key }) clock))
    | none => some (.tuple #[z, .int .i64 (clock : Nat)], h.set b (.map k (es.push ⟨key, z, clock⟩) (clock + 1)))) else none
  | _ => none
def mkUpd (h : AH) (b : Nat) (k : TypeId) (key v : Value) : Option AObj → Option AH
  | some (.map k' es clock) => if k' = k then (match findK key es.toList 0 with
    | some (j, _) => some (h.set b (.map k (es.modify j fun e => { e with key := key, val := v }) clock))
    | none => some (h.set b (.map k (es.push ⟨key, v, clock⟩) (clock + 1)))) else none
  | _ => none
section
variable {P : Program} {h : AH} {t k : TypeId} {z key v : Value} {b : Nat} {ok : Bool}
theorem amLookup_mk (ht : mp P t = some (k, z)) (hk : keyed P k key = true) : amLookup P h t (.map (some b)) key ok = mkLook ok k z key h[b]? := by
  obtain ⟨e, hu, hz⟩ := mp_spec ht
  simp only [amLookup, hu, hz, hk, if_true]
  cases hb : h[b]? with
  | none => rfl
  | some o => cases o with
    | map k' es clock =>
      simp only [mkLook, lookK]
      split
      · cases findK key es.toList 0 with
        | none => rfl
        | some p => rfl
      · rfl
    | _ => rfl
theorem amEntry_mk (ht : mp P t = some (k, z)) (hk : keyed P k key = true) : amEntry P h t (.map (some b)) key = mkEnt h b k z key h[b]? := by
  obtain ⟨e, hu, hz⟩ := mp_spec ht
  simp only [amEntry, hu, hz, hk, if_true]
  cases hb : h[b]? with
  | none => rfl
  | some o => cases o <;> rfl
theorem amUpdate_mk (ht : mp P t = some (k, z)) (hk : keyed P k key = true) : amUpdate P h t (.map (some b)) key v = mkUpd h b k key v h[b]? := by
  obtain ⟨e, hu, hz⟩ := mp_spec ht
  simp only [amUpdate, hu, hk, if_true]
  cases hb : h[b]? with
  | none => rfl
  | some o => cases o <;> rfl
end
/-! which values lie in cells -/
theorem sto_int {k : IntKind} {n : Int} : storable (.int k n) = true := rfl
theorem cells_int {k : IntKind} {n : Int} : Value.cells (.int k n) = #[(.int k n)] := rfl
theorem sto_bool {b : Bool} : storable (.bool b) = true := rfl
theorem cells_bool {b : Bool} : Value.cells (.bool b) = #[(.bool b)] := rfl
theorem sto_string {x : ByteArray} : storable (.string x) = true := rfl
theorem cells_string {x : ByteArray} : Value.cells (.string x) = #[(.string x)] := rfl
theorem sto_slice {p : Option Addr} {l c : Nat} : storable (.slice p l c) = true := rfl
theorem cells_slice {p : Option Addr} {l c : Nat} : Value.cells (.slice p l c) = #[(.slice p l c)] := rfl
theorem sto_map {m : Option Nat} : storable (.map m) = true := rfl
theorem cells_map {m : Option Nat} : Value.cells (.map m) = #[(.map m)] := rfl
theorem sto_pointer {p : Option Addr} : storable (.pointer p) = true := rfl
theorem cells_pointer {p : Option Addr} : Value.cells (.pointer p) = #[(.pointer p)] := rfl
theorem sto_func {F : Fn} {xs cs : Array Value} : storable (.func F xs cs) = true := rfl
theorem cells_func {F : Fn} {xs cs : Array Value} : Value.cells (.func F xs cs) = #[(.func F xs cs)] := rfl
theorem sto_iface {t : TypeId} {v : Value} : storable (.iface t v) = true := rfl
theorem cells_iface {t : TypeId} {v : Value} : Value.cells (.iface t v) = #[(.iface t v)] := rfl
theorem sto_nilIface  : storable (.nilIface) = true := rfl
theorem cells_nilIface  : Value.cells (.nilIface) = #[(.nilIface)] := rfl
theorem sto_agg {c : Array Value} : storable (.agg c) = true := rfl
theorem cells_agg {c : Array Value} : Value.cells (.agg c) = c := rfl
theorem sto_slV {α : Type} {enc : α → List Value} {s : Sl α} : storable (slV enc s) = true := by unfold slV; cases s.nil <;> rfl
theorem cells_slV {α : Type} {enc : α → List Value} {s : Sl α} : Value.cells (slV enc s) = #[slV enc s] := by unfold slV; cases s.nil <;> rfl
theorem sto_outV {α : Type} {b : Nat} {l : List α} : storable (outV b l) = true := by cases l <;> rfl
theorem cells_outV {α : Type} {b : Nat} {l : List α} : Value.cells (outV b l) = #[outV b l] := by cases l <;> rfl
theorem sto_fz {c : Array Value} {n : Nat} : storable (fz c n) = true := rfl
theorem cells_fz {c : Array Value} {n : Nat} : Value.cells (fz c n) = #[fz c n] := rfl
theorem abox_slV {h : AH} {α : Type} {enc : α → List Value} {s : Sl α} : abox h (slV enc s) = some (.pointer (some ⟨h.length, 0, none⟩), h ++ [.cells #[slV enc s] 0 true]) := by unfold slV; cases s.nil <;> rfl
theorem abox_outV {h : AH} {α : Type} {b : Nat} {l : List α} : abox h (outV b l) = some (.pointer (some ⟨h.length, 0, none⟩), h ++ [.cells #[outV b l] 0 true]) := by cases l <;> rfl
attribute [go_sem] sto_int cells_int sto_bool cells_bool sto_string cells_string sto_slice cells_slice sto_map cells_map sto_pointer cells_pointer sto_func cells_func sto_iface cells_iface sto_nilIface cells_nilIface sto_agg cells_agg sto_slV cells_slV sto_outV cells_outV sto_fz cells_fz abox_slV abox_outV
attribute [go_sem ↓] cells_agg cells_bool cells_func cells_fz cells_iface cells_int cells_map cells_nilIface cells_outV cells_pointer cells_slV cells_slice cells_string sto_agg sto_bool sto_func sto_fz sto_iface sto_int sto_map sto_nilIface sto_outV sto_pointer sto_slV sto_slice sto_string
theorem mkApp_n {h : AH} {g : Bool} {m by_ n : Nat} {new : Array Value} : mkApp h (.slice none 0 0) (some (g, m, by_)) (some (n, new)) = if n = 0 then some (.slice none 0 0, h) else
    if (2 * n + 192) * by_ ≤ 2 ^ 48 ∧ n < 2 ^ 62 then some (.slice (some ⟨h.length, 0, none⟩) n n, h ++ [.cells new m true]) else none := rfl
def mkAppS (h : AH) (b o len cap m by_ n : Nat) (new : Array Value) : Option AObj → Option (Value × AH)
  | some (.cells c es true) =>
              if o + len * m ≤ c.size ∧ es = m then
                if len + n ≤ cap then
                  if o + (len + n) * m ≤ c.size then some (.slice (some ⟨b, o, none⟩) (len + n) cap, h.set b (.cells (blit c (o + len * m) new.toList) es true)) else none
                else if (2 * (len + n) + 192) * by_ ≤ 2 ^ 48 ∧ len + n < 2 ^ 62 then
                  some (.slice (some ⟨h.length, 0, none⟩) (len + n) (len + n), h.set b .dead ++ [.cells (c.extract o (o + len * m) ++ new) m true]) else none
              else none
  | _ => none
theorem mkApp_s {h : AH} {g : Bool} {b o len cap m by_ n : Nat} {new : Array Value} : mkApp h (.slice (some ⟨b, o, none⟩) len cap) (some (g, m, by_)) (some (n, new)) =
    if n = 0 ∧ len ≤ cap then some (.slice (some ⟨b, o, none⟩) len cap, h) else mkAppS h b o len cap m by_ n new h[b]? := by
  unfold mkApp mkAppS
  simp only
  split
  · rfl
  · cases h[b]? with
    | none => rfl
    | some x => cases x with
      | cells c es rw => cases rw <;> rfl
      | _ => rfl
theorem lt_tag {n : Nat} (h : n < 1099511627776) : n < tagN := h
theorem tag_ne1 {t : Nat} : (tagN + t = 1) = False := eq_false (by unfold tagN; omega)
attribute [go_sem] mkApp_n mkApp_s mkAppS orT_some orT_none lt_tag tag_ne1
theorem zeros_1 {z : Value} : zeros #[z] 1 = #[z] := by unfold zeros; rw [show Array.range 1 = #[0] from rfl]; simp
theorem zeros_2 {z : Value} : zeros #[z] 2 = #[z, z] := by unfold zeros; rw [show Array.range 2 = #[0, 1] from rfl]; simp
theorem zeros_3 {z : Value} : zeros #[z] 3 = #[z, z, z] := by unfold zeros; rw [show Array.range 3 = #[0, 1, 2] from rfl]; simp
theorem zeros_4 {z : Value} : zeros #[z] 4 = #[z, z, z, z] := by unfold zeros; rw [show Array.range 4 = #[0, 1, 2, 3] from rfl]; simp
theorem zeros_5 {z : Value} : zeros #[z] 5 = #[z, z, z, z, z] := by unfold zeros; rw [show Array.range 5 = #[0, 1, 2, 3, 4] from rfl]; simp
theorem zeros_6 {z : Value} : zeros #[z] 6 = #[z, z, z, z, z, z] := by unfold zeros; rw [show Array.range 6 = #[0, 1, 2, 3, 4, 5] from rfl]; simp
theorem zeros_22 {y z : Value} : zeros #[y, z] 2 = #[y, z] := by unfold zeros; rw [show Array.range 2 = #[0, 1] from rfl]; simp
theorem zeros_24 {y z : Value} : zeros #[y, z] 4 = #[y, z, y, z] := by unfold zeros; rw [show Array.range 4 = #[0, 1, 2, 3] from rfl]; simp
attribute [go_sem] zeros_1 zeros_2 zeros_3 zeros_4 zeros_5 zeros_6 zeros_22 zeros_24 List.setIfInBounds_toArray
attribute [go_sem] mkLook mkEnt mkUpd pre_nil pre_cons leaves_pre leaves_app leaves_same leaves_w noLoads_nil noLoads_cons isWriter isLoad
attribute [go_sem ↓] ay_skip ay_region ay_draw ay_seq ay_block ay_exit ay_ret ay_loop ay_cond thenA_normal thenA_ret thenA_exit inBlockA_normal inBlockA_ret inBlockA_exit awl_nil awl_cons awl_guard agate_false agate_true astep_val astep_skip awd_nil awd_gate dgate_false dgate_true dvstep_val dstep_val dstep_skip astep_any
attribute [go_sem] ycond_bool gval_none isV aop_move aop_assign aop_pick apick_bool aop_alloc aop_box aop_build aop_buildSlice aop_load aop_store aop_nilCheck aop_binOp aop_unOp aop_convert aop_arrayPtr aop_makeInterface aop_makeFunc aop_makeMap aop_makeSlice aop_slice aop_fieldAddr aop_field aop_indexAddr aop_index aop_extract aop_call aop_len aop_append aop_copy aop_min aop_max amin_int amax_int blit_all blit_one blit_one' acompare_rows mkCmp asource_row srcRow wrap_u64_of wrap_i64_of wrap_u8_of wrap_u32_of bits_u8 bits_u16 bits_u32 bits_u64 bits_i64 bits_i32 cast0 cast1 Int.cast_ofNat_Int Nat.min_eq_left aval_val avalh_val askip_skip aeval_tmp aeval_func aeval_int aeval_bool aeval_string aeval_nilSlice aeval_nilMap aeval_nilFunc aeval_nilIface aeval_nilPtr acall_func gval abin_add abin_sub abin_mul abin_quo abin_rem abin_and abin_or abin_xor abin_andNot abin_eql abin_neq abin_lss abin_leq abin_gtr abin_geq abin_shl abin_shr aun_not abox_agg abox_int abox_bool abox_slice abox_map abox_string abox_pointer abox_func mkLoad mkStore mkFieldAddr mkField mkIndex mkIndexA mkIndexS mkLen mkAlloc mkBuild mkBuildA mkBuildS mkSliceS mkSliceA mkSliceT mkMake mkArrPtr mkSrc afill abounds abound aextract anilCheck aput_lit aput_none getD_lit at_new at_new0 set_new set_new0 List.append_assoc List.set_cons_succ List.set_cons_zero List.getD_cons_succ List.getD_cons_zero List.getElem?_cons_succ List.getElem?_cons_zero List.getElem?_nil List.cons_append List.nil_append List.append_nil List.map_cons List.map_nil Option.map_some Option.map_none Option.bind_some List.getElem?_toArray List.length_cons List.length_nil List.length_append if_true if_false ite_self cond_true cond_false true_and and_true and_self true_implies false_implies implies_true forall_const Bool.false_eq_true Bool.true_eq_false Bool.not_true Bool.not_false Bool.and_true Bool.true_and Bool.and_false Bool.false_and Bool.or_true Bool.or_false decide_true decide_false ne_eq not_false_eq_true not_true_eq_false Option.some.injEq Option.isSome_some beq_self_eq_true beq_ft beq_tf beq_ff beq_tt Nat.zero_add Nat.add_zero Nat.zero_mul Nat.one_mul Nat.mul_one Int.toNat_natCast Int.toNat_zero Int.toNat_one aop_delete aop_lookup aop_mapUpdate aop_insert aop_mapEntry aop_entryStore aop_range aop_next aop_entry mkFieldAddrF mkIndexF mkIndexZ
attribute [go_sem] List.size_toArray extract_full
attribute [go_sem] alen_slV aindex_slV loadF_at loadF_one alen_outV aindex_outV Sl.piece ofNat_lt' ofNat_le' ofNat_nonneg'
end Go.Am
set_option linter.unusedVariables false
set_option linter.unusedSimpArgs false
/- Arguments as values of Lean's own types. -/
namespace Go.Am
open Go

/-- whatever comes in as cells of these types is a value of Lean's -/
def Decs {α : Type} (P : Program) (ts : List TypeId) (enc : α → List Value) (ok : α → Prop) : Prop :=
  ∀ cs : List Value, cs.length = ts.length → (∀ i : Nat, i < ts.length → TLeaf P (ts.getD i 0) (cs.getD i junk)) → ∃ x, cs = enc x ∧ ok x

section
variable {P : Program} {t e : TypeId} {α β : Type}

theorem one_cell {cs : List Value} (h : cs.length = [t].length) : ∃ v, cs = [v] := by
  match cs, h with
  | [v], _ => exact ⟨v, rfl⟩

theorem Decs.u8 (hu : P.underlying t = some (.int .u8)) : Decs P [t] (fun b : UInt8 => [Value.int .u8 b.toNat]) (fun _ => True) := by
  intro cs hl h
  obtain ⟨v, rfl⟩ := one_cell hl
  obtain ⟨n, e, hw⟩ := (h 0 (by simp)).int_inv (k := .u8) hu
  simp only [List.getD_cons_zero] at e
  subst e
  simp [Lit.wf, IntKind.min, IntKind.max, IntKind.signed, IntKind.bits] at hw
  refine ⟨UInt8.ofNat n.toNat, ?_, trivial⟩
  have : (UInt8.ofNat n.toNat).toNat = n.toNat := by simp; omega
  show [_] = [Value.int _ _]
  rw [this, Int.toNat_of_nonneg (by omega)]
theorem Decs.u64 (hu : P.underlying t = some (.int .u64)) : Decs P [t] (fun b : UInt64 => [Value.int .u64 b.toNat]) (fun _ => True) := by
  intro cs hl h
  obtain ⟨v, rfl⟩ := one_cell hl
  obtain ⟨n, e, hw⟩ := (h 0 (by simp)).int_inv (k := .u64) hu
  simp only [List.getD_cons_zero] at e
  subst e
  simp [Lit.wf, IntKind.min, IntKind.max, IntKind.signed, IntKind.bits] at hw
  refine ⟨UInt64.ofNat n.toNat, ?_, trivial⟩
  have : (UInt64.ofNat n.toNat).toNat = n.toNat := by simp; omega
  show [_] = [Value.int _ _]
  rw [this, Int.toNat_of_nonneg (by omega)]
theorem Decs.int {k : IntKind} (hu : P.underlying t = some (.int k)) : Decs P [t] (fun n : Int => [Value.int k n]) (fun n => (Lit.int k n).wf = true) := by
  intro cs hl h
  obtain ⟨v, rfl⟩ := one_cell hl
  obtain ⟨n, e, hw⟩ := (h 0 (by simp)).int_inv hu
  simp only [List.getD_cons_zero] at e
  subst e
  exact ⟨n, rfl, hw⟩
theorem Decs.bool (hu : P.underlying t = some .bool) : Decs P [t] (fun b : Bool => [Value.bool b]) (fun _ => True) := by
  intro cs hl h
  obtain ⟨v, rfl⟩ := one_cell hl
  obtain ⟨b, e⟩ := (h 0 (by simp)).bool_inv hu
  simp only [List.getD_cons_zero] at e
  subst e
  exact ⟨b, rfl, trivial⟩
theorem Decs.string (hu : P.underlying t = some .string) : Decs P [t] (fun s : ByteArray => [Value.string s]) (fun s => s.size ≤ maxLen) := by
  intro cs hl h
  obtain ⟨v, rfl⟩ := one_cell hl
  obtain ⟨b, e, hb⟩ := (h 0 (by simp)).string_inv hu
  simp only [List.getD_cons_zero] at e
  subst e
  exact ⟨b, rfl, hb⟩

theorem Decs.append {ts1 ts2 : List TypeId} {enc1 : α → List Value} {enc2 : β → List Value} {ok1 : α → Prop} {ok2 : β → Prop} (h1 : Decs P ts1 enc1 ok1) (h2 : Decs P ts2 enc2 ok2) :
    Decs P (ts1 ++ ts2) (fun p : α × β => enc1 p.1 ++ enc2 p.2) (fun p => ok1 p.1 ∧ ok2 p.2) := by
  intro cs hl h
  simp only [List.length_append] at hl
  obtain ⟨x, hx, ox⟩ := h1 (cs.take ts1.length) (by simp; omega) fun i hi => by
    have := h i (by simp; omega)
    simp only [List.getD_eq_getElem?_getD, List.getElem?_append_left hi] at this
    simpa [List.getD_eq_getElem?_getD, List.getElem?_take, hi] using this
  obtain ⟨y, hy, oy⟩ := h2 (cs.drop ts1.length) (by simp; omega) fun i hi => by
    have := h (ts1.length + i) (by simp; omega)
    simp only [List.getD_eq_getElem?_getD, List.getElem?_append_right (Nat.le_add_right _ _), Nat.add_sub_cancel_left] at this
    simpa [List.getD_eq_getElem?_getD, List.getElem?_drop] using this
  exact ⟨(x, y), by show _ = enc1 x ++ enc2 y; rw [← hx, ← hy, List.take_append_drop], ox, oy⟩

theorem Decs.to {ts : List TypeId} {enc : α → List Value} {enc' : β → List Value} {ok : α → Prop} {ok' : β → Prop} (h : Decs P ts enc ok) (g : α → β) (hg : ∀ x, enc x = enc' (g x)) (ho : ∀ x, ok x → ok' (g x)) : Decs P ts enc' ok' := by
  intro cs hl hc
  obtain ⟨x, hx, ox⟩ := h cs hl hc
  exact ⟨g x, by rw [hx, hg], ho x ox⟩

theorem Decs.vec {f : α → Value} {ok : α → Prop} (h : Decs P [t] (fun x => [f x]) ok) : ∀ n : Nat, Decs P (List.replicate n t) (fun v : Vector α n => v.toList.map f) (fun v => ∀ x ∈ v.toList, ok x) := by
  intro n cs hl hc
  have : ∀ (n : Nat) (cs : List Value), cs.length = n → (∀ i : Nat, i < n → TLeaf P t (cs.getD i junk)) → ∃ l : List α, l.length = n ∧ cs = l.map f ∧ ∀ x ∈ l, ok x := by
    intro n
    induction n with
    | zero => intro cs h0 _; exact ⟨[], rfl, List.length_eq_zero_iff.1 h0, by simp⟩
    | succ n ih =>
      intro cs h1 h2
      match cs, h1 with
      | c :: cs, h1 =>
        obtain ⟨l, g1, g2, g3⟩ := ih cs (by simpa using h1) fun i hi => by simpa using h2 (i + 1) (by omega)
        obtain ⟨x, hx, ox⟩ := h [c] rfl fun i hi => by
          have : i = 0 := by simpa using hi
          subst this
          simpa using h2 0 (by omega)
        simp only [List.cons.injEq, and_true] at hx
        exact ⟨x :: l, by simp [g1], by simp [g2, hx], fun y hy => by rcases List.mem_cons.1 hy with rfl | hy; exact ox; exact g3 y hy⟩
  obtain ⟨l, g1, g2, g3⟩ := this n cs (by simpa using hl) fun i hi => by
    have := hc i (by simpa using hi)
    simpa [List.getD_eq_getElem?_getD, List.getElem?_replicate, hi] using this
  exact ⟨⟨l.toArray, by simpa using g1⟩, by simpa using g2, by simpa using g3⟩

/-- a slice that came in -/
theorem Decs.slice {l : List TypeId} {enc : α → List Value} {ok : α → Prop} (hu : P.underlying t = some (.slice e)) (hl : flat P 8 e = some l) (hn : ∀ x, (enc x).length = l.length) (h : Decs P l enc ok) :
    Decs P [t] (fun s : Sl α => [slV enc s]) (fun s => s.l.length ≤ maxLen ∧ ∀ x ∈ s.l, ok x) := by
  intro cs hlen hc
  obtain ⟨v, rfl⟩ := one_cell hlen
  have h0 := hc 0 (by simp)
  simp only [List.getD_cons_zero] at h0
  rcases h0.slice_inv hu hl with rfl | ⟨len, c, rfl, hm, hsz, hall⟩
  · exact ⟨Sl.none, rfl, Nat.zero_le _, by simp [Sl.none]⟩
  · have : ∀ (len : Nat) (c : List Value), c.length = len * l.length → (∀ i j, i < len → j < l.length → TLeaf P (l.getD j 0) (c.getD (i * l.length + j) junk)) → ∃ xs : List α, xs.length = len ∧ c = xs.flatMap enc ∧ ∀ x ∈ xs, ok x := by
      intro len
      induction len with
      | zero => intro c h1 _; exact ⟨[], rfl, List.length_eq_zero_iff.1 (by simpa using h1), by simp⟩
      | succ len ih =>
        intro c h1 h2
        rw [Nat.add_mul, Nat.one_mul] at h1
        obtain ⟨x, hx, ox⟩ := h (c.take l.length) (by simp; omega) fun j hj => by
          have := h2 0 j (by omega) hj
          simp only [Nat.zero_mul, Nat.zero_add] at this
          simpa [List.getD_eq_getElem?_getD, List.getElem?_take, hj] using this
        obtain ⟨xs, g1, g2, g3⟩ := ih (c.drop l.length) (by simp; omega) fun i j hi hj => by
          have := h2 (i + 1) j (by omega) hj
          rw [Nat.add_mul, Nat.one_mul] at this
          have e1 : i * l.length + l.length + j = l.length + (i * l.length + j) := by omega
          rw [e1] at this
          simpa [List.getD_eq_getElem?_getD, List.getElem?_drop] using this
        exact ⟨x :: xs, by simp [g1], by rw [List.flatMap_cons, ← hx, ← g2, List.take_append_drop], fun y hy => by rcases List.mem_cons.1 hy with rfl | hy; exact ox; exact g3 y hy⟩
    obtain ⟨xs, g1, g2, g3⟩ := this len c.toList (by simpa using hsz) fun i j hi hj => by
      have := hall i j hi hj
      simpa [Array.getD_eq_getD_getElem?, List.getD_eq_getElem?_getD] using this
    refine ⟨Sl.full xs, ?_, by simp [Sl.full]; omega, by simpa [Sl.full] using g3⟩
    simp only [slV, Sl.full, cond_false, flatV, ← g2, g1]

/-- an argument that is a row of cells -/
theorem TArg.decs {ts : List TypeId} {enc : α → List Value} {ok : α → Prop} {v : Value} (ha : TArg P t v) (hw : (match P.underlying t with | some (.array _ _) | some (.struct _) => true | _ => false) = true) (hf : flat P 8 t = some ts) (h : Decs P ts enc ok) :
    ∃ x, v = .agg (enc x).toArray ∧ ok x := by
  have : ∃ cs : Array Value, v = .agg cs ∧ cs.size = ts.length ∧ ∀ i, i < ts.length → TLeaf P (ts.getD i 0) (cs.getD i junk) := by
    unfold TArg at ha
    split at ha
    · obtain ⟨l2, cs, h1, h2, h3, h4⟩ := ha; rw [hf] at h1; cases h1; exact ⟨cs, h2, h3, h4⟩
    · obtain ⟨l2, cs, h1, h2, h3, h4⟩ := ha; rw [hf] at h1; cases h1; exact ⟨cs, h2, h3, h4⟩
    · split at hw <;> simp_all
  obtain ⟨cs, rfl, h1, h2⟩ := this
  obtain ⟨x, hx, ox⟩ := h cs.toList (by simpa using h1) fun i hi => by
    have := h2 i hi
    simpa [Array.getD_eq_getD_getElem?, List.getD_eq_getElem?_getD] using this
  exact ⟨x, by rw [← hx], ox⟩
/-- an argument of one cell -/
theorem TArg.dec {f : α → Value} {ok : α → Prop} {v : Value} (ha : TArg P t v) (hw : (match P.underlying t with | some (.array _ _) | some (.struct _) => true | _ => false) = false) (h : Decs P [t] (fun x => [f x]) ok) : ∃ x, v = f x ∧ ok x := by
  have hl : TLeaf P t v := by
    unfold TArg at ha
    split at ha
    · simp_all
    · simp_all
    · exact ha
  obtain ⟨x, hx, ox⟩ := h [v] rfl fun i hi => by
    have : i = 0 := by simpa using hi
    subst this; exact hl
  simp only [List.cons.injEq, and_true] at hx
  exact ⟨x, hx, ox⟩
end
end Go.Am
set_option linter.unusedVariables false
set_option linter.unusedSimpArgs false
/- Loops, by what they hold at their heads. -/
namespace Go.Am
open Go

theorem AWP.loopI {P : Program} {h0 : AH} {c : Code} {Q : Exit → Array Value → AH → Prop} {a : Array Value} {h : AH} {ι : Type} (M : ι → Nat) (Fr : ι → List Value) (Hp : ι → AH) (ok : ι → Prop) (i0 : ι) (hok : ok i0)
    (he : Eases P h0 a h (Fr i0).toArray (Hp i0))
    (round : ∀ i, ok i → ay P h0 c (thenA (fun a1 h1 => ∃ j, M j < M i ∧ ok j ∧ Eases P h0 a1 h1 (Fr j).toArray (Hp j)) Q) (Fr i).toArray (Hp i)) : AWP P h0 (.loop c) Q a h := by
  refine AWP.ease he (AWP.loopE (fun k a h => ∃ i, k = M i ∧ a = (Fr i).toArray ∧ h = Hp i ∧ ok i) (n := M i0) ⟨i0, rfl, rfl, rfl, hok⟩ ?_)
  rintro n a h ⟨i, rfl, rfl, rfl, hi⟩
  refine AWP.mono (ay_sound _ _ _ _ (round i hi)) fun e a1 h1 hq => ?_
  cases e with
  | normal =>
    obtain ⟨j, h2, h3, h4⟩ := hq
    exact ⟨M j, _, _, h2, h4, j, rfl, rfl, rfl, h3⟩
  | _ => exact hq

theorem Keeps.ease {P : Program} {h0 h : AH} {l l1 : List Value} (hle : h0.length ≤ h.length) (hobj : ∀ b o, h[b]? = some o → o.alive = true → (b < h0.length ∧ h0[b]? = some o) ∨ ORen id h.length o o) (hv : Keeps h.length l l1) : Eases P h0 l.toArray h l1.toArray h := by
  have := Eases.tail (P := P) (x := []) hle hobj hv
  simpa using this
/-- nothing new but what is forgotten of the frame -/
theorem Keeps.ease0 {P : Program} {h0 : AH} {l l1 : List Value} (hv : Keeps h0.length l l1) : Eases P h0 l.toArray h0 l1.toArray h0 :=
  hv.ease (Nat.le_refl _) fun b o hb _ => .inl ⟨(List.getElem?_eq_some_iff.1 hb).1, hb⟩
/-- blocks behind are dropped -/
theorem Keeps.ease1 {P : Program} {h0 x : AH} {l l1 : List Value} (hv : Keeps h0.length l l1) : Eases P h0 l.toArray (h0 ++ x) l1.toArray h0 :=
  Eases.tail (Nat.le_refl _) (fun b o hb _ => .inl ⟨(List.getElem?_eq_some_iff.1 hb).1, hb⟩) hv
end Go.Am
