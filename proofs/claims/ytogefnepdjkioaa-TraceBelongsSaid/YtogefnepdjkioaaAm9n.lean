import Derived.Test.YtogefnepdjkioaaAm9m
set_option linter.unusedVariables false
set_option linter.unusedSimpArgs false
/- Maps: what writes them. -/
namespace Go.Am
open Go

theorem mapOk_of {P : Program} {k : TypeId} {es es1 : List MapEntry} {clock : Nat} (m : MapOk P k es clock) (h1 : es1.map (·.key) = es.map (·.key)) (h2 : es1.map (·.born) = es.map (·.born)) : MapOk P k es1 clock := by
  refine ⟨m.ty, m.keys' h1.symm, by rw [h1]; exact m.apart, fun e he => ?_, by rw [h2]; exact m.born⟩
  have : e.born ∈ es.map (·.born) := by rw [← h2]; exact List.mem_map_of_mem he
  obtain ⟨x, hx, hx2⟩ := List.mem_map.1 this
  rw [← hx2]; exact m.old x hx

theorem mapOk_push {P : Program} {k : TypeId} {es : List MapEntry} {clock : Nat} (m : MapOk P k es clock) {key v : Value} (hk : keyed P k key = true) (hno : ∀ e ∈ es, e.key ≠ key) : MapOk P k (es ++ [⟨key, v, clock⟩]) (clock + 1) := by
  refine ⟨m.ty, fun e he => ?_, ?_, fun e he => ?_, ?_⟩
  · rcases List.mem_append.1 he with he | he
    · exact m.keys e he
    · simp at he; subst he; exact hk
  · rw [List.map_append, List.map_cons, List.map_nil]
    refine List.nodup_append.2 ⟨m.apart, by simp, fun a ha b hb => ?_⟩
    simp at hb
    subst hb
    obtain ⟨x, hx, rfl⟩ := List.mem_map.1 ha
    exact hno x hx
  · rcases List.mem_append.1 he with he | he
    · have := m.old e he; omega
    · simp at he; subst he; exact Nat.lt_succ_self _
  · rw [List.map_append, List.map_cons, List.map_nil]
    refine List.nodup_append.2 ⟨m.born, by simp, fun a ha b hb => ?_⟩
    simp at hb
    subst hb
    obtain ⟨x, hx, rfl⟩ := List.mem_map.1 ha
    have := m.old x hx
    omega

theorem mapOk_erase {P : Program} {k : TypeId} {es : List MapEntry} {clock : Nat} (m : MapOk P k es clock) (i : Nat) : MapOk P k (es.eraseIdx i) clock :=
  ⟨m.ty, fun e he => m.keys e (List.mem_of_mem_eraseIdx he), m.apart.sublist ((List.eraseIdx_sublist es i).map _), fun e he => m.old e (List.mem_of_mem_eraseIdx he), m.born.sublist ((List.eraseIdx_sublist es i).map _)⟩

theorem modify_keys {es : List MapEntry} {j : Nat} {g : MapEntry → MapEntry} (hg : ∀ e, es[j]? = some e → (g e).key = e.key) : (es.modify j g).map (·.key) = es.map (·.key) := by
  apply List.ext_getElem?
  intro i
  simp only [List.getElem?_map, List.getElem?_modify]
  cases h : es[i]? with
  | none => rfl
  | some e =>
    simp only [Option.map_eq_map, Option.map_some]
    split
    · rename_i hij; subst hij; rw [hg e h]
    · rfl
theorem modify_born {es : List MapEntry} {j : Nat} {g : MapEntry → MapEntry} (hg : ∀ e, (g e).born = e.born) : (es.modify j g).map (·.born) = es.map (·.born) := by
  apply List.ext_getElem?
  intro i
  simp only [List.getElem?_map, List.getElem?_modify]
  cases h : es[i]? with
  | none => rfl
  | some e =>
    simp only [Option.map_eq_map, Option.map_some]
    split
    · rw [hg e]
    · rfl

theorem sound_mapWrite {P : Program} {f : Emb} {h : AH} {w : World} (hs : Sim P f h w) {b : Nat} {k : TypeId} {es : Array MapEntry} {clock : Nat} (hb : h[b]? = some (.map k es clock)) {es1 es1' : Array MapEntry} {clock1 : Nat}
    (hsz : es1.size = es1'.size) (hrel : ∀ (i : Nat) (e : MapEntry), es1[i]? = some e → ∃ e' : MapEntry, es1'[i]? = some e' ∧ EntryRel f h.length e e') (hok : MapOk P k es1.toList clock1) :
    (setObj (f b).blk (.map es1' clock1)).run P w = .ok () { w with heap := w.heap.setIfInBounds (f b).blk (.map es1' clock1) } ∧
    Step P f h w f (h.set b (.map k es1 clock1)) { w with heap := w.heap.setIfInBounds (f b).blk (.map es1' clock1) } := by
  obtain ⟨es', g1, _⟩ := hs.mapRel hb
  have hlt : (f b).blk < w.heap.size := (Array.getElem?_eq_some_iff.1 g1).1
  refine ⟨MapKept.run_setObj_map _ g1, Step.write (o1 := .map k es1 clock1) (o1' := .map es1' clock1) hs hb rfl rfl hok ?_ ⟨es1', rfl, hsz, hrel⟩ ?_ rfl rfl rfl (by simp)⟩
  · simp [hlt]
  · intro r hr
    simp only [Array.getElem?_setIfInBounds_ne hr.symm]

/-- an entry written where it is -/
theorem modify_rel {f : Emb} {L : Nat} {es es' : Array MapEntry} (hrel : ∀ (i : Nat) (e : MapEntry), es[i]? = some e → ∃ e' : MapEntry, es'[i]? = some e' ∧ EntryRel f L e e') (j : Nat) {g g' : MapEntry → MapEntry}
    (hg : ∀ e e', es[j]? = some e → es'[j]? = some e' → EntryRel f L e e' → EntryRel f L (g e) (g' e')) : ∀ (i : Nat) (e : MapEntry), (es.modify j g)[i]? = some e → ∃ e' : MapEntry, (es'.modify j g')[i]? = some e' ∧ EntryRel f L e e' := by
  intro i e he
  rw [Array.getElem?_modify] at he ⊢
  cases h0 : es[i]? with
  | none => rw [h0] at he; split at he <;> cases he
  | some e0 =>
    rw [h0] at he
    obtain ⟨e0', h1, h2⟩ := hrel i e0 h0
    rw [h1]
    split at he
    · rename_i hij
      subst hij
      cases he
      rw [if_pos rfl]
      exact ⟨_, rfl, hg _ _ h0 h1 h2⟩
    · rename_i hij
      rw [if_neg hij]
      cases he
      exact ⟨_, rfl, h2⟩

theorem push_rel {f : Emb} {L : Nat} {es es' : Array MapEntry} (hsz : es.size = es'.size) (hrel : ∀ (i : Nat) (e : MapEntry), es[i]? = some e → ∃ e' : MapEntry, es'[i]? = some e' ∧ EntryRel f L e e') {x x' : MapEntry} (hx : EntryRel f L x x') :
    ∀ (i : Nat) (e : MapEntry), (es.push x)[i]? = some e → ∃ e' : MapEntry, (es'.push x')[i]? = some e' ∧ EntryRel f L e e' := by
  intro i e he
  rw [Array.getElem?_push] at he ⊢
  rw [← hsz]
  split at he
  · rename_i hi; rw [if_pos hi]; cases he; exact ⟨_, rfl, hx⟩
  · rename_i hi; rw [if_neg hi]; exact hrel i e he

/-- mapUpdate, insert -/
def amUpdate (P : Program) (h : AH) (t : TypeId) (m key v : Value) : Option AH :=
  match P.underlying t with
  | some (.map k _) => if keyed P k key = true then (match m with
    | .map (some b) => match h[b]? with
      | some (.map k' es clock) => if k' = k then (match findK key es.toList 0 with
        | some (j, _) => some (h.set b (.map k (es.modify j fun e => { e with key := key, val := v }) clock))
        | none => some (h.set b (.map k (es.push ⟨key, v, clock⟩) (clock + 1)))) else none
      | _ => none
    | _ => none) else none
  | _ => none

theorem sound_update {P : Program} {f : Emb} {h : AH} {w : World} (hs : Sim P f h w) {t : TypeId} {m m' key key' v v' : Value} (hm : VRel f h.length m m') (hkr : VRel f h.length key key') (hv : VRel f h.length v v') {h1 : AH} (ha : amUpdate P h t m key v = some h1) :
    ∃ w1, (Instr.mapUpdate t m' key' v').run P w = .ok () w1 ∧ Step P f h w f h1 w1 := by
  unfold amUpdate at ha
  split at ha
  case h_2 => cases ha
  rename_i k e hu
  split at ha
  case isFalse => cases ha
  rename_i hk
  cases plain_inv (keyed_plain hk) hkr
  split at ha
  case h_2 => cases ha
  rename_i b
  obtain ⟨rfl, hbL⟩ := hm.map_inv
  split at ha
  case h_2 => cases ha
  rename_i k' es clock hb
  split at ha
  case isFalse => cases ha
  rename_i hkk
  subst hkk
  obtain ⟨es', g1, g2, g3, g4, g5, g6⟩ := hs.mapRel hb
  obtain ⟨l, hkl⟩ := keyOf_keyed g4.ty hk
  have K := keyed_law hs.laid g4.ty
  have hf := find_run hs.laid g4 g5 hk w
  split at ha
  · rename_i j x hx
    cases ha
    rw [hx] at hf
    obtain ⟨e', q1, q2, q3, q4, q5⟩ := hf
    have q1' : es'[j]? = some e' := by simpa using q1
    have q3' : es[j]? = some x := by simpa using q3
    obtain ⟨r1, r2⟩ := sound_mapWrite hs hb (es1 := es.modify j fun e => { e with key := key, val := v }) (es1' := es'.modify j fun e => { e with key := key, val := v' }) (clock1 := clock) (by simpa using g2)
      (modify_rel g3 j fun e e' _ _ hr => ⟨rfl, hr.2.1, hv⟩) (mapOk_of g4 (by rw [Array.toList_modify]; exact modify_keys fun e he => by rw [q3] at he; cases he; exact q4.symm) (by rw [Array.toList_modify]; exact modify_born fun e => rfl))
    refine ⟨_, ?_, r2⟩
    have hst := K.stays w hkl
    simp only [Instr.mapUpdate, Sem.run_bind, run_underlying hu, Result.andThen_ok, run_getObj_map g1, K.check w _ hkl, q5, q1', Option.map_some, Option.getD_some, q2, hst, r1]
  · rename_i hx
    cases ha
    rw [hx] at hf
    have hno := (findK_none hk es.toList 0 g4.keys).1 hx
    obtain ⟨r1, r2⟩ := sound_mapWrite hs hb (es1 := es.push ⟨key, v, clock⟩) (es1' := es'.push ⟨key, v', clock⟩) (clock1 := clock + 1) (by simpa using g2)
      (push_rel g2 g3 ⟨rfl, rfl, hv⟩) (by rw [Array.toList_push]; exact mapOk_push g4 hk hno)
    refine ⟨_, ?_, r2⟩
    simp only [Instr.mapUpdate, Sem.run_bind, run_underlying hu, Result.andThen_ok, run_getObj_map g1, K.check w _ hkl, hf, r1]

/-- mapEntry: the entry of a key, made if there is none; its number -/
def amEntry (P : Program) (h : AH) (t : TypeId) (m key : Value) : Option (Value × AH) :=
  match P.underlying t with
  | some (.map k e) => match zeroOf P e with
    | some z => if keyed P k key = true then (match m with
      | .map (some b) => match h[b]? with
        | some (.map k' es clock) => if k' = k then (match findK key es.toList 0 with
          | some (j, x) => some (.tuple #[x.val, .int .i64 x.born], h.set b (.map k (es.modify j fun e => { e with key := key }) clock))
          | none => some (.tuple #[z, .int .i64 clock], h.set b (.map k (es.push ⟨key, z, clock⟩) (clock + 1)))) else none
        | _ => none
      | _ => none) else none
    | none => none
  | _ => none

theorem sound_entryAt {P : Program} {f : Emb} {h : AH} {w : World} (hs : Sim P f h w) {t : TypeId} {m m' key key' : Value} (hm : VRel f h.length m m') (hkr : VRel f h.length key key') {r : Value} {h1 : AH} (ha : amEntry P h t m key = some (r, h1)) :
    ∃ r' w1, (Instr.mapEntry t m' key').run P w = .ok r' w1 ∧ Step P f h w f h1 w1 ∧ VRel f h1.length r r' := by
  have two : ∀ {L : Nat} {v v' : Value} (n : Nat), VRel f L v v' → VRel f L (.tuple #[v, .int .i64 n]) (.tuple #[v', goInt n]) := by
    intro L v v' n hv
    refine .tuple _ _ rfl fun i => ?_
    match i with
    | 0 => exact hv
    | 1 => exact .int _ _
    | i + 2 => simp [Array.getD]; exact .junk _
  unfold amEntry at ha
  split at ha
  case h_2 => cases ha
  rename_i k e hu
  split at ha
  case h_2 => cases ha
  rename_i z hz
  obtain ⟨hz1, hz2⟩ := zeroOf_run hz w
  split at ha
  case isFalse => cases ha
  rename_i hk
  cases plain_inv (keyed_plain hk) hkr
  split at ha
  case h_2 => cases ha
  rename_i b
  obtain ⟨rfl, hbL⟩ := hm.map_inv
  split at ha
  case h_2 => cases ha
  rename_i k' es clock hb
  split at ha
  case isFalse => cases ha
  rename_i hkk
  subst hkk
  obtain ⟨es', g1, g2, g3, g4, g5, g6⟩ := hs.mapRel hb
  obtain ⟨l, hkl⟩ := keyOf_keyed g4.ty hk
  have K := keyed_law hs.laid g4.ty
  have hf := find_run hs.laid g4 g5 hk w
  split at ha
  · rename_i j x hx
    cases ha
    rw [hx] at hf
    obtain ⟨e', q1, q2, q3, q4, q5⟩ := hf
    have q1' : es'[j]? = some e' := by simpa using q1
    have q3' : es[j]? = some x := by simpa using q3
    obtain ⟨e2, p1, p2, p3, p4⟩ := g3 j x q3'
    have : e2 = e' := by rw [q1'] at p1; cases p1; rfl
    subst this
    obtain ⟨r1, r2⟩ := sound_mapWrite hs hb (es1 := es.modify j fun e => { e with key := key }) (es1' := es'.modify j fun e => { e with key := key }) (clock1 := clock) (by simpa using g2)
      (modify_rel g3 j fun e e' _ _ hr => ⟨rfl, hr.2.1, hr.2.2⟩) (mapOk_of g4 (by rw [Array.toList_modify]; exact modify_keys fun e he => by rw [q3] at he; cases he; exact q4.symm) (by rw [Array.toList_modify]; exact modify_born fun e => rfl))
    refine ⟨.tuple #[e2.val, goInt e2.born], _, ?_, r2, ?_⟩
    · have hst := K.stays w hkl
      simp only [Instr.mapEntry, Sem.run_bind, run_underlying hu, Result.andThen_ok, run_getObj_map g1, K.check w _ hkl, q5, q1', Option.map_some, Option.getD_some, q2, hst, r1, Sem.run_pure]
    · rw [p3]
      exact two x.born (by simpa using p4)
  · rename_i hx
    cases ha
    rw [hx] at hf
    have hno := (findK_none hk es.toList 0 g4.keys).1 hx
    obtain ⟨r1, r2⟩ := sound_mapWrite hs hb (es1 := es.push ⟨key, z, clock⟩) (es1' := es'.push ⟨key, z, clock⟩) (clock1 := clock + 1) (by simpa using g2)
      (push_rel g2 g3 ⟨rfl, rfl, plain_refl hz2⟩) (by rw [Array.toList_push]; exact mapOk_push g4 hk hno)
    refine ⟨.tuple #[z, goInt clock], _, ?_, r2, two clock (plain_refl hz2)⟩
    simp only [Instr.mapEntry, Sem.run_bind, run_underlying hu, Result.andThen_ok, run_getObj_map g1, K.check w _ hkl, hf, hz1, r1, Sem.run_pure]

/-- entryStore -/
def amEntryStore (h : AH) (m stamp v : Value) : Option AH :=
  match m, stamp with
  | .map (some b), .int .i64 n => match h[b]? with
    | some (.map k es clock) => match es.findIdx? (fun e => (e.born : Int) == n) with
      | some i => some (h.set b (.map k (es.modify i fun e => { e with val := v }) clock))
      | none => none
    | _ => none
  | _, _ => none

theorem sound_entryStore {P : Program} {f : Emb} {h : AH} {w : World} (hs : Sim P f h w) {t : TypeId} {m m' st st' v v' : Value} (hm : VRel f h.length m m') (hst : VRel f h.length st st') (hv : VRel f h.length v v') {h1 : AH} (ha : amEntryStore h m st v = some h1) :
    ∃ w1, (Instr.entryStore t m' st' v').run P w = .ok () w1 ∧ Step P f h w f h1 w1 := by
  unfold amEntryStore at ha
  split at ha
  case h_2 => cases ha
  rename_i b n
  cases hst.int_inv
  obtain ⟨rfl, hbL⟩ := hm.map_inv
  split at ha
  case h_2 => cases ha
  rename_i k es clock hb
  obtain ⟨es', g1, g2, g3, g4, g5, g6⟩ := hs.mapRel hb
  split at ha
  case h_2 => cases ha
  rename_i i hi
  cases ha
  have hi' : es'.findIdx? (fun e => (e.born : Int) == n) = some i := by
    have e0 : ∀ a : Array MapEntry, a.findIdx? (fun e => (e.born : Int) == n) = a.toList.findIdx? (fun e => (e.born : Int) == n) := fun ⟨l⟩ => by simp
    rw [e0] at hi ⊢
    have e1 : ∀ l : List MapEntry, l.findIdx? (fun e => (e.born : Int) == n) = (l.map fun (x : MapEntry) => x.born).findIdx? (fun (b : Nat) => (b : Int) == n) := fun l => by
      rw [List.findIdx?_map]; rfl
    rw [e1] at hi ⊢
    rw [← g6]; exact hi
  obtain ⟨r1, r2⟩ := sound_mapWrite hs hb (es1 := es.modify i fun e => { e with val := v }) (es1' := es'.modify i fun e => { e with val := v' }) (clock1 := clock) (by simpa using g2)
    (modify_rel g3 i fun e e' _ _ hr => ⟨hr.1, hr.2.1, hv⟩) (mapOk_of g4 (by rw [Array.toList_modify]; exact modify_keys fun e he => rfl) (by rw [Array.toList_modify]; exact modify_born fun e => rfl))
  refine ⟨_, ?_, r2⟩
  simp only [Instr.entryStore, Sem.run_bind, Sem.run_pure, Result.andThen_ok, run_getObj_map g1, asInt, asIntOf, hi', r1]

/-- delete -/
def amDelete (P : Program) (h : AH) (t : TypeId) (m key : Value) : Option (Value × AH) :=
  match P.underlying t with
  | some (.map k _) => if keyed P k key = true then (match m with
    | .map (some b) => match h[b]? with
      | some (.map k' es clock) => if k' = k then (match findK key es.toList 0 with
        | some (j, _) => some (.tuple #[], h.set b (.map k (es.eraseIdxIfInBounds j) clock))
        | none => some (.tuple #[], h.set b (.map k es clock))) else none
      | _ => none
    | _ => none) else none
  | _ => none

theorem erase_toList (es : Array MapEntry) (i : Nat) : (es.eraseIdxIfInBounds i).toList = es.toList.eraseIdx i := by
  unfold Array.eraseIdxIfInBounds
  split
  · simp
  · rw [List.eraseIdx_of_length_le]; simpa using Nat.le_of_not_lt ‹_›

theorem sound_delete {P : Program} {f : Emb} {h : AH} {w : World} (hs : Sim P f h w) {ts : Array TypeId} {t ty : TypeId} (hts : ts[0]? = some t) {m m' key key' : Value} (hm : VRel f h.length m m') (hkr : VRel f h.length key key') {r : Value} {h1 : AH} (ha : amDelete P h t m key = some (r, h1)) :
    ∃ r' w1, (Builtin.delete_ ts ty #[m', key']).run P w = .ok r' w1 ∧ Step P f h w f h1 w1 ∧ VRel f h1.length r r' := by
  have unit : ∀ L, VRel f L (.tuple #[]) (.tuple #[]) := fun L => .tuple #[] #[] rfl (fun i => by simp; exact .junk _)
  unfold amDelete at ha
  split at ha
  case h_2 => cases ha
  rename_i k e hu
  split at ha
  case isFalse => cases ha
  rename_i hk
  cases plain_inv (keyed_plain hk) hkr
  split at ha
  case h_2 => cases ha
  rename_i b
  obtain ⟨rfl, hbL⟩ := hm.map_inv
  split at ha
  case h_2 => cases ha
  rename_i k' es clock hb
  split at ha
  case isFalse => cases ha
  rename_i hkk
  subst hkk
  obtain ⟨es', g1, g2, g3, g4, g5, g6⟩ := hs.mapRel hb
  obtain ⟨l, hkl⟩ := keyOf_keyed g4.ty hk
  have K := keyed_law hs.laid g4.ty
  have hf := find_run hs.laid g4 g5 hk w
  split at ha
  · rename_i j x hx
    cases ha
    rw [hx] at hf
    obtain ⟨e', q1, q2, q3, q4, q5⟩ := hf
    obtain ⟨r1, r2⟩ := sound_mapWrite hs hb (es1 := es.eraseIdxIfInBounds j) (es1' := es'.eraseIdxIfInBounds j) (clock1 := clock)
      (by have := congrArg List.length (erase_toList es j); have h2 := congrArg List.length (erase_toList es' j); simp only [Array.length_toList, List.length_eraseIdx] at this h2; rw [this, h2, g2])
      (fun i e he => by
        rw [← Array.getElem?_toList, erase_toList, List.getElem?_eraseIdx] at he ⊢
        split at he
        · rename_i hlt; rw [if_pos hlt]
          obtain ⟨e2, k1, k2⟩ := g3 i e (by simpa using he)
          exact ⟨e2, by simpa using k1, k2⟩
        · rename_i hlt; rw [if_neg hlt]
          obtain ⟨e2, k1, k2⟩ := g3 (i + 1) e (by simpa using he)
          exact ⟨e2, by simpa using k1, k2⟩)
      (by rw [erase_toList]; exact mapOk_erase g4 j)
    refine ⟨.tuple #[], _, ?_, r2, unit _⟩
    simp only [Builtin.delete_, hts, List.getElem?_toArray, List.getElem?_cons_zero, List.getElem?_cons_succ, Sem.run_bind, run_underlying hu, Result.andThen_ok, run_getObj_map g1, K.check w _ hkl, q5, r1, Sem.run_pure]
  · rename_i hx
    cases ha
    rw [hx] at hf
    obtain ⟨r1, r2⟩ := sound_mapWrite hs hb (es1 := es) (es1' := es') (clock1 := clock) g2 g3 g4
    refine ⟨.tuple #[], _, ?_, r2, unit _⟩
    simp only [Builtin.delete_, hts, List.getElem?_toArray, List.getElem?_cons_zero, List.getElem?_cons_succ, Sem.run_bind, run_underlying hu, Result.andThen_ok, run_getObj_map g1, K.check w _ hkl, hf, r1, Sem.run_pure]
end Go.Am
