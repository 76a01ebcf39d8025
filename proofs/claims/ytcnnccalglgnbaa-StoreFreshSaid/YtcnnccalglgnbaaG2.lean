import Derived.Maps.RangeRun
import Derived.Lib.BytesEntry
import Derived.Laws.Externs
import Derived.CallsIn
import Derived.TacticsIn
import Derived.OrdersIn
import Derived.LoopNIn
import Derived.RangeFuncLeaves
import Derived.RangeFuncRecord
import Derived.RangeFuncCalls
import Derived.Orders
import Derived.Test.YtcnnccalglgnbaaG1
set_option linter.unusedVariables false
set_option linter.unusedSimpArgs false
/- Maps: what writes them. -/
namespace Go.Am
open Go
theorem mapOk_of {P : Program} {k : TypeId} {es es1 : List MapEntry} {clock : Nat} (m : MapOk P k es clock) (h1 : es1.map (·.key) = es.map (·.key)) (h2 : es1.map (·.born) = es.map (·.born)) : MapOk P k es1 clock := by
  refine ⟨m.ty, m.keys' h1.symm, by rw [h1]; exact m.apart, fun e he => ?_, by rw [h2]; exact m.born⟩
  have : e.born ∈ es.map (·.born) := by rw [← h2]; exact List.mem_map_of_mem he
  obtain ⟨x, hx, hx2⟩ := List.mem_map.1 this
  rw [← hx2]; exact m.old x hx
theorem mapOk_push {P : Program} {k : TypeId} {es : List MapEntry} {clock : Nat} (m : MapOk P k es clock) {key v : Value} (hk : keyed P k key = true) (hno : ∀ e ∈ es, e.key ≠ key) : MapOk P k (es ++ [⟨key, v, clock⟩]) (clock + 1) := by
  refine ⟨m.ty, fun e he => ?_, ?_, fun e he => ?_, ?_⟩
  · rcases List.mem_append.1 he with he | he
    · exact m.keys e he
    · simp at he; subst he; exact hk
  · rw [List.map_append, List.map_cons, List.map_nil]
    refine List.nodup_append.2 ⟨m.apart, by simp, fun a ha b hb => ?_⟩
    simp at hb
    subst hb
    obtain ⟨x, hx, rfl⟩ := List.mem_map.1 ha
    exact hno x hx
  · rcases List.mem_append.1 he with he | he
    · have := m.old e he; omega
    · simp at he; subst he; exact Nat.lt_succ_self _
  · rw [List.map_append, List.map_cons, List.map_nil]
    refine List.nodup_append.2 ⟨m.born, by simp, fun a ha b hb => ?_⟩
    simp at hb
    subst hb
    obtain ⟨x, hx, rfl⟩ := List.mem_map.1 ha
    have := m.old x hx
    omega
theorem mapOk_erase {P : Program} {k : TypeId} {es : List MapEntry} {clock : Nat} (m : MapOk P k es clock) (i : Nat) : MapOk P k (es.eraseIdx i) clock :=
  ⟨m.ty, fun e he => m.keys e (List.mem_of_mem_eraseIdx he), m.apart.sublist ((List.eraseIdx_sublist es i).map _), fun e he => m.old e (List.mem_of_mem_eraseIdx he), m.born.sublist ((List.eraseIdx_sublist es i).map _)⟩
theorem modify_keys {es : List MapEntry} {j : Nat} {g : MapEntry → MapEntry} (hg : ∀ e, es[j]? = some e → (g e).key = e.key) : (es.modify j g).map (·.key) = es.map (·.key) := by
  apply List.ext_getElem?
  intro i
  simp only [List.getElem?_map, List.getElem?_modify]
  cases h : es[i]? with
  | none => rfl
  | some e =>
    simp only [Option.map_eq_map, Option.map_some]
    split
    · rename_i hij; subst hij; rw [hg e h]
    · rfl
theorem modify_born {es : List MapEntry} {j : Nat} {g : MapEntry → MapEntry} (hg : ∀ e, (g e).born = e.born) : (es.modify j g).map (·.born) = es.map (·.born) := by
  apply List.ext_getElem?
  intro i
  simp only [List.getElem?_map, List.getElem?_modify]
  cases h : es[i]? with
  | none => rfl
  | some e =>
    simp only [Option.map_eq_map, Option.map_some]
    split
    · rw [hg e]
    · rfl
theorem sound_mapWrite {P : Program} {f : Emb} {h : AH} {w : World} (hs : Sim P f h w) {b : Nat} {k : TypeId} {es : Array MapEntry} {clock : Nat} (hb : h[b]? = some (.map k es clock)) {es1 es1' : Array MapEntry} {clock1 : Nat}
    (hsz : es1.size = es1'.size) (hrel : ∀ (i : Nat) (e : MapEntry), es1[i]? = some e → ∃ e' : MapEntry, es1'[i]? = some e' ∧ EntryRel f h.length e e') (hok : MapOk P k es1.toList clock1) :
    (setObj (f b).blk (.map es1' clock1)).run P w = .ok () { w with heap := w.heap.setIfInBounds (f b).blk (.map es1' clock1) } ∧
    Step P f h w f (h.set b (.map k es1 clock1)) { w with heap := w.heap.setIfInBounds (f b).blk (.map es1' clock1) } := by
  obtain ⟨es', g1, _⟩ := hs.mapRel hb
  have hlt : (f b).blk < w.heap.size := (Array.getElem?_eq_some_iff.1 g1).1
  refine ⟨MapKept.run_setObj_map _ g1, Step.write (o1 := .map k es1 clock1) (o1' := .map es1' clock1) hs hb rfl rfl hok ?_ ⟨es1', rfl, hsz, hrel⟩ ?_ rfl rfl rfl (by simp)⟩
  · simp [hlt]
  · intro r hr
    simp only [Array.getElem?_setIfInBounds_ne hr.symm]
/-- an entry written where it is -/
theorem modify_rel {f : Emb} {L : Nat} {es es' : Array MapEntry} (hrel : ∀ (i : Nat) (e : MapEntry), es[i]? = some e → ∃ e' : MapEntry, es'[i]? = some e' ∧ EntryRel f L e e') (j : Nat) {g g' : MapEntry → MapEntry}
    (hg : ∀ e e', es[j]? = some e → es'[j]? = some e' → EntryRel f L e e' → EntryRel f L (g e) (g' e')) : ∀ (i : Nat) (e : MapEntry), (es.modify j g)[i]? = some e → ∃ e' : MapEntry, (es'.modify j g')[i]? = some e' ∧ EntryRel f L e e' := by
  intro i e he
  rw [Array.getElem?_modify] at he ⊢
  cases h0 : es[i]? with
  | none => rw [h0] at he; split at he <;> cases he
  | some e0 =>
    rw [h0] at he
    obtain ⟨e0', h1, h2⟩ := hrel i e0 h0
    rw [h1]
    split at he
    · rename_i hij
      subst hij
      cases he
      rw [if_pos rfl]
      exact ⟨_, rfl, hg _ _ h0 h1 h2⟩
    · rename_i hij
      rw [if_neg hij]
      cases he
      exact ⟨_, rfl, h2⟩
theorem push_rel {f : Emb} {L : Nat} {es es' : Array MapEntry} (hsz : es.size = es'.size) (hrel : ∀ (i : Nat) (e : MapEntry), es[i]? = some e → ∃ e' : MapEntry, es'[i]? = some e' ∧ EntryRel f L e e') {x x' : MapEntry} (hx : EntryRel f L x x') :
    ∀ (i : Nat) (e : MapEntry), (es.push x)[i]? = some e → ∃ e' : MapEntry, (es'.push x')[i]? = some e' ∧ EntryRel f L e e' := by
  intro i e he
  rw [Array.getElem?_push] at he ⊢
  rw [← hsz]
  split at he
  · rename_i hi; rw [if_pos hi]; cases he; exact ⟨_, rfl, hx⟩
  · rename_i hi; rw [if_neg hi]; exact hrel i e he
/-- mapUpdate, insert -/
def amUpdate (P : Program) (h : AH) (t : TypeId) (m key v : Value) : Option AH :=
  match P.underlying t with
  | some (.map k _) => if keyed P k key = true then (match m with
    | .map (some b) => match h[b]? with
      | some (.map k' es clock) => if k' = k then (match findK key es.toList 0 with
        | some (j, _) => some (h.set b (.map k (es.modify j fun e => { e with key := key, val := v }) clock))
        | none => some (h.set b (.map k (es.push ⟨key, v, clock⟩) (clock + 1)))) else none
      | _ => none
    | _ => none) else none
  | _ => none
theorem sound_update {P : Program} {f : Emb} {h : AH} {w : World} (hs : Sim P f h w) {t : TypeId} {m m' key key' v v' : Value} (hm : VRel f h.length m m') (hkr : VRel f h.length key key') (hv : VRel f h.length v v') {h1 : AH} (ha : amUpdate P h t m key v = some h1) :
    ∃ w1, (Instr.mapUpdate t m' key' v').run P w = .ok () w1 ∧ Step P f h w f h1 w1 := by
  unfold amUpdate at ha
  split at ha
  case h_2 => cases ha
  rename_i k e hu
  split at ha
  case isFalse => cases ha
  rename_i hk
  cases plain_inv (keyed_plain hk) hkr
  split at ha
  case h_2 => cases ha
  rename_i b
  obtain ⟨rfl, hbL⟩ := hm.map_inv
  split at ha
  case h_2 => cases ha
  rename_i k' es clock hb
  split at ha
  case isFalse => cases ha
  rename_i hkk
  subst hkk
  obtain ⟨es', g1, g2, g3, g4, g5, g6⟩ := hs.mapRel hb
  obtain ⟨l, hkl⟩ := keyOf_keyed g4.ty hk
  have K := keyed_law hs.laid g4.ty
  have hf := find_run hs.laid g4 g5 hk w
  split at ha
  · rename_i j x hx
    cases ha
    rw [hx] at hf
    obtain ⟨e', q1, q2, q3, q4, q5⟩ := hf
    have q1' : es'[j]? = some e' := by simpa using q1
    have q3' : es[j]? = some x := by simpa using q3
    obtain ⟨r1, r2⟩ := sound_mapWrite hs hb (es1 := es.modify j fun e => { e with key := key, val := v }) (es1' := es'.modify j fun e => { e with key := key, val := v' }) (clock1 := clock) (by simpa using g2)
      (modify_rel g3 j fun e e' _ _ hr => ⟨rfl, hr.2.1, hv⟩) (mapOk_of g4 (by rw [Array.toList_modify]; exact modify_keys fun e he => by rw [q3] at he; cases he; exact q4.symm) (by rw [Array.toList_modify]; exact modify_born fun e => rfl))
    refine ⟨_, ?_, r2⟩
    have hst := K.stays w hkl
    simp only [Instr.mapUpdate, Sem.run_bind, run_underlying hu, Result.andThen_ok, run_getObj_map g1, K.check w _ hkl, q5, q1', Option.map_some, Option.getD_some, q2, hst, r1]
  · rename_i hx
    cases ha
    rw [hx] at hf
    have hno := (findK_none hk es.toList 0 g4.keys).1 hx
    obtain ⟨r1, r2⟩ := sound_mapWrite hs hb (es1 := es.push ⟨key, v, clock⟩) (es1' := es'.push ⟨key, v', clock⟩) (clock1 := clock + 1) (by simpa using g2)
      (push_rel g2 g3 ⟨rfl, rfl, hv⟩) (by rw [Array.toList_push]; exact mapOk_push g4 hk hno)
    refine ⟨_, ?_, r2⟩
    simp only [Instr.mapUpdate, Sem.run_bind, run_underlying hu, Result.andThen_ok, run_getObj_map g1, K.check w _ hkl, hf, r1]
/-- mapEntry: the entry of a key, made if there is none; its number -/
def amEntry (P : Program) (h : AH) (t : TypeId) (m key : Value) : Option (Value × AH) :=
  match P.underlying t with
  | some (.map k e) => match zeroOf P e with
    | some z => if keyed P k key = true then (match m with
      | .map (some b) => match h[b]? with
        | some (.map k' es clock) => if k' = k then (match findK key es.toList 0 with
          | some (j, x) => some (.tuple #[x.val, .int .i64 x.born], h.set b (.map k (es.modify j fun e => { e with key := key }) clock))
          | none => some (.tuple #[z, .int .i64 clock], h.set b (.map k (es.push ⟨key, z, clock⟩) (clock + 1)))) else none
        | _ => none
      | _ => none) else none
    | none => none
  | _ => none
theorem sound_entryAt {P : Program} {f : Emb} {h : AH} {w : World} (hs : Sim P f h w) {t : TypeId} {m m' key key' : Value} (hm : VRel f h.length m m') (hkr : VRel f h.length key key') {r : Value} {h1 : AH} (ha : amEntry P h t m key = some (r, h1)) :
    ∃ r' w1, (Instr.mapEntry t m' key').run P w = .ok r' w1 ∧ Step P f h w f h1 w1 ∧ VRel f h1.length r r' := by
  have two : ∀ {L : Nat} {v v' : Value} (n : Nat), VRel f L v v' → VRel f L (.tuple #[v, .int .i64 n]) (.tuple #[v', goInt n]) := by
    intro L v v' n hv
    refine .tuple _ _ rfl fun i => ?_
    match i with
    | 0 => exact hv
    | 1 => exact .int _ _
    | i + 2 => simp [Array.getD]; exact .junk _
  unfold amEntry at ha
  split at ha
  case h_2 => cases ha
  rename_i k e hu
  split at ha
  case h_2 => cases ha
  rename_i z hz
  obtain ⟨hz1, hz2⟩ := zeroOf_run hz w
  split at ha
  case isFalse => cases ha
  rename_i hk
  cases plain_inv (keyed_plain hk) hkr
  split at ha
  case h_2 => cases ha
  rename_i b
  obtain ⟨rfl, hbL⟩ := hm.map_inv
  split at ha
  case h_2 => cases ha
  rename_i k' es clock hb
  split at ha
  case isFalse => cases ha
  rename_i hkk
  subst hkk
  obtain ⟨es', g1, g2, g3, g4, g5, g6⟩ := hs.mapRel hb
  obtain ⟨l, hkl⟩ := keyOf_keyed g4.ty hk
  have K := keyed_law hs.laid g4.ty
  have hf := find_run hs.laid g4 g5 hk w
  split at ha
  · rename_i j x hx
    cases ha
    rw [hx] at hf
    obtain ⟨e', q1, q2, q3, q4, q5⟩ := hf
    have q1' : es'[j]? = some e' := by simpa using q1
    have q3' : es[j]? = some x := by simpa using q3
    obtain ⟨e2, p1, p2, p3, p4⟩ := g3 j x q3'
    have : e2 = e' := by rw [q1'] at p1; cases p1; rfl
    subst this
    obtain ⟨r1, r2⟩ := sound_mapWrite hs hb (es1 := es.modify j fun e => { e with key := key }) (es1' := es'.modify j fun e => { e with key := key }) (clock1 := clock) (by simpa using g2)
      (modify_rel g3 j fun e e' _ _ hr => ⟨rfl, hr.2.1, hr.2.2⟩) (mapOk_of g4 (by rw [Array.toList_modify]; exact modify_keys fun e he => by rw [q3] at he; cases he; exact q4.symm) (by rw [Array.toList_modify]; exact modify_born fun e => rfl))
    refine ⟨.tuple #[e2.val, goInt e2.born], _, ?_, r2, ?_⟩
    · have hst := K.stays w hkl
      simp only [Instr.mapEntry, Sem.run_bind, run_underlying hu, Result.andThen_ok, run_getObj_map g1, K.check w _ hkl, q5, q1', Option.map_some, Option.getD_some, q2, hst, r1, Sem.run_pure]
    · rw [p3]
      exact two x.born (by simpa using p4)
  · rename_i hx
    cases ha
    rw [hx] at hf
    have hno := (findK_none hk es.toList 0 g4.keys).1 hx
    obtain ⟨r1, r2⟩ := sound_mapWrite hs hb (es1 := es.push ⟨key, z, clock⟩) (es1' := es'.push ⟨key, z, clock⟩) (clock1 := clock + 1) (by simpa using g2)
      (push_rel g2 g3 ⟨rfl, rfl, plain_refl hz2⟩) (by rw [Array.toList_push]; exact mapOk_push g4 hk hno)
    refine ⟨.tuple #[z, goInt clock], _, ?_, r2, two clock (plain_refl hz2)⟩
    simp only [Instr.mapEntry, Sem.run_bind, run_underlying hu, Result.andThen_ok, run_getObj_map g1, K.check w _ hkl, hf, hz1, r1, Sem.run_pure]
/-- entryStore -/
def amEntryStore (h : AH) (m stamp v : Value) : Option AH :=
  match m, stamp with
  | .map (some b), .int .i64 n => match h[b]? with
    | some (.map k es clock) => match es.findIdx? (fun e => (e.born : Int) == n) with
      | some i => some (h.set b (.map k (es.modify i fun e => { e with val := v }) clock))
      | none => none
    | _ => none
  | _, _ => none
theorem sound_entryStore {P : Program} {f : Emb} {h : AH} {w : World} (hs : Sim P f h w) {t : TypeId} {m m' st st' v v' : Value} (hm : VRel f h.length m m') (hst : VRel f h.length st st') (hv : VRel f h.length v v') {h1 : AH} (ha : amEntryStore h m st v = some h1) :
    ∃ w1, (Instr.entryStore t m' st' v').run P w = .ok () w1 ∧ Step P f h w f h1 w1 := by
  unfold amEntryStore at ha
  split at ha
  case h_2 => cases ha
  rename_i b n
  cases hst.int_inv
  obtain ⟨rfl, hbL⟩ := hm.map_inv
  split at ha
  case h_2 => cases ha
  rename_i k es clock hb
  obtain ⟨es', g1, g2, g3, g4, g5, g6⟩ := hs.mapRel hb
  split at ha
  case h_2 => cases ha
  rename_i i hi
  cases ha
  have hi' : es'.findIdx? (fun e => (e.born : Int) == n) = some i := by
    have e0 : ∀ a : Array MapEntry, a.findIdx? (fun e => (e.born : Int) == n) = a.toList.findIdx? (fun e => (e.born : Int) == n) := fun ⟨l⟩ => by simp
    rw [e0] at hi ⊢
    have e1 : ∀ l : List MapEntry, l.findIdx? (fun e => (e.born : Int) == n) = (l.map fun (x : MapEntry) => x.born).findIdx? (fun (b : Nat) => (b : Int) == n) := fun l => by
      rw [List.findIdx?_map]; rfl
    rw [e1] at hi ⊢
    rw [← g6]; exact hi
  obtain ⟨r1, r2⟩ := sound_mapWrite hs hb (es1 := es.modify i fun e => { e with val := v }) (es1' := es'.modify i fun e => { e with val := v' }) (clock1 := clock) (by simpa using g2)
    (modify_rel g3 i fun e e' _ _ hr => ⟨hr.1, hr.2.1, hv⟩) (mapOk_of g4 (by rw [Array.toList_modify]; exact modify_keys fun e he => rfl) (by rw [Array.toList_modify]; exact modify_born fun e => rfl))
  refine ⟨_, ?_, r2⟩
  simp only [Instr.entryStore, Sem.run_bind, Sem.run_pure, Result.andThen_ok, run_getObj_map g1, asInt, asIntOf, hi', r1]
/-- delete -/
def amDelete (P : Program) (h : AH) (t : TypeId) (m key : Value) : Option (Value × AH) :=
  match P.underlying t with
  | some (.map k _) => if keyed P k key = true then (match m with
    | .map (some b) => match h[b]? with
      | some (.map k' es clock) => if k' = k then (match findK key es.toList 0 with
        | some (j, _) => some (.tuple #[], h.set b (.map k (es.eraseIdxIfInBounds j) clock))
        | none => some (.tuple #[], h.set b (.map k es clock))) else none
      | _ => none
    | _ => none) else none
  | _ => none
theorem erase_toList (es : Array MapEntry) (i : Nat) : (es.eraseIdxIfInBounds i).toList = es.toList.eraseIdx i := by
  unfold Array.eraseIdxIfInBounds
  split
  · simp
  · rw [List.eraseIdx_of_length_le]; simpa using Nat.le_of_not_lt ‹_›
theorem sound_delete {P : Program} {f : Emb} {h : AH} {w : World} (hs : Sim P f h w) {ts : Array TypeId} {t ty : TypeId} (hts : ts[0]? = some t) {m m' key key' : Value} (hm : VRel f h.length m m') (hkr : VRel f h.length key key') {r : Value} {h1 : AH} (ha : amDelete P h t m key = some (r, h1)) :
    ∃ r' w1, (Builtin.delete_ ts ty #[m', key']).run P w = .ok r' w1 ∧ Step P f h w f h1 w1 ∧ VRel f h1.length r r' := by
  have unit : ∀ L, VRel f L (.tuple #[]) (.tuple #[]) := fun L => .tuple #[] #[] rfl (fun i => by simp; exact .junk _)
  unfold amDelete at ha
  split at ha
  case h_2 => cases ha
  rename_i k e hu
  split at ha
  case isFalse => cases ha
  rename_i hk
  cases plain_inv (keyed_plain hk) hkr
  split at ha
  case h_2 => cases ha
  rename_i b
  obtain ⟨rfl, hbL⟩ := hm.map_inv
  split at ha
  case h_2 => cases ha
  rename_i k' es clock hb
  split at ha
  case isFalse => cases ha
  rename_i hkk
  subst hkk
  obtain ⟨es', g1, g2, g3, g4, g5, g6⟩ := hs.mapRel hb
  obtain ⟨l, hkl⟩ := keyOf_keyed g4.ty hk
  have K := keyed_law hs.laid g4.ty
  have hf := find_run hs.laid g4 g5 hk w
  split at ha
  · rename_i j x hx
    cases ha
    rw [hx] at hf
    obtain ⟨e', q1, q2, q3, q4, q5⟩ := hf
    obtain ⟨r1, r2⟩ := sound_mapWrite hs hb (es1 := es.eraseIdxIfInBounds j) (es1' := es'.eraseIdxIfInBounds j) (clock1 := clock)
      (by have := congrArg List.length (erase_toList es j); have h2 := congrArg List.length (erase_toList es' j); simp only [Array.length_toList, List.length_eraseIdx] at this h2; rw [this, h2, g2])
      (fun i e he => by
        rw [← Array.getElem?_toList, erase_toList, List.getElem?_eraseIdx] at he ⊢
        split at he
        · rename_i hlt; rw [if_pos hlt]
          obtain ⟨e2, k1, k2⟩ := g3 i e (by simpa using he)
          exact ⟨e2, by simpa using k1, k2⟩
        · rename_i hlt; rw [if_neg hlt]
          obtain ⟨e2, k1, k2⟩ := g3 (i + 1) e (by simpa using he)
          exact ⟨e2, by simpa using k1, k2⟩)
      (by rw [erase_toList]; exact mapOk_erase g4 j)
    refine ⟨.tuple #[], _, ?_, r2, unit _⟩
    simp only [Builtin.delete_, hts, List.getElem?_toArray, List.getElem?_cons_zero, List.getElem?_cons_succ, Sem.run_bind, run_underlying hu, Result.andThen_ok, run_getObj_map g1, K.check w _ hkl, q5, r1, Sem.run_pure]
  · rename_i hx
    cases ha
    rw [hx] at hf
    obtain ⟨r1, r2⟩ := sound_mapWrite hs hb (es1 := es) (es1' := es') (clock1 := clock) g2 g3 g4
    refine ⟨.tuple #[], _, ?_, r2, unit _⟩
    simp only [Builtin.delete_, hts, List.getElem?_toArray, List.getElem?_cons_zero, List.getElem?_cons_succ, Sem.run_bind, run_underlying hu, Result.andThen_ok, run_getObj_map g1, K.check w _ hkl, hf, r1, Sem.run_pure]
end Go.Am

set_option linter.unusedVariables false
set_option linter.unusedSimpArgs false
/- One operation. -/
namespace Go.Am
open Go
inductive ARes where
  | val (v : Value) (h : AH)
  | skip (h : AH)
  | enter (F : FuncId) (args : Array Value)
  | any (S : Value → AH → Prop)
def hasBody (P : Program) (F : FuncId) : Bool :=
  match P.funcs[F]? with
  | some fn => fn.name != "runtime.NumGoroutine" && fn.body.isSome
  | none => false
def aval (h : AH) : Option Value → Option ARes
  | some v => some (.val v h)
  | none => none
def avalh : Option (Value × AH) → Option ARes
  | some (v, h) => some (.val v h)
  | none => none
def askip : Option AH → Option ARes
  | some h => some (.skip h)
  | none => none
/-- the comparison of bytes, which has no body -/
def isCompare (P : Program) (F : FuncId) : Bool :=
  match P.funcs[F]? with
  | some fn => fn.name == "internal/bytealg.Compare" && fn.origin == "" && fn.body.isNone
  | none => false
def isByte : Value → Bool
  | .int .u8 _ => true
  | _ => false
def byteOf : Value → UInt8
  | .int _ n => n.toNat.toUInt8
  | _ => 0
def bytesV (c : Array Value) : ByteArray := ⟨c.map byteOf⟩
def cmpV (c d : Array Value) : Int := Extern.BytealgCompare.cmp (bytesV c) (bytesV d)
def isSlice : Value → Bool
  | .slice .. => true
  | .func (.yield 0) _ _ => true
  | _ => false
def acompare (h : AH) (x y : Value) : Option Value :=
  if isSlice x = true ∧ isSlice y = true then
    match asource h 1 x, asource h 1 y with
    | some (_, c), some (_, d) => if c.all isByte = true ∧ d.all isByte = true then some (.int .i64 (cmpV c d)) else none
    | _, _ => none
  else none
def isName (P : Program) (F : FuncId) (nm : String) : Bool :=
  match P.funcs[F]? with
  | some fn => fn.name == nm && fn.origin == "" && fn.body.isNone
  | none => false
/-- sums and differences with a carry -/
def acarry (add : Bool) (x y c : Value) : Option Value :=
  match x, y, c with
  | .int .u64 a, .int .u64 b, .int .u64 d => if d.toNat ≤ 1 then
      (if add then some (.tuple #[.int .u64 (Int.ofNat ((a.toNat + b.toNat + d.toNat) % 2 ^ 64)), .int .u64 (Int.ofNat ((a.toNat + b.toNat + d.toNat) / 2 ^ 64))])
       else some (.tuple #[.int .u64 (Int.ofNat ((a.toNat + 2 ^ 64 - b.toNat - d.toNat) % 2 ^ 64)), .int .u64 (Int.ofNat (if a.toNat < b.toNat + d.toNat then 1 else 0))])) else none
  | _, _, _ => none
def aextern (P : Program) (h : AH) (F : FuncId) (args : Array Value) : Option ARes :=
  match args.toList with
  | [x] => if isName P F "internal/abi.NoEscape" then aval h (some x) else none
  | [x, y] => if isCompare P F then aval h (acompare h x y) else none
  | [x, y, c] => if isName P F "math/bits.Add64" then aval h (acarry true x y c) else if isName P F "math/bits.Sub64" then aval h (acarry false x y c) else none
  | _ => none
def acall (P : Program) (h : AH) (fv : Value) (args : Array Value) : Option ARes :=
  match fv with
  | .func (.func F) first captured => if hasBody P F then some (.enter F (first ++ args ++ captured)) else aextern P h F (first ++ args ++ captured)
  | _ => none
/-- where a slice of bytes lies -/
def asliceData : Value → Option Value
  | .slice (some ⟨b, o, none⟩) _ c => if c ≠ 0 then some (.pointer (some ⟨b, o, none⟩)) else none
  | .func (.yield 2) _ _ => some (.pointer none)
  | _ => none
/-- bytes axs a string: nobody writes them any more -/
def astring (P : Program) (h : AH) (t : TypeId) (p n : Value) : Option (Value × AH) :=
  match P.underlying t, p, n with
  | some (.pointer _), .pointer none, .int _ 0 => some (.string .empty, h)
  | some (.pointer e), .pointer (some ⟨b, o, none⟩), .int _ n => match h[b]? with
    | some (.cells c es true) => if 0 < n ∧ n ≤ IntKind.i64.max ∧ es = tagN + e ∧ P.cellsOf e = 1 ∧ o + n.toNat ≤ c.size then
        (bytesIn (c.extract o (o + n.toNat)).toList).map fun l => (.string ⟨l.toArray⟩, h.set b .dead) else none
    | _ => none
  | _, _, _ => none
/-- clear, of a slice -/
def aclear (P : Program) (h : AH) (t : TypeId) (x : Value) : Option (Value × AH) :=
  match P.underlying t with
  | some (.slice e) => match x with
    | .slice none 0 _ => some (.tuple #[], h)
    | .slice (some ⟨b, o, none⟩) n _ => if n = 0 then some (.tuple #[], h) else match zeroCellsOf P e with
      | some zc => match h[b]? with
        | some (.cells c es true) => if o + n * zc.size ≤ c.size then some (.tuple #[], h.set b (.cells (blit c o (zeros zc (n * zc.size)).toList) es true)) else none
        | _ => none
      | none => none
    | _ => none
  | _ => none
theorem sound_clear {P : Program} {f : Emb} {h : AH} {w : World} (hs : Sim P f h w) {t ty : TypeId} {x x' : Value} (hx : VRel f h.length x x') {r : Value} {h1 : AH} (ha : aclear P h t x = some (r, h1)) :
    ∃ r' w1, (Builtin.clear_ #[t] ty #[x']).run P w = .ok r' w1 ∧ Step P f h w f h1 w1 ∧ VRel f h1.length r r' := by
  have unit : ∀ L, VRel f L (.tuple #[]) (.tuple #[]) := fun L => .tuple #[] #[] rfl (fun i => by simp; exact .junk _)
  unfold aclear at ha
  split at ha
  case h_2 => cases ha
  rename_i e hu
  split at ha
  · cases ha
    have hx' := plain_inv rfl hx
    subst hx'
    exact ⟨.tuple #[], w, by simp only [Builtin.clear_, List.getElem?_toArray, List.getElem?_cons_zero, Sem.run_bind, run_underlying hu, Result.andThen_ok, Sem.run_pure], Step.refl hs, unit _⟩
  · rename_i b o n cap
    split at ha
    · rename_i hn
      cases ha
      subst hn
      have : ∃ a c', x' = .slice a 0 c' := by
        rcases hx.slice_inv with ⟨c', rfl, _, _⟩ | ⟨_, _, a', rfl, _⟩
        · exact ⟨_, _, rfl⟩
        · exact ⟨_, _, rfl⟩
      obtain ⟨a, c', rfl⟩ := this
      refine ⟨.tuple #[], w, ?_, Step.refl hs, unit _⟩
      cases a <;> simp only [Builtin.clear_, List.getElem?_toArray, List.getElem?_cons_zero, Sem.run_bind, run_underlying hu, Result.andThen_ok, Sem.run_pure]
    · rename_i hn
      split at ha
      case h_2 => cases ha
      rename_i zc hzc
      split at ha
      case h_2 => cases ha
      rename_i c es hb
      split at ha
      case isFalse => cases ha
      rename_i hle
      cases ha
      obtain ⟨i, z, hi, hz, hzc', hall, hsz, hpos⟩ := zeroCellsOf_spec hzc
      rcases hx.slice_inv with ⟨c', rfl, _, _⟩ | ⟨h0, _⟩
      case inr => exact absurd h0 hn
      have hc := (zeros_crel (f := f) (L := h.length) hall (by omega) (n * zc.size)).list
      obtain ⟨w1, k1, k2⟩ := sound_storeCells hs hb (o := o) (vs := (zeros zc (n * zc.size)).toList) (vs' := (zeros zc (n * zc.size)).toList) hc.1 (by rw [Array.length_toList, size_zeros]; exact hle) hc.2
      refine ⟨.tuple #[], w1, ?_, k2, unit _⟩
      have e1 : Builtin.zeroCells zc n = zeros zc (n * zc.size) := rfl
      have hn' : n ≠ 0 := hn
      obtain ⟨m, rfl⟩ := Nat.exists_eq_succ_of_ne_zero hn'
      simp only [Builtin.clear_, List.getElem?_toArray, List.getElem?_cons_zero, Sem.run_bind, run_underlying hu, Result.andThen_ok, run_zeroValue hi hz, hzc', e1, k1, Sem.run_pure]
  · cases ha
def abuiltin (P : Program) (h : AH) (b : Builtin) (ts : Array TypeId) (ty : TypeId) (args : Array Value) : Option ARes :=
  match b, ts.toList, args.toList with
  | .len, [t], [x] => aval h (alen P h t x)
  | .append, [t, u], [s, x] => avalh (aappend P h t u s x)
  | .copy, [t, _], [d, s] => avalh (acopy P h t d s)
  | .delete, [t, _], [m, k] => avalh (amDelete P h t m k)
  | .clear, [t], [x] => avalh (aclear P h t x)
  | .unsafeSliceData, [_], [s] => aval h (asliceData s)
  | .unsafeString, [t, _], [p, n] => avalh (astring P h t p n)
  | .min, _, _ => if args.all plainB then aval h (plainOut (pureRun P (Builtin.min_ ts ty args))) else none
  | .max, _, _ => if args.all plainB then aval h (plainOut (pureRun P (Builtin.max_ ts ty args))) else none
  | _, _, _ => none
def amMake (P : Program) (h : AH) (t : TypeId) : Option (Value × AH) :=
  match P.underlying t with
  | some (.map k _) => if keyTy P k then some (.map (some h.length), h ++ [.map k #[] 0]) else none
  | _ => none
def amRange (P : Program) (h : AH) (t : TypeId) (x : Value) : Option (Value × AH) :=
  match P.underlying t, x with
  | some (.map _ _), .map none => some (.pointer (some ⟨h.length, 0, none⟩), h ++ [.miter none 0 #[] 0])
  | some (.map _ _), .map (some b) => match h[b]? with
    | some (.map _ _ clock) => some (.pointer (some ⟨h.length, 0, none⟩), h ++ [.miter (some b) clock #[] clock])
    | _ => none
  | _, _ => none
def amNext (h : AH) (it : Value) : Option ARes :=
  match it with
  | .pointer (some ⟨r, 0, none⟩) => match h[r]? with
    | some (.miter none _ _ _) => some (.val (.tuple #[.bool false]) h)
    | some (.miter (some m) since seen c0) => match h[m]? with
      | some (.map _ es clock) => if es.all (fun e => decide (e.born < since)) && decide (since ≤ c0) then
          some (.any fun v h1 => ((leftOf es seen).size = 0 ∧ v = .tuple #[.bool false] ∧ h1 = h) ∨
            ∃ e ∈ (leftOf es seen).toList, v = .tuple #[.bool true, e.key, e.val] ∧ h1 = h.set r (.miter (some m) since (seen.push e.born) clock)) else none
      | _ => none
    | _ => none
  | _ => none
def amEntryOf (h : AH) (it : Value) : Option Value :=
  match it with
  | .pointer (some ⟨r, 0, none⟩) => match h[r]? with
    | some (.miter (some m) _ seen stepped) => match h[m]?, seen.back? with
      | some (.map _ es clock), some b => if clock = stepped then (es.find? (·.born == b)).map fun e => .tuple #[e.key, e.val] else none
      | _, _ => none
    | _ => none
  | _ => none
/-- what is not needed for most -/
def amore (P : Program) (ρ : Operand → Value) (h : AH) (o : Oper) : Option ARes := none
def aop (P : Program) (ρ : Operand → Value) (h : AH) (o : Oper) : Option ARes :=
  match o.op with
  | .move x => some (.val (ρ x) h)
  | .assign x => some (.val (ρ x) h)
  | .pick c a b => match ρ c with
    | .bool t => some (.val (if t then ρ a else ρ b) h)
    | _ => none
  | .alloc e => avalh (aalloc P h e)
  | .box _ x => avalh (abox h (ρ x))
  | .build t ps => aval h (abuild P t (ps.toList.map fun (i, x) => (i, ρ x)))
  | .buildSlice t n ps => avalh (abuildSlice P h t n (ps.toList.map fun (i, x) => (i, ρ x)))
  | .load t a => aval h (aload P h t (ρ a))
  | .store t a x => askip (astore P h t (ρ a) (ρ x))
  | .nilCheck x => aval h (anilCheck (ρ x))
  | .binOp op t x y _ => aval h (abinOp P op t x y (ρ x) (ρ y))
  | .unOp op _ x => aval h (aunOp P op (ρ x))
  | .convert s d x => avalh (aconvert P h s d (ρ x))
  | .sliceToArrayPointer t x => aval h (aarrayPtr P t (ρ x))
  | .makeInterface t x => aval h (amakeIface P t (ρ x))
  | .makeFunc fn xs cs => aval h (amakeFunc fn (xs.map ρ) (cs.map ρ))
  | .makeMap t none => avalh (amMake P h t)
  | .makeSlice t l c => avalh (amakeSlice P h t (ρ l) (ρ c))
  | .slice t x lo hi none => aval h (aslice P h t (ρ x) (lo.map ρ) (hi.map ρ))
  | .fieldAddr t x k => aval h (afieldAddr P t (ρ x) k)
  | .field t x k => aval h (afield P t (ρ x) k)
  | .indexAddr t x i => aval h (aindexAddr P t (ρ x) (ρ i))
  | .index t x i => aval h (aindex P t (ρ x) (ρ i))
  | .extract x k => aval h (aextract (ρ x) k)
  | .call c => match c.callee with
    | .value f => acall P h (ρ f) (c.args.map ρ)
    | .builtin b => abuiltin P h b c.argTypes o.type (c.args.map ρ)
    | _ => none
  | .lookup t x i ok => aval h (amLookup P h t (ρ x) (ρ i) ok)
  | .mapUpdate t m k x => askip (amUpdate P h t (ρ m) (ρ k) (ρ x))
  | .insert t m k x => askip (amUpdate P h t (ρ m) (ρ k) (ρ x))
  | .mapEntry t m k => avalh (amEntry P h t (ρ m) (ρ k))
  | .entryStore _ m s x => askip (amEntryStore h (ρ m) (ρ s) (ρ x))
  | .range t x => avalh (amRange P h t (ρ x))
  | .next it false => amNext h (ρ it)
  | .entry it => aval h (amEntryOf h (ρ it))
  | _ => amore P ρ h o
def ResOk (P : Program) (f : Emb) (h : AH) (w : World) : ARes → Result Next → Prop
  | .val v h1, res => ∃ f1 v' w1, res = .ok (.value v') w1 ∧ Step P f h w f1 h1 w1 ∧ VRel f1 h1.length v v'
  | .skip h1, res => ∃ f1 w1, res = .ok .skip w1 ∧ Step P f h w f1 h1 w1
  | .enter F args, res => ∃ args', res = .ok (.enter F args') w ∧ ARel f h.length args args'
  | .any S, res => ∃ f1 v v' h1 w1, res = .ok (.value v') w1 ∧ S v h1 ∧ Step P f h w f1 h1 w1 ∧ VRel f1 h1.length v v'
theorem aval_some {h : AH} {o : Option Value} {r : ARes} (ha : aval h o = some r) : ∃ v, o = some v ∧ r = .val v h := by
  cases o <;> simp [aval] at ha; exact ⟨_, rfl, ha.symm⟩
theorem avalh_some {o : Option (Value × AH)} {r : ARes} (ha : avalh o = some r) : ∃ v h, o = some (v, h) ∧ r = .val v h := by
  cases o <;> simp [avalh] at ha; exact ⟨_, _, rfl, ha.symm⟩
theorem askip_some {o : Option AH} {r : ARes} (ha : askip o = some r) : ∃ h, o = some h ∧ r = .skip h := by
  cases o <;> simp [askip] at ha; exact ⟨_, rfl, ha.symm⟩
theorem prel_map {f : Emb} {L : Nat} {ρ ρ' : Operand → Value} (hr : ∀ x, VRel f L (ρ x) (ρ' x)) (ps : List (Nat × Operand)) :
    PRel f L (ps.map fun (i, x) => (i, ρ x)) (ps.map fun (i, x) => (i, ρ' x)) := by
  induction ps with
  | nil => trivial
  | cons p r ih => exact ⟨rfl, hr _, ih⟩
theorem arel_map {f : Emb} {L : Nat} {ρ ρ' : Operand → Value} (hr : ∀ x, VRel f L (ρ x) (ρ' x)) (xs : Array Operand) : ARel f L (xs.map ρ) (xs.map ρ') := by
  refine ⟨by simp, fun i => ?_⟩
  by_cases hi : i < xs.size
  · simp [Array.getD, hi]; exact hr _
  · rw [getD_ge i (by simpa using hi)]; exact .junk _
theorem arel_append {f : Emb} {L : Nat} {A A' B B' : Array Value} (h : ARel f L A A') (k : ARel f L B B') : ARel f L (A ++ B) (A' ++ B') := by
  refine ⟨by simp [h.1, k.1], fun i => ?_⟩
  by_cases hi : i < A.size
  · rw [getD_append_left' _ _ _ hi, getD_append_left' _ _ _ (h.1 ▸ hi)]; exact h.2 i
  · rw [getD_append_right' _ _ _ (by omega), getD_append_right' _ _ _ (by have := h.1; omega), h.1]; exact k.2 _
theorem optrel_map {f : Emb} {L : Nat} {ρ ρ' : Operand → Value} (hr : ∀ x, VRel f L (ρ x) (ρ' x)) (o : Option Operand) : OptRel f L (o.map ρ) (o.map ρ') := by
  cases o with
  | none => trivial
  | some x => exact hr x
theorem run_callFunc {P : Program} {F : FuncId} (h : hasBody P F = true) (args : Array Value) (w : World) : (callFunc F args).run P w = .ok (.enter F args) w := by
  unfold hasBody at h
  split at h
  · rename_i fn hf
    simp only [Bool.and_eq_true, bne_iff_ne, ne_eq] at h
    have h1 : (fn.name == "runtime.NumGoroutine") = false := by simpa using h.1
    have h2 : fn.body.isNone = false := by cases hb : fn.body <;> simp_all
    simp only [callFunc, Sem.run_bind, run_program, Result.andThen_ok, hf, h1, h2, Bool.false_eq_true, if_false, Sem.run_pure]
  · cases h
theorem isCompare_run {P : Program} {F : FuncId} (h : isCompare P F = true) (args : Array Value) (w : World) : (callFunc F args).run P w = ((Extern.BytealgCompare.compare args).run P w).andThen fun v w' => .ok (.value v) w' := by
  unfold isCompare at h
  split at h
  · rename_i fn hf
    simp only [Bool.and_eq_true, beq_iff_eq] at h
    obtain ⟨⟨h1, h2⟩, h3⟩ := h
    refine run_callFunc_extern hf (by rw [h1]; rfl) h3 ?_ ?_ args w
    · simp only [Extern.findNext, h1, h2]
      have e1 : Extern.allNextRows.lookup "internal/bytealg.Compare" = none := by kernel_rfl
      have e2 : Extern.allNextRows.lookup "" = none := by kernel_rfl
      rw [e1, e2]; rfl
    · simp only [Extern.find, h1, h2]
      have e1 : Extern.allGenericRows.lookup "internal/bytealg.Compare" = none := by kernel_rfl
      have e2 : Extern.allTypedRows.lookup "internal/bytealg.Compare" = none := by kernel_rfl
      have e3 : Extern.allRows.lookup "internal/bytealg.Compare" = some Extern.BytealgCompare.compare := by kernel_rfl
      rw [e1, e2, e3]; rfl
  · cases h
theorem isName_run {P : Program} {F : FuncId} {nm : String} {g : Array Value → Sem Value} (h : isName P F nm = true) (e0 : Extern.allNextRows.lookup nm = none) (e0' : Extern.allNextRows.lookup "" = none) (e1 : Extern.allGenericRows.lookup nm = none) (e1' : Extern.allGenericRows.lookup "" = none) (e2 : Extern.allTypedRows.lookup nm = none) (e3 : Extern.allRows.lookup nm = some g)
    (hn : nm ≠ "runtime.NumGoroutine") (args : Array Value) (w : World) : (callFunc F args).run P w = ((g args).run P w).andThen fun v w' => .ok (.value v) w' := by
  unfold isName at h
  split at h
  · rename_i fn hf
    simp only [Bool.and_eq_true, beq_iff_eq] at h
    obtain ⟨⟨h1, h2⟩, h3⟩ := h
    refine run_callFunc_extern hf (by rw [h1]; simpa using hn) h3 ?_ ?_ args w
    · simp only [Extern.findNext, h1, h2]
      rw [e0, e0']; rfl
    · simp only [Extern.find, h1, h2]
      rw [e1, e2, e3]; rfl
  · cases h
theorem three_run {P : Program} (nm : String) (a b d : Int) (k1 k2 k3 : IntKind) (hd : d.toNat ≤ 1) (w : World) : (Extern.MathBitsCarry.three nm #[.int k1 a, .int k2 b, .int k3 d]).run P w = .ok (a.toNat, b.toNat, d.toNat) w := by
  have e : Extern.MathBitsCarry.three nm #[.int k1 a, .int k2 b, .int k3 d] = (do
      let c := (← asInt (Value.int k3 d)).toNat
      if c > 1 then unsupported (.noEntry ("extern/math/bits." ++ nm ++ ": a carry that is neither 0 nor 1"))
      pure ((← asInt (Value.int k1 a)).toNat, (← asInt (Value.int k2 b)).toNat, c)) := rfl
  rw [e]
  have hd' : ¬ (d.toNat > 1) := by omega
  simp only [Sem.run_bind, asInt, asIntOf, Sem.run_pure, Result.andThen_ok, hd', if_false]
theorem carry_run {P : Program} {F : FuncId} {add : Bool} (h : isName P F (if add then "math/bits.Add64" else "math/bits.Sub64") = true) {x y c r : Value} (hr : acarry add x y c = some r) (w : World) :
    (callFunc F #[x, y, c]).run P w = .ok (.value r) w ∧ ∃ a b : Int, r = .tuple #[.int .u64 a, .int .u64 b] := by
  unfold acarry at hr
  split at hr
  case h_2 => cases hr
  rename_i a b d
  split at hr
  case isFalse => cases hr
  rename_i hd
  have hd' : ¬ (d.toNat > 1) := by omega
  cases add with
  | true =>
    simp only [if_true, Option.some.injEq] at hr
    subst hr
    refine ⟨?_, _, _, rfl⟩
    rw [isName_run (nm := "math/bits.Add64") h (by kernel_rfl) (by kernel_rfl) (by kernel_rfl) (by kernel_rfl) (by kernel_rfl) (g := fun args => do let (x, y, c) ← Extern.MathBitsCarry.three "Add64" args; pure (Extern.MathBitsCarry.pair ((x + y + c) % Extern.MathBitsCarry.m64) ((x + y + c) / Extern.MathBitsCarry.m64))) (by kernel_rfl) (by decide)]
    simp only [Sem.run_bind, three_run _ _ _ _ _ _ _ hd, Sem.run_pure, Result.andThen_ok, Extern.MathBitsCarry.pair, Extern.MathBitsCarry.m64]
  | false =>
    simp only [Bool.false_eq_true, if_false, Option.some.injEq] at hr
    subst hr
    refine ⟨?_, _, _, rfl⟩
    rw [isName_run (nm := "math/bits.Sub64") h (by kernel_rfl) (by kernel_rfl) (by kernel_rfl) (by kernel_rfl) (by kernel_rfl) (g := fun args => do let (x, y, c) ← Extern.MathBitsCarry.three "Sub64" args; pure (Extern.MathBitsCarry.pair ((x + Extern.MathBitsCarry.m64 - y - c) % Extern.MathBitsCarry.m64) (if x < y + c then 1 else 0))) (by kernel_rfl) (by decide)]
    simp only [Sem.run_bind, three_run _ _ _ _ _ _ _ hd, Sem.run_pure, Result.andThen_ok, Extern.MathBitsCarry.pair, Extern.MathBitsCarry.m64]
theorem bytesV_nil : bytesV #[] = .empty := by apply ByteArray.ext; simp [bytesV, ByteArray.empty, ByteArray.emptyWithCapacity]; rfl
theorem compare_two (a b : Value) : Extern.BytealgCompare.compare #[a, b] = (do pure (goInt (Extern.BytealgCompare.cmp (← Extern.Bytes.bytesOf a) (← Extern.Bytes.bytesOf b)))) := rfl
theorem Held.bytes {P : Program} {f : Emb} {L : Nat} {w : World} {c0 : Array Value} {r base : Nat} (hh : Held f L w c0 r base) (o n' c' : Nat) (hle : o + n' ≤ c0.size) (hb : (c0.extract o (o + n')).all isByte = true) :
    (Extern.Bytes.bytesOf (.slice (some ⟨r, base + o, none⟩) n' c')).run P w = .ok (bytesV (c0.extract o (o + n'))) w := by
  obtain ⟨cc, elem, fr, ho', h5, h6⟩ := hh
  let xs := (List.range n').map fun j => match c0.getD (o + j) junk with | .int _ m => m | _ => 0
  have hcell : ∀ j x, xs[j]? = some x → w.cell? ((⟨r, base + o, none⟩ : Addr).add j) = some (.int .u8 x) := by
    intro j x hj
    have hj' : j < n' := by have := (List.getElem?_eq_some_iff.1 hj).1; simpa [xs] using this
    have e : (⟨r, base + o, none⟩ : Addr).add j = ⟨r, base + (o + j), none⟩ := by unfold Addr.add; split <;> simp_all <;> omega
    rw [e]
    have hin : o + j < c0.size := by omega
    have hrel := (h6 (o + j) hin).1
    have hby : isByte (c0.getD (o + j) junk) = true := by
      rw [Array.all_eq_true] at hb
      have := hb j (by simp; omega)
      simpa [Array.getD, hin] using this
    simp only [xs, List.getElem?_map, List.getElem?_range hj', Option.map_some, Option.some.injEq] at hj
    generalize hv : c0.getD (o + j) junk = v at hrel hby hj
    have : ∃ m, v = .int .u8 m := by
      unfold isByte at hby
      split at hby
      · exact ⟨_, rfl⟩
      · cases hby
    obtain ⟨m, rfl⟩ := this
    simp only at hj
    subst hj
    have hrv := hrel.int_inv
    unfold World.cell?
    rw [ho']
    have hin' : base + (o + j) < cc.size := by omega
    simp only [Option.isSome_none, Bool.false_eq_true, if_false]
    rw [Array.getElem?_eq_getElem hin']
    simpa [Array.getD, hin'] using hrv
  have hlen : xs.length = n' := by simp [xs]
  have := Lib.run_loadBytesX (P := P) w xs ⟨r, base + o, none⟩ .empty hcell
  rw [hlen] at this
  show (Extern.Bytes.loadBytes _ n' .empty).run P w = _
  rw [this]
  congr 1
  apply ByteArray.ext
  have e0 : ByteArray.empty.data = #[] := rfl
  simp only [bytesV, e0, Array.empty_append]
  apply Array.ext
  · simp [Lib.bytesOf, xs]; omega
  · intro i hi1 hi2
    have hi : i < n' := by simpa [Lib.bytesOf, xs] using hi1
    have hin : o + i < c0.size := by omega
    have hby : isByte (c0.getD (o + i) junk) = true := by
      rw [Array.all_eq_true] at hb
      have := hb i (by simp; omega)
      simpa [Array.getD, hin] using this
    have e2 : c0.getD (o + i) junk = c0[o + i] := by simp [Array.getD, hin]
    simp only [Lib.bytesOf, xs, List.getElem_toArray, List.getElem_map, List.getElem_range, Array.getElem_map, Array.getElem_extract, e2]
    rw [e2] at hby
    generalize c0[o + i] = v at hby
    unfold isByte at hby
    split at hby
    · rfl
    · cases hby
theorem sound_bytes {P : Program} {f : Emb} {h : AH} {w : World} (hs : Sim P f h w) {x x' : Value} (hx : VRel f h.length x x') (hsl : isSlice x = true) {n : Nat} {c : Array Value} (ha : asource h 1 x = some (n, c)) (hb : c.all isByte = true) :
    (Extern.Bytes.bytesOf x').run P w = .ok (bytesV c) w := by
  unfold asource at ha
  split at ha
  · rename_i b o n' cap
    split at ha
    · rename_i hz
      simp only [Option.some.injEq, Prod.mk.injEq] at ha
      obtain ⟨rfl, rfl⟩ := ha
      subst hz
      rcases hx.slice_inv with ⟨c', rfl, _, _⟩ | ⟨_, _, a', rfl, _⟩ <;> (rw [bytesV_nil]; rfl)
    · rename_i hnz
      split at ha
      · rename_i c0 es rw hbk
        split at ha
        · rename_i hle
          simp only [Option.some.injEq, Prod.mk.injEq, Nat.mul_one] at ha hle
          obtain ⟨rfl, rfl⟩ := ha
          rcases hx.slice_inv with ⟨c', rfl, hbL, hc⟩ | ⟨h0, _, _, _, _⟩
          · exact (hs.held hbk).bytes o n' c' hle hb
          · exact absurd h0 hnz
        · cases ha
      · cases ha
  · rename_i n' cap
    split at ha
    · rename_i hz
      simp only [Option.some.injEq, Prod.mk.injEq] at ha
      obtain ⟨rfl, rfl⟩ := ha
      subst hz
      cases hx
      rw [bytesV_nil]; rfl
    · cases ha
  · simp [isSlice] at hsl
  · rename_i cs ks
    obtain ⟨n0, rfl, hcz⟩ := hx.fz_inv
    rw [fzN_lit] at ha
    simp only [Nat.mul_one] at ha
    split at ha
    case isFalse => cases ha
    rename_i hle
    simp only [Option.some.injEq, Prod.mk.injEq] at ha
    obtain ⟨rfl, rfl⟩ := ha
    rcases hcz with ⟨r0, o0, c0, ds0, rfl, hrom, hle2, hn, hxy, hone⟩ | ⟨rfl, rfl, a, c0, rfl⟩
    · have := (hs.heldRom hrom hle2 hxy hone).bytes (P := P) 0 n0 c0 (by omega) (by simpa using hb)
      simpa using this
    · have e : (#[] : Array Value).extract 0 0 = #[] := rfl
      rw [e, bytesV_nil]; rfl
  · cases ha
theorem arr1 {α : Type} {a : Array α} {x : α} (h : a.toList = [x]) : a = #[x] := by cases a; simp_all
theorem arr2 {α : Type} {a : Array α} {x y : α} (h : a.toList = [x, y]) : a = #[x, y] := by cases a; simp_all
theorem arel_one {f : Emb} {L : Nat} {x : Value} {ys : Array Value} (h : ARel f L #[x] ys) : ∃ y, ys = #[y] ∧ VRel f L x y := by
  obtain ⟨l⟩ := ys
  match l, h with
  | [y], h => exact ⟨y, rfl, by simpa using h.2 0⟩
  | [], h => simp [ARel] at h
  | _ :: _ :: _, h => simp [ARel] at h
theorem arel_two {f : Emb} {L : Nat} {x x2 : Value} {ys : Array Value} (h : ARel f L #[x, x2] ys) : ∃ y y2, ys = #[y, y2] ∧ VRel f L x y ∧ VRel f L x2 y2 := by
  obtain ⟨l⟩ := ys
  match l, h with
  | [y, y2], h => exact ⟨y, y2, rfl, by simpa using h.2 0, by simpa using h.2 1⟩
  | [], h => simp [ARel] at h
  | [_], h => simp [ARel] at h
  | _ :: _ :: _ :: _, h => simp [ARel] at h
theorem arr3 {α : Type} {a : Array α} {x y z : α} (h : a.toList = [x, y, z]) : a = #[x, y, z] := by cases a; simp_all
theorem arel_three {f : Emb} {L : Nat} {x x2 x3 : Value} {ys : Array Value} (h : ARel f L #[x, x2, x3] ys) : ∃ y y2 y3, ys = #[y, y2, y3] ∧ VRel f L x y ∧ VRel f L x2 y2 ∧ VRel f L x3 y3 := by
  obtain ⟨l⟩ := ys
  match l, h with
  | [y, y2, y3], h => exact ⟨y, y2, y3, rfl, by simpa using h.2 0, by simpa using h.2 1, by simpa using h.2 2⟩
  | [], h => simp [ARel] at h
  | [_], h => simp [ARel] at h
  | [_, _], h => simp [ARel] at h
  | _ :: _ :: _ :: _ :: _, h => simp [ARel] at h
theorem plain_pair {f : Emb} {L : Nat} (a b : Int) : VRel f L (.tuple #[.int .u64 a, .int .u64 b]) (.tuple #[.int .u64 a, .int .u64 b]) := by
  refine .tuple _ _ rfl fun i => ?_
  match i with
  | 0 => exact .int _ _
  | 1 => exact .int _ _
  | i + 2 => simp [Array.getD]; exact .junk _
theorem sound_range {P : Program} {f : Emb} {h : AH} {w : World} (hs : Sim P f h w) {t : TypeId} {x x' : Value} (hx : VRel f h.length x x') {r : Value} {h1 : AH} (ha : amRange P h t x = some (r, h1)) :
    ∃ f1 r' w1, (Instr.range t x').run P w = .ok r' w1 ∧ Step P f h w f1 h1 w1 ∧ VRel f1 h1.length r r' := by
  unfold amRange at ha
  split at ha
  · rename_i k e hu
    cases ha
    have : x' = .map none := plain_inv rfl hx
    subst this
    have st := Step.alloc hs (.miter none 0 #[] 0) (.mapIter none 0 #[] 0) ⟨w.heap.size, 0, 0, 0, 0⟩ rfl ⟨rfl, none, rfl, trivial⟩
    refine ⟨_, .pointer (some ⟨w.heap.size, 0, none⟩), _, ?_, st, .ptr _ _ _ _ (by simp) (by rw [upd_eq]) (by rw [upd_eq])⟩
    simp only [Instr.range, Sem.run_bind, run_underlying hu, Result.andThen_ok, Sem.run_pure, run_newObj]
    rfl
  · rename_i k e b hu
    obtain ⟨rfl, hbL⟩ := hx.map_inv
    split at ha
    case h_2 => cases ha
    rename_i k' es clock hb
    cases ha
    obtain ⟨es', g1, _⟩ := hs.mapRel hb
    have st := Step.alloc hs (.miter (some b) clock #[] clock) (.mapIter (some (f b).blk) clock #[] clock) ⟨w.heap.size, 0, 0, 0, 0⟩ rfl ⟨rfl, some (f b).blk, rfl, hbL, rfl⟩
    refine ⟨_, .pointer (some ⟨w.heap.size, 0, none⟩), _, ?_, st, .ptr _ _ _ _ (by simp) (by rw [upd_eq]) (by rw [upd_eq])⟩
    simp only [Instr.range, Sem.run_bind, run_underlying hu, Result.andThen_ok, Sem.run_pure, run_getObj_map g1, run_newObj]
    rfl
  · cases ha
theorem Sim.iterRel {P : Program} {f : Emb} {h : AH} {w : World} (hs : Sim P f h w) {r m : Nat} {since c0 : Nat} {seen : Array Nat} (hr : h[r]? = some (.miter (some m) since seen c0)) :
    w.heap[(f r).blk]? = some (.mapIter (some (f m).blk) since seen c0) ∧ m < h.length ∧ (f r).off = 0 := by
  obtain ⟨o', h1, h0, m', rfl, h2⟩ := hs.obj r _ hr rfl
  cases m' with
  | none => exact h2.elim
  | some q => obtain ⟨h2, rfl⟩ := h2; exact ⟨h1, h2, h0⟩
theorem left_rel {f : Emb} {L : Nat} {es es' : Array MapEntry} (hsz : es.size = es'.size) (hrel : ∀ (i : Nat) (e : MapEntry), es[i]? = some e → ∃ e' : MapEntry, es'[i]? = some e' ∧ EntryRel f L e e') (seen : Array Nat) {e' : MapEntry} (he : e' ∈ (leftOf es' seen).toList) :
    ∃ e ∈ (leftOf es seen).toList, EntryRel f L e e' := by
  simp only [leftOf, Array.mem_toList_iff, Array.mem_filter] at he ⊢
  obtain ⟨h1, h2⟩ := he
  obtain ⟨i, hi, rfl⟩ := Array.mem_iff_getElem.1 h1
  have hi2 : i < es.size := by omega
  obtain ⟨e'', k1, k2⟩ := hrel i es[i] (by simp [hi2])
  rw [Array.getElem?_eq_getElem hi] at k1
  cases k1
  exact ⟨es[i], ⟨by simp, by rw [← k2.2.1]; exact h2⟩, k2⟩
theorem left_empty {f : Emb} {L : Nat} {es es' : Array MapEntry} (hsz : es.size = es'.size) (hrel : ∀ (i : Nat) (e : MapEntry), es[i]? = some e → ∃ e' : MapEntry, es'[i]? = some e' ∧ EntryRel f L e e') (seen : Array Nat) (h0 : (leftOf es' seen).size = 0) : (leftOf es seen).size = 0 := by
  have h1 : leftOf es' seen = #[] := Array.eq_empty_of_size_eq_zero h0
  have : leftOf es seen = #[] := by
    unfold leftOf at h1 ⊢
    rw [Array.filter_eq_empty_iff] at h1 ⊢
    intro e he
    obtain ⟨i, hi, rfl⟩ := Array.mem_iff_getElem.1 he
    obtain ⟨e'', k1, k2⟩ := hrel i es[i] (by simp [hi])
    rw [← k2.2.1]
    exact h1 e'' (Array.mem_of_getElem? k1)
  rw [this]; rfl
theorem sound_next {P : Program} {f : Emb} {h : AH} {w : World} (hs : Sim P f h w) {it it' : Value} (hit : VRel f h.length it it') {ty : TypeId} {r : ARes} (ha : amNext h it = some r) :
    ResOk P f h w r ((do pure (.value (← Instr.next it' false ty)) : Sem Next).run P w) := by
  have over : ∀ L, VRel f L (.tuple #[.bool false]) (.tuple #[.bool false]) := fun L => .tuple _ _ rfl fun i => by
    match i with
    | 0 => exact .bool _
    | i + 1 => simp [Array.getD]; exact .junk _
  unfold amNext at ha
  split at ha
  case h_2 => cases ha
  rename_i r0
  obtain ⟨rfl, hrL⟩ := hit.ptr_inv
  split at ha
  · rename_i s1 s2 s3 hr
    cases ha
    obtain ⟨o', h1, h0, m', rfl, h2⟩ := hs.obj r0 _ hr rfl
    cases m' with
    | some q => exact h2.elim
    | none =>
      refine ⟨f, .tuple #[.bool false], w, ?_, Step.refl hs, over _⟩
      have hg : (getObj (f r0).blk).run P w = .ok (.mapIter none s1 s2 s3) w := by simp only [getObj, Sem.run, h1]
      simp only [h0, Nat.add_zero, Instr.next, Sem.run_bind, hg, Result.andThen_ok, Sem.run_pure]
  · rename_i m since seen c0 hr
    obtain ⟨g1, g2, g0⟩ := hs.iterRel hr
    split at ha
    case h_2 => cases ha
    rename_i k es clock hb
    split at ha
    case isFalse => cases ha
    rename_i hcond
    cases ha
    simp only [Bool.and_eq_true, decide_eq_true_eq] at hcond
    obtain ⟨hold, hsc⟩ := hcond
    obtain ⟨es', q1, q2, q3, q4, q5, q6⟩ := hs.mapRel hb
    have hold' : ∀ x ∈ es'.toList, x.born < since := by
      intro x hx
      have : x.born ∈ es.toList.map (·.born) := by rw [q6]; exact List.mem_map_of_mem hx
      obtain ⟨y, hy, hy2⟩ := List.mem_map.1 this
      rw [Array.all_eq_true'] at hold
      have := hold y (by simpa using hy)
      rw [← hy2]; simpa using this
    rcases run_next_at (P := P) w ty (f r0).blk (f m).blk since c0 seen es' clock g1 q1 hold' hsc with ⟨h1, h2⟩ | ⟨e', he', w1, hw1, h2⟩
    · refine ⟨f, .tuple #[.bool false], .tuple #[.bool false], h, w, ?_, .inl ⟨left_empty q2 q3 seen h1, rfl, rfl⟩, Step.refl hs, over _⟩
      rw [g0, Nat.add_zero, Sem.run_bind, h2]; rfl
    · obtain ⟨e, he, hre⟩ := left_rel q2 q3 seen he'
      have hlt : (f r0).blk < w1.heap.size := by rcases hw1 with rfl | rfl <;> exact (Array.getElem?_eq_some_iff.1 g1).1
      have hs1 : Sim P f h w1 := by rcases hw1 with rfl | rfl; exact hs; exact hs.congr rfl
      have hst0 : Step P f h w f h w1 := by rcases hw1 with rfl | rfl; exact Step.refl hs; exact Step.drew hs
      have g1' : w1.heap[(f r0).blk]? = some (.mapIter (some (f m).blk) since seen c0) := by rcases hw1 with rfl | rfl <;> exact g1
      have st := Step.write (o1 := .miter (some m) since (seen.push e'.born) clock) (o1' := .mapIter (some (f m).blk) since (seen.push e'.born) clock) (w1 := ChangeMaps.setBlock w1 (f r0).blk (.mapIter (some (f m).blk) since (seen.push e'.born) clock)) hs1 hr rfl rfl trivial
        (by simp [ChangeMaps.setBlock, hlt]) ⟨g0, some (f m).blk, rfl, g2, rfl⟩ (fun r hr => by simp only [ChangeMaps.setBlock, Array.getElem?_setIfInBounds_ne hr.symm]) rfl rfl rfl (by simp [ChangeMaps.setBlock])
      refine ⟨f, .tuple #[.bool true, e.key, e.val], .tuple #[.bool true, e'.key, e'.val], _, _, by rw [g0, Nat.add_zero, Sem.run_bind, h2]; rfl, .inr ⟨e, he, rfl, rfl⟩, ?_, ?_⟩
      · rw [← hre.2.1]; exact hst0.trans st
      · have hk : keyed P k e.key = true := q4.keys e (by simp only [leftOf, Array.mem_toList_iff, Array.mem_filter] at he; simpa using he.1)
        refine .tuple _ _ rfl fun i => ?_
        match i with
        | 0 => exact .bool _
        | 1 => show VRel f _ e.key e'.key; rw [hre.1]; exact plain_refl (keyed_plain hk)
        | 2 => show VRel f _ e.val e'.val; exact hre.2.2.mono (by simp) (.refl _ _)
        | i + 3 => simp [Array.getD]; exact .junk _
  · cases ha
theorem sound_entryOf {P : Program} {f : Emb} {h : AH} {w : World} (hs : Sim P f h w) {it it' : Value} (hit : VRel f h.length it it') {r : Value} (ha : amEntryOf h it = some r) :
    ∃ r', (Instr.entry it').run P w = .ok r' w ∧ VRel f h.length r r' := by
  unfold amEntryOf at ha
  split at ha
  case h_2 => cases ha
  rename_i r0
  obtain ⟨rfl, hrL⟩ := hit.ptr_inv
  split at ha
  case h_2 => cases ha
  rename_i m s1 seen stepped hr
  obtain ⟨g1, g2, g0⟩ := hs.iterRel hr
  split at ha
  case h_2 => cases ha
  rename_i k es clock b hb hback
  split at ha
  case isFalse => cases ha
  rename_i hc
  subst hc
  simp only [Option.map_eq_some_iff] at ha
  obtain ⟨e, he, rfl⟩ := ha
  obtain ⟨es', q1, q2, q3, q4, q5, q6⟩ := hs.mapRel hb
  have hmem : e ∈ es := Array.mem_of_find?_eq_some he
  have hbe : e.born = b := by have := Array.find?_some he; simpa using this
  obtain ⟨i, hi, hie⟩ := Array.mem_iff_getElem.1 hmem
  obtain ⟨e', k1, k2⟩ := q3 i e (by rw [Array.getElem?_eq_getElem hi, hie])
  have hseen : seen = seen.pop.push e'.born := by
    have h1 : seen.size ≠ 0 := by
      intro h0
      have : seen = #[] := Array.eq_empty_of_size_eq_zero h0
      rw [this] at hback; simp at hback
    have h2 := Array.back?_eq_getElem? (xs := seen)
    rw [hback] at h2
    have h3 : seen.size - 1 < seen.size := by omega
    rw [Array.getElem?_eq_getElem h3] at h2
    rw [k2.2.1, hbe]
    apply Array.ext
    · simp; omega
    · intro j j1 j2
      rw [Array.getElem_push]
      split
      · simp
      · have : j = seen.size - 1 := by simp at *; omega
        subst this
        exact (Option.some.inj h2).symm
  have hn : (es'.toList.map (·.born)).Nodup := by rw [← q6]; exact q4.born
  have hk : keyed P k e.key = true := q4.keys e (by simpa using hmem)
  refine ⟨.tuple #[e'.key, e'.val], ?_, .tuple _ _ rfl fun i => ?_⟩
  · rw [g0, Nat.add_zero]
    rw [hseen] at g1
    exact run_entry_at w (f r0).blk (f m).blk s1 seen.pop es' clock e' g1 q1 (by have := Array.mem_of_getElem? k1; simpa using this) hn
  · match i with
    | 0 => show VRel f _ e.key e'.key; rw [k2.1]; exact plain_refl (keyed_plain hk)
    | 1 => exact k2.2.2
    | i + 2 => simp [Array.getD]; exact .junk _
theorem arel_plain {f : Emb} {L : Nat} {xs ys : Array Value} (h : ARel f L xs ys) (hp : xs.all plainB = true) : ys = xs := by
  apply Array.ext h.1.symm
  intro i h1 h2
  have hr := h.2 i
  rw [Array.all_eq_true] at hp
  have := plain_inv (f := f) (L := L) (v := xs.getD i Am.junk) (v' := ys.getD i Am.junk) (by simpa [Array.getD, h2] using hp i h2) hr
  simpa [Array.getD, h1, h2] using this
theorem usd_some {ts : Array TypeId} {ty : TypeId} {a : Addr} {l c : Nat} : Builtin.unsafeSliceData_ ts ty #[.slice (some a) l c] = (
    if c ≠ 0 then pure (.pointer (some a)) else do
      if (← viewAt a.block).isSome then pure (.pointer (some a))
      else pure (.pointer (some ⟨← newObj (.view a (← elemOf ty)), 0, none⟩))) := rfl
theorem usd_none {ts : Array TypeId} {ty : TypeId} {l c : Nat} : Builtin.unsafeSliceData_ ts ty #[.slice none l c] = pure (.pointer none) := rfl
theorem us_some {t u ty : TypeId} {a : Addr} {k : IntKind} {m : Int} : Builtin.unsafeString_ #[t, u] ty #[.pointer (some a), .int k m] = (do
    let n ← asInt (.int k m)
    if n < 0 then runtimePanic (.error "unsafe.String: len out of range")
    if n > IntKind.i64.max then unsupported (.unsafePointer "String: a length above the largest int")
    if n = 0 then pure (.string .empty)
    else if ← variablesAt a (← elemOf t) n.toNat then do
      let s ← loadBytes a .empty n.toNat
      freeze a n.toNat
      pure (.string s)
    else unsupported (.unsafePointer "String: not so many bytes at ptr")) := rfl
theorem us_none {t u ty : TypeId} {k : IntKind} {m : Int} : Builtin.unsafeString_ #[t, u] ty #[.pointer none, .int k m] = (do
    let n ← asInt (.int k m)
    if n < 0 then runtimePanic (.error "unsafe.String: len out of range")
    if n > IntKind.i64.max then unsupported (.unsafePointer "String: a length above the largest int")
    if n = 0 then pure (.string .empty)
    else runtimePanic (.error "unsafe.String: ptr is nil and len is not zero")) := rfl
theorem sound_string {P : Program} {f : Emb} {h : AH} {w : World} (hs : Sim P f h w) {t u ty : TypeId} {p p' n n' : Value} (hp : VRel f h.length p p') (hn : VRel f h.length n n') {r : Value} {h1 : AH} (ha : astring P h t p n = some (r, h1)) :
    ∃ f1 r' w1, (Builtin.unsafeString_ #[t, u] ty #[p', n']).run P w = .ok r' w1 ∧ Step P f h w f1 h1 w1 ∧ VRel f1 h1.length r r' := by
  unfold astring at ha
  split at ha
  · rename_i e k hu
    cases hn.int_inv
    have hp' : p' = .pointer none := plain_inv rfl hp
    subst hp'
    cases ha
    refine ⟨f, .string .empty, w, ?_, Step.refl hs, .string _⟩
    have hmx : ¬ ((0 : Int) > IntKind.i64.max) := by decide
    rw [us_none]
    simp [asInt, asIntOf, hmx]
  · rename_i e b o k m hu
    cases hn.int_inv
    obtain ⟨rfl, hbL⟩ := hp.ptr_inv
    split at ha
    case h_2 => cases ha
    rename_i c es hb
    split at ha
    case isFalse => cases ha
    rename_i hc
    obtain ⟨hm, hmx, rfl, he1, hle⟩ := hc
    simp only [Option.map_eq_some_iff, Prod.mk.injEq] at ha
    obtain ⟨l, hl, rfl, rfl⟩ := ha
    obtain ⟨o', ho', hrel⟩ := hs.obj b _ hb rfl
    obtain ⟨cc, elem, fr, rfl, q2, q3, q4, q5, q6, q7⟩ := hrel
    obtain ⟨t1, t2, t3⟩ := (q5 rfl).2.tag (Nat.le_add_right _ _)
    have hel : elem = e := (Nat.add_left_cancel t1).symm
    subst hel
    have hva : (variablesAt ⟨(f b).blk, (f b).off + o, none⟩ elem m.toNat).run P w = .ok true w := by
      have hli : liesAt P P.depth elem (cc.size / P.cellsOf elem) ((f b).off + o) elem m.toNat = true := by
        rw [he1, Nat.div_one]
        exact liesAt_row he1 (by omega)
      have e1 : w.shape? (f b).blk = some (elem, cc.size) := by simp [World.shape?, ho']
      simp only [variablesAt, shape, program, Sem.run_bind, Sem.run, Result.andThen_ok, e1, hli, Sem.run_pure]
    have hnz : ¬ m = 0 := by omega
    have hn0 : ¬ m < 0 := by omega
    have hmx' : ¬ m > IntKind.i64.max := by omega
    have hpt : (elemOf t).run P w = .ok elem w := by
      simp only [elemOf, Sem.run_bind, run_underlying hu, Result.andThen_ok, Sem.run_pure]
    have hcell : ∀ j, j < m.toNat → ∃ q, l[j]? = some (UInt8.ofNat q.toNat) ∧ w.cell? ⟨(f b).blk, (f b).off + o + j, none⟩ = some (.int .u8 q) := by
      intro j hj
      have h3 := (q7 (o + j) (by omega)).1
      have hin : o + j < c.size := by omega
      have hc3 : (c.extract o (o + m.toNat)).toList[j]? = some (c.getD (o + j) junk) := by
        rw [Array.getElem?_toList, Array.getElem?_extract]
        simp [hin, Array.getD]
        omega
      obtain ⟨q, hq1, hq2⟩ := bytesIn_get hl hc3
      rw [hq1] at h3
      have h4 := h3.int_inv
      refine ⟨q, hq2, ?_⟩
      have hin' : (f b).off + (o + j) < cc.size := by omega
      rw [← Nat.add_assoc] at h4 hin'
      unfold World.cell?
      rw [ho']
      simp only [Option.isSome_none, Bool.false_eq_true, if_false]
      rw [Array.getElem?_eq_getElem hin']
      simpa [Array.getD, hin'] using h4
    have hll : l.length = m.toNat := by
      rw [bytesIn_length _ hl]; simp; omega
    have hload : ∀ (k j : Nat) (acc : ByteArray), j + k = m.toNat → (loadBytes ⟨(f b).blk, (f b).off + o + j, none⟩ acc k).run P w = .ok ⟨acc.data ++ (l.drop j).toArray⟩ w := by
      intro k
      induction k with
      | zero =>
        intro j acc hjk
        have : l.drop j = [] := List.drop_eq_nil_of_le (by omega)
        simp [loadBytes, this]
      | succ k ih =>
        intro j acc hjk
        obtain ⟨q, hq1, hq2⟩ := hcell j (by omega)
        have hld : (load ⟨(f b).blk, (f b).off + o + j, none⟩).run P w = .ok (.int .u8 q) w := by
          simp only [load, Sem.run, hq2]
        have hadd : (⟨(f b).blk, (f b).off + o + j, none⟩ : Addr).add 1 = ⟨(f b).blk, (f b).off + o + (j + 1), none⟩ := by
          unfold Addr.add; simp; omega
        simp only [loadBytes, Sem.run_bind, hld, Result.andThen_ok, hadd]
        rw [ih (j + 1) _ (by omega)]
        have hj : j < l.length := by omega
        have hd : l.drop j = UInt8.ofNat q.toNat :: l.drop (j + 1) := by
          rw [List.drop_eq_getElem_cons hj]
          congr 1
          rw [List.getElem?_eq_getElem hj] at hq1
          exact Option.some.inj hq1
        rw [hd]
        congr 2
        simp [ByteArray.push]
    have hrd := hload m.toNat 0 .empty (by omega)
    obtain ⟨fr2, hw1⟩ : ∃ fr2, (w.freeze ⟨(f b).blk, (f b).off + o, none⟩ m.toNat).heap[(f b).blk]? = some (.cells cc elem fr2) := by
      obtain ⟨lo, hi⟩ := fr
      have hmn : ¬ m.toNat = 0 := by omega
      refine ⟨if lo == hi then ((f b).off + o, (f b).off + o + m.toNat) else (min lo ((f b).off + o), max hi ((f b).off + o + m.toNat)), ?_⟩
      simp only [World.freeze, hmn, if_false]
      rw [Array.getElem?_modify, if_pos rfl, ho']; rfl
    have st := Step.write (o1 := .dead) (o1' := .cells cc elem fr2) (w1 := w.freeze ⟨(f b).blk, (f b).off + o, none⟩ m.toNat) hs hb rfl rfl trivial hw1 trivial (fun r hr => by
        have hmn : ¬ m.toNat = 0 := by omega
        simp only [World.freeze, hmn, if_false]
        rw [Array.getElem?_modify, if_neg (fun e => hr e.symm)]) (by simp only [World.freeze]; split <;> rfl) (by simp only [World.freeze]; split <;> rfl) (by simp only [World.freeze]; split <;> rfl) (by simp only [World.freeze]; split <;> simp) (by simp only [World.freeze]; split <;> rfl)
    refine ⟨f, .string ⟨l.toArray⟩, _, ?_, st, .string _⟩
    rw [us_some]
    have hfz : (freeze ⟨(f b).blk, (f b).off + o, none⟩ m.toNat).run P w = .ok () (w.freeze ⟨(f b).blk, (f b).off + o, none⟩ m.toNat) := rfl
    simp only [Nat.add_zero] at hrd
    simp only [Sem.run_bind, asInt, asIntOf, Sem.run_pure, Result.andThen_ok, hn0, hmx', if_false, hnz, hpt, hva, if_true, hrd, hfz]
    simp
  · cases ha
theorem sound_builtin {P : Program} {f : Emb} {h : AH} {w : World} (hs : Sim P f h w) (b : Builtin) (ts : Array TypeId) (ty : TypeId) (cs : Array Bool) {args args' : Array Value} (hr : ARel f h.length args args') {r : ARes}
    (ha : abuiltin P h b ts ty args = some r) : ResOk P f h w r ((builtin b ts ty cs args').run P w) := by
  unfold abuiltin at ha
  split at ha
  · rename_i t x ht hx
    obtain ⟨v, h1, rfl⟩ := aval_some ha
    cases arr1 hx; cases arr1 ht
    obtain ⟨y, rfl, hy⟩ := arel_one hr
    obtain ⟨r', g1, g2⟩ := sound_len hs (ts := #[t]) (ty := ty) rfl hy h1
    exact ⟨f, r', w, by simp only [builtin, Sem.run_bind, g1, Result.andThen_ok, Sem.run_pure], Step.refl hs, g2⟩
  · rename_i t u s x ht hx
    obtain ⟨v, h2, h1, rfl⟩ := avalh_some ha
    cases arr2 hx; cases arr2 ht
    obtain ⟨y, y2, rfl, hy, hy2⟩ := arel_two hr
    obtain ⟨f1, r', w1, g1, g2, g3⟩ := sound_append hs (ts := #[t, u]) (ty := ty) rfl rfl hy hy2 h1
    exact ⟨f1, r', w1, by simp only [builtin, Sem.run_bind, g1, Result.andThen_ok, Sem.run_pure], g2, g3⟩
  · rename_i t u d s ht hx
    obtain ⟨v, h2, h1, rfl⟩ := avalh_some ha
    cases arr2 hx; cases arr2 ht
    obtain ⟨y, y2, rfl, hy, hy2⟩ := arel_two hr
    obtain ⟨r', w1, g1, g2, g3⟩ := sound_copy hs (ts := #[t, u]) (ty := ty) rfl hy hy2 h1
    exact ⟨f, r', w1, by simp only [builtin, Sem.run_bind, g1, Result.andThen_ok, Sem.run_pure], g2, g3⟩
  · rename_i t u d s ht hx
    obtain ⟨v, h2, h1, rfl⟩ := avalh_some ha
    cases arr2 hx; cases arr2 ht
    obtain ⟨y, y2, rfl, hy, hy2⟩ := arel_two hr
    obtain ⟨r', w1, g1, g2, g3⟩ := sound_delete hs (ts := #[t, u]) (ty := ty) rfl hy hy2 h1
    exact ⟨f, r', w1, by simp only [builtin, Sem.run_bind, g1, Result.andThen_ok, Sem.run_pure], g2, g3⟩
  · rename_i t x ht hx
    obtain ⟨v, h2, h1, rfl⟩ := avalh_some ha
    cases arr1 hx; cases arr1 ht
    obtain ⟨y, rfl, hy⟩ := arel_one hr
    obtain ⟨r', w1, g1, g2, g3⟩ := sound_clear hs (ty := ty) hy h1
    exact ⟨f, r', w1, by simp only [builtin, Sem.run_bind, g1, Result.andThen_ok, Sem.run_pure], g2, g3⟩
  · rename_i t s0 ht hx
    obtain ⟨v, h1, rfl⟩ := aval_some ha
    cases arr1 hx
    obtain ⟨y, rfl, hy⟩ := arel_one hr
    unfold asliceData at h1
    split at h1
    · rename_i b o l c
      split at h1
      case isFalse => cases h1
      rename_i hc0
      cases h1
      rcases hy.slice_inv with ⟨c', rfl, hbL, hcap⟩ | ⟨_, h0, _, _, _⟩
      · have hc' : c' ≠ 0 := by have := hcap.le; omega
        refine ⟨f, .pointer (some ⟨(f b).blk, (f b).off + o, none⟩), w, ?_, Step.refl hs, .ptr b o _ _ hbL rfl rfl⟩
        simp only [builtin, usd_some, Sem.run_bind, hc', ne_eq, not_false_eq_true, if_true, Sem.run_pure, Result.andThen_ok]
      · exact absurd h0 hc0
    · obtain ⟨rfl, _, _⟩ := hy.bnil_inv
      cases h1
      exact ⟨f, .pointer none, w, by simp only [builtin, usd_none, Sem.run_bind, Sem.run_pure, Result.andThen_ok], Step.refl hs, .nilPtr⟩
    · cases h1
  · rename_i t u p n ht hx
    obtain ⟨v, h2, h1, rfl⟩ := avalh_some ha
    cases arr2 hx; cases arr2 ht
    obtain ⟨y, y2, rfl, hy, hy2⟩ := arel_two hr
    obtain ⟨f1, r', w1, g1, g2, g3⟩ := sound_string hs (u := u) (ty := ty) hy hy2 h1
    exact ⟨f1, r', w1, by simp only [builtin, Sem.run_bind, g1, Result.andThen_ok, Sem.run_pure], g2, g3⟩
  · split at ha
    · rename_i hp
      obtain ⟨v, h1, rfl⟩ := aval_some ha
      obtain ⟨h2, h3⟩ := plainOut_some h1
      cases arel_plain hr hp
      exact ⟨f, v, w, by simp only [builtin, Sem.run_bind, pureRun_run h2 w, Result.andThen_ok, Sem.run_pure], Step.refl hs, plain_refl h3⟩
    · cases ha
  · split at ha
    · rename_i hp
      obtain ⟨v, h1, rfl⟩ := aval_some ha
      obtain ⟨h2, h3⟩ := plainOut_some h1
      cases arel_plain hr hp
      exact ⟨f, v, w, by simp only [builtin, Sem.run_bind, pureRun_run h2 w, Result.andThen_ok, Sem.run_pure], Step.refl hs, plain_refl h3⟩
    · cases ha
  · cases ha
theorem sound_aop {P : Program} {f : Emb} {h : AH} {w : World} (hs : Sim P f h w) {ρ ρ' : Operand → Value} (hr : ∀ x, VRel f h.length (ρ x) (ρ' x)) (o : Oper) {r : ARes} (ha : aop P ρ h o = some r) :
    ResOk P f h w r ((execOp ρ' o).run P w) := by
  obtain ⟨dst, op, type, pos, after, guard⟩ := o
  unfold aop at ha
  cases op <;> simp only at ha <;> (try (simp only [amore] at ha; cases ha; done)) <;> simp only [execOp]
  case move x => cases ha; exact ⟨f, _, w, rfl, Step.refl hs, hr x⟩
  case assign x => cases ha; exact ⟨f, _, w, rfl, Step.refl hs, hr x⟩
  case pick c a b =>
    split at ha
    · rename_i t ht
      cases ha
      have hc := hr c
      rw [ht] at hc
      refine ⟨f, (if t = true then ρ' a else ρ' b), w, by simp only [Sem.run_bind, hc.bool_inv, asBool, Sem.run_pure, Result.andThen_ok], Step.refl hs, ?_⟩
      cases t
      · exact hr b
      · exact hr a
    · cases ha
  case alloc e =>
    obtain ⟨v, h2, h1, rfl⟩ := avalh_some ha
    obtain ⟨f1, r', w1, g1, g2, g3⟩ := sound_alloc hs e h1
    exact ⟨f1, r', w1, by simp only [Sem.run_bind, g1, Result.andThen_ok, Sem.run_pure], g2, g3⟩
  case box e x =>
    obtain ⟨v, h2, h1, rfl⟩ := avalh_some ha
    obtain ⟨f1, r', w1, g1, g2, g3⟩ := sound_box hs e (hr x) h1
    exact ⟨f1, r', w1, by simp only [Sem.run_bind, g1, Result.andThen_ok, Sem.run_pure], g2, g3⟩
  case build t ps =>
    obtain ⟨v, h1, rfl⟩ := aval_some ha
    obtain ⟨r', g1, g2⟩ := sound_build (P := P) w t (parts := ps.map fun (i, x) => (i, ρ x)) (parts' := ps.map fun (i, x) => (i, ρ' x)) (by simpa using prel_map hr ps.toList) (by simpa using h1)
    exact ⟨f, r', w, by simp only [Sem.run_bind, g1, Result.andThen_ok, Sem.run_pure], Step.refl hs, g2⟩
  case buildSlice t n ps =>
    obtain ⟨v, h2, h1, rfl⟩ := avalh_some ha
    obtain ⟨f1, r', w1, g1, g2, g3⟩ := sound_buildSlice hs t n (parts := ps.map fun (i, x) => (i, ρ x)) (parts' := ps.map fun (i, x) => (i, ρ' x)) (by simpa using prel_map hr ps.toList) (by simpa using h1)
    exact ⟨f1, r', w1, by simp only [Sem.run_bind, g1, Result.andThen_ok, Sem.run_pure], g2, g3⟩
  case load t a =>
    obtain ⟨v, h1, rfl⟩ := aval_some ha
    obtain ⟨r', g1, g2⟩ := sound_load hs (hr a) h1
    exact ⟨f, r', w, by simp only [Sem.run_bind, g1, Result.andThen_ok, Sem.run_pure], Step.refl hs, g2⟩
  case store t a x =>
    obtain ⟨h2, h1, rfl⟩ := askip_some ha
    obtain ⟨w1, g1, g2⟩ := sound_store hs (hr a) (hr x) h1
    exact ⟨f, w1, by simp only [Sem.run_bind, g1, Result.andThen_ok, Sem.run_pure], g2⟩
  case nilCheck x =>
    obtain ⟨v, h1, rfl⟩ := aval_some ha
    obtain ⟨r', g1, g2⟩ := sound_nilCheck (P := P) w ρ' ⟨dst, .nilCheck x, type, pos, after, guard⟩ x rfl (hr x) h1
    exact ⟨f, r', w, by simpa only [execOp] using g1, Step.refl hs, g2⟩
  case binOp op t x y u =>
    obtain ⟨v, h1, rfl⟩ := aval_some ha
    obtain ⟨r', g1, g2⟩ := sound_binOp (P := P) w op t x y (hr x) (hr y) h1
    exact ⟨f, r', w, by rw [Sem.run_bind, g1]; rfl, Step.refl hs, g2⟩
  case unOp op t x =>
    obtain ⟨v, h1, rfl⟩ := aval_some ha
    obtain ⟨r', g1, g2⟩ := sound_unOp (P := P) w op (hr x) h1
    exact ⟨f, r', w, by simp only [Sem.run_bind, g1, Result.andThen_ok, Sem.run_pure], Step.refl hs, g2⟩
  case convert s d x =>
    obtain ⟨v, h2, h1, rfl⟩ := avalh_some ha
    obtain ⟨f1, r', w1, g1, g2, g3⟩ := sound_convert hs (hr x) h1
    exact ⟨f1, r', w1, by simp only [Sem.run_bind, g1, Result.andThen_ok, Sem.run_pure], g2, g3⟩
  case sliceToArrayPointer t x =>
    obtain ⟨v, h1, rfl⟩ := aval_some ha
    obtain ⟨r', g1, g2⟩ := sound_arrayPtr (P := P) w (hr x) h1
    exact ⟨f, r', w, by simp only [Sem.run_bind, g1, Result.andThen_ok, Sem.run_pure], Step.refl hs, g2⟩
  case makeInterface t x =>
    obtain ⟨v, h1, rfl⟩ := aval_some ha
    obtain ⟨r', g1, g2⟩ := sound_makeIface (P := P) w (hr x) h1
    exact ⟨f, r', w, by simp only [Sem.run_bind, g1, Result.andThen_ok, Sem.run_pure], Step.refl hs, g2⟩
  case makeFunc fn xs cs =>
    obtain ⟨v, h1, rfl⟩ := aval_some ha
    obtain ⟨r', g1, g2⟩ := sound_makeFunc (P := P) w (arel_map hr xs) (arel_map hr cs) h1
    exact ⟨f, r', w, by simp only [Sem.run_bind, g1, Result.andThen_ok, Sem.run_pure], Step.refl hs, g2⟩
  case makeMap t r0 =>
    cases r0 with
    | some x => simp only [amore] at ha; cases ha
    | none =>
      obtain ⟨v, h2, h1, rfl⟩ := avalh_some ha
      unfold amMake at h1
      split at h1
      case h_2 => cases h1
      rename_i k el hu
      split at h1
      case isFalse => cases h1
      rename_i hty
      cases h1
      have := Step.alloc hs (.map k #[] 0) (.map #[] 0) ⟨w.heap.size, 0, 0, 0, 0⟩ rfl ⟨#[], rfl, rfl, fun i e he => by simp at he⟩ ⟨hty, by simp, by simp, by simp, by simp⟩
      exact ⟨_, .map (some w.heap.size), _, by simp only [Option.map_none, Instr.makeMap, Sem.run_bind, Sem.run_pure, Result.andThen_ok, run_newObj]; rfl, this, .map _ _ (by simp) (by rw [upd_eq])⟩
  case makeSlice t l c =>
    obtain ⟨v, h2, h1, rfl⟩ := avalh_some ha
    obtain ⟨f1, r', w1, g1, g2, g3⟩ := sound_makeSlice hs t (hr l) (hr c) h1
    exact ⟨f1, r', w1, by simp only [Sem.run_bind, g1, Result.andThen_ok, Sem.run_pure], g2, g3⟩
  case slice t x lo hi mx =>
    cases mx with
    | some x => simp only [amore] at ha; cases ha
    | none =>
      obtain ⟨v, h1, rfl⟩ := aval_some ha
      obtain ⟨r', g1, g2⟩ := sound_slice hs (hr x) (optrel_map hr lo) (optrel_map hr hi) h1
      exact ⟨f, r', w, by simp only [Option.map_none, Sem.run_bind, g1, Result.andThen_ok, Sem.run_pure], Step.refl hs, g2⟩
  case fieldAddr t x k =>
    obtain ⟨v, h1, rfl⟩ := aval_some ha
    obtain ⟨r', g1, g2⟩ := sound_fieldAddr (P := P) w (hr x) h1
    exact ⟨f, r', w, by simp only [Sem.run_bind, g1, Result.andThen_ok, Sem.run_pure], Step.refl hs, g2⟩
  case field t x k =>
    obtain ⟨v, h1, rfl⟩ := aval_some ha
    obtain ⟨r', g1, g2⟩ := sound_field (P := P) w (hr x) h1
    exact ⟨f, r', w, by simp only [Sem.run_bind, g1, Result.andThen_ok, Sem.run_pure], Step.refl hs, g2⟩
  case indexAddr t x i =>
    obtain ⟨v, h1, rfl⟩ := aval_some ha
    obtain ⟨r', g1, g2⟩ := sound_indexAddr (P := P) w (hr x) (hr i) h1
    exact ⟨f, r', w, by simp only [Sem.run_bind, g1, Result.andThen_ok, Sem.run_pure], Step.refl hs, g2⟩
  case index t x i =>
    obtain ⟨v, h1, rfl⟩ := aval_some ha
    obtain ⟨r', g1, g2⟩ := sound_index (P := P) w (hr x) (hr i) h1
    exact ⟨f, r', w, by simp only [Sem.run_bind, g1, Result.andThen_ok, Sem.run_pure], Step.refl hs, g2⟩
  case extract x k =>
    obtain ⟨v, h1, rfl⟩ := aval_some ha
    obtain ⟨r', g1, g2⟩ := sound_extract (P := P) w (hr x) h1
    exact ⟨f, r', w, by simp only [Sem.run_bind, g1, Result.andThen_ok, Sem.run_pure], Step.refl hs, g2⟩
  case lookup t x i ok =>
    obtain ⟨v, h1, rfl⟩ := aval_some ha
    obtain ⟨r', g1, g2⟩ := sound_lookup hs (hr x) (hr i) h1
    exact ⟨f, r', w, by simp only [Sem.run_bind, g1, Result.andThen_ok, Sem.run_pure], Step.refl hs, g2⟩
  case mapUpdate t m k x =>
    obtain ⟨h2, h1, rfl⟩ := askip_some ha
    obtain ⟨w1, g1, g2⟩ := sound_update hs (hr m) (hr k) (hr x) h1
    exact ⟨f, w1, by simp only [Sem.run_bind, g1, Result.andThen_ok, Sem.run_pure], g2⟩
  case insert t m k x =>
    obtain ⟨h2, h1, rfl⟩ := askip_some ha
    obtain ⟨w1, g1, g2⟩ := sound_update hs (hr m) (hr k) (hr x) h1
    exact ⟨f, w1, by simp only [Sem.run_bind, g1, Result.andThen_ok, Sem.run_pure], g2⟩
  case mapEntry t m k =>
    obtain ⟨v, h2, h1, rfl⟩ := avalh_some ha
    obtain ⟨r', w1, g1, g2, g3⟩ := sound_entryAt hs (hr m) (hr k) h1
    exact ⟨f, r', w1, by simp only [Sem.run_bind, g1, Result.andThen_ok, Sem.run_pure], g2, g3⟩
  case entryStore t m s x =>
    obtain ⟨h2, h1, rfl⟩ := askip_some ha
    obtain ⟨w1, g1, g2⟩ := sound_entryStore (t := t) hs (hr m) (hr s) (hr x) h1
    exact ⟨f, w1, by simp only [Sem.run_bind, g1, Result.andThen_ok, Sem.run_pure], g2⟩
  case range t x =>
    obtain ⟨v, h2, h1, rfl⟩ := avalh_some ha
    obtain ⟨f1, r', w1, g1, g2, g3⟩ := sound_range hs (hr x) h1
    exact ⟨f1, r', w1, by simp only [Sem.run_bind, g1, Result.andThen_ok, Sem.run_pure], g2, g3⟩
  case next it str =>
    cases str with
    | true => simp only [amore] at ha; cases ha
    | false => exact sound_next hs (hr it) ha
  case entry it =>
    obtain ⟨v, h1, rfl⟩ := aval_some ha
    obtain ⟨r', g1, g2⟩ := sound_entryOf hs (hr it) h1
    exact ⟨f, r', w, by simp only [Sem.run_bind, g1, Result.andThen_ok, Sem.run_pure], Step.refl hs, g2⟩
  case call c =>
    split at ha
    · rename_i fo hfo
      unfold acall at ha
      split at ha
      · rename_i F first captured hfv
        split at ha
        · rename_i hb
          cases ha
          have hv := hr fo
          rw [hfv] at hv
          generalize hv' : ρ' fo = v' at hv
          cases hv with
          | func fn xs ys cs ds hfn h1 h2 h3 h4 =>
            refine ⟨_, ?_, arel_append (arel_append ⟨h1, h2⟩ (arel_map hr c.args)) ⟨h3, h4⟩⟩
            simp only [resolve, hfo, hv', Deferred.ofValue, Sem.run_bind, Sem.run_pure, Result.andThen_ok, invoke, run_callFunc hb]
        · unfold aextern at ha
          split at ha
          · rename_i x hxs
            split at ha
            case isFalse => cases ha
            rename_i hn
            cases ha
            have hv := hr fo
            rw [hfv] at hv
            generalize hv' : ρ' fo = v' at hv
            cases hv with
            | func fn xs ys cs ds hfn g1 g2 g3 g4 =>
              have hargs := arel_append (arel_append ⟨g1, g2⟩ (arel_map hr c.args)) ⟨g3, g4⟩
              rw [arr1 hxs] at hargs
              obtain ⟨x', e, hx⟩ := arel_one hargs
              refine ⟨f, x', w, ?_, Step.refl hs, hx⟩
              simp only [resolve, hfo, hv', Deferred.ofValue, Sem.run_bind, Sem.run_pure, Result.andThen_ok, invoke]
              rw [e, isName_run (nm := "internal/abi.NoEscape") hn (by kernel_rfl) (by kernel_rfl) (by kernel_rfl) (by kernel_rfl) (by kernel_rfl) (g := Extern.AbiNoEscape.same) (by kernel_rfl) (by decide)]
              rfl
          · rename_i x y hxy
            split at ha
            · rename_i hc
              obtain ⟨v, h1, rfl⟩ := aval_some ha
              have hv := hr fo
              rw [hfv] at hv
              generalize hv' : ρ' fo = v' at hv
              cases hv with
              | func fn xs ys cs ds hfn g1 g2 g3 g4 =>
                have hargs := arel_append (arel_append ⟨g1, g2⟩ (arel_map hr c.args)) ⟨g3, g4⟩
                rw [arr2 hxy] at hargs
                obtain ⟨x', y', e, hx, hy⟩ := arel_two hargs
                unfold acompare at h1
                split at h1
                · rename_i hsl
                  split at h1
                  · rename_i n cc m dd hc1 hc2
                    split at h1
                    · rename_i hby
                      cases h1
                      refine ⟨f, .int .i64 (cmpV cc dd), w, ?_, Step.refl hs, .int _ _⟩
                      have b1 := sound_bytes hs hx hsl.1 hc1 hby.1
                      have b2 := sound_bytes hs hy hsl.2 hc2 hby.2
                      simp only [resolve, hfo, hv', Deferred.ofValue, Sem.run_bind, Sem.run_pure, Result.andThen_ok, invoke]
                      rw [e, isCompare_run hc]
                      rw [compare_two]
                      simp only [Sem.run_bind, b1, b2, Result.andThen_ok, Sem.run_pure]
                      rfl
                    · cases h1
                  · cases h1
                · cases h1
            · cases ha
          · rename_i x y c0 hxy
            have hv := hr fo
            rw [hfv] at hv
            generalize hv' : ρ' fo = v' at hv
            cases hv with
            | func fn xs ys cs ds hfn g1 g2 g3 g4 =>
              have hargs := arel_append (arel_append ⟨g1, g2⟩ (arel_map hr c.args)) ⟨g3, g4⟩
              rw [arr3 hxy] at hargs
              obtain ⟨x', y', c', e, hx, hy, hc⟩ := arel_three hargs
              have fin : ∀ add : Bool, isName P F (if add then "math/bits.Add64" else "math/bits.Sub64") = true → aval h (acarry add x y c0) = some r → ResOk P f h w r ((do let d ← resolve ρ' c type; invoke d.target d.args : Sem Next).run P w) := by
                intro add hn ha
                obtain ⟨v, h1, rfl⟩ := aval_some ha
                have hpl : x' = x ∧ y' = y ∧ c' = c0 := by
                  unfold acarry at h1
                  split at h1
                  · exact ⟨hx.int_inv, hy.int_inv, hc.int_inv⟩
                  · cases h1
                obtain ⟨rfl, rfl, rfl⟩ := hpl
                obtain ⟨k1, a, b, rfl⟩ := carry_run hn h1 w
                refine ⟨f, _, w, ?_, Step.refl hs, plain_pair a b⟩
                simp only [resolve, hfo, hv', Deferred.ofValue, Sem.run_bind, Sem.run_pure, Result.andThen_ok, invoke]
                rw [e, k1]
              split at ha
              · rename_i hn; exact fin true hn ha
              · split at ha
                · rename_i hn; exact fin false hn ha
                · cases ha
          · cases ha
      · cases ha
    · rename_i b hb
      have := sound_builtin hs b c.argTypes type (c.args.map fun | .const _ => true | _ => false) (arel_map hr c.args) ha
      have e : (do let d ← resolve ρ' c type; invoke d.target d.args : Sem Next).run P w = (builtin b c.argTypes type (c.args.map fun | .const _ => true | _ => false) (c.args.map ρ')).run P w := by
        simp only [resolve, hb, Sem.run_bind, Sem.run_pure, Result.andThen_ok, invoke]
        rfl
      rw [e]
      exact this
    · cases ha
end Go.Am

set_option linter.unusedVariables false
set_option linter.unusedSimpArgs false
/- Forgetting: blocks that nobody needs are dropped, the others get other numbers, slots are let go. -/
namespace Go.Am
open Go
/-- the blocks' numbers turn -/
def Emb.ren (f : Emb) (σ : Nat → Nat) : Emb := ⟨fun b => f (σ b), f.rom⟩
/-- 'v1' is what 'v' becomes when the block 'σ b' is called 'b' -/
inductive VRen (σ : Nat → Nat) (L : Nat) : Value → Value → Prop
  | junk (v : Value) : VRen σ L junk v
  | plain (v : Value) (h : plain1 v = true) : VRen σ L v v
  | ptr (b o b' : Nat) (hb : b < L) (e : b' = σ b) : VRen σ L (.pointer (some ⟨b, o, none⟩)) (.pointer (some ⟨b', o, none⟩))
  | map (b b' : Nat) (hb : b < L) (e : b' = σ b) : VRen σ L (.map (some b)) (.map (some b'))
  | slice (b o l c b' : Nat) (hb : b < L) (e : b' = σ b) : VRen σ L (.slice (some ⟨b, o, none⟩) l c) (.slice (some ⟨b', o, none⟩) l c)
  | func (fn : Fn) (xs ys cs ds : Array Value) (hfn : Fn.plain fn = true) (hx : xs.size = ys.size) (hxy : ∀ i : Nat, VRen σ L (xs.getD i junk) (ys.getD i junk))
      (hc : cs.size = ds.size) (hcd : ∀ i : Nat, VRen σ L (cs.getD i junk) (ds.getD i junk)) : VRen σ L (.func fn xs cs) (.func fn ys ds)
  | iface (t : TypeId) (v v' : Value) (hv : VRen σ L v v') : VRen σ L (.iface t v) (.iface t v')
  | agg (xs ys : Array Value) (hx : xs.size = ys.size) (hxy : ∀ i : Nat, VRen σ L (xs.getD i junk) (ys.getD i junk)) : VRen σ L (.agg xs) (.agg ys)
  | tuple (xs ys : Array Value) (hx : xs.size = ys.size) (hxy : ∀ i : Nat, VRen σ L (xs.getD i junk) (ys.getD i junk)) : VRen σ L (.tuple xs) (.tuple ys)
  | fz (xs ys : Array Value) (n : Nat) (hx : xs.size = ys.size) (hxy : ∀ i : Nat, VRen σ L (xs.getD i junk) (ys.getD i junk)) : VRen σ L (.func (.yield 0) xs #[.int .i64 n]) (.func (.yield 0) ys #[.int .i64 n])
  | fp (xs ys : Array Value) (n : Nat) (hx : xs.size = ys.size) (hxy : ∀ i : Nat, VRen σ L (xs.getD i junk) (ys.getD i junk)) : VRen σ L (.func (.yield 1) xs #[.int .i64 n]) (.func (.yield 1) ys #[.int .i64 n])
  | bnil : VRen σ L (.func (.yield 2) #[] #[]) (.func (.yield 2) #[] #[])
theorem VRen.comp {σ : Nat → Nat} {f : Emb} {L1 L : Nat} {v1 v v' : Value} (h : VRen σ L1 v1 v) : VRel f L v v' → VRel (f.ren σ) L1 v1 v' := by
  induction h generalizing v' with
  | junk v => intro _; exact .junk _
  | plain v h => intro k; cases plain1_inv h k; exact plain1_refl h
  | ptr b o b' hb e =>
    intro k
    subst e
    cases k with
    | ptr _ _ r o' hb' hr ho => exact .ptr b _ _ _ hb hr ho
  | map b b' hb e =>
    intro k
    subst e
    cases k with
    | map _ r hb' hr => exact .map b _ hb hr
  | slice b o l c b' hb e =>
    intro k
    subst e
    cases k with
    | slice _ _ _ _ c' r o' hb' hr ho hc => exact .slice b _ _ _ _ _ _ hb hr ho hc
    | slice0 a a' hb' => exact .slice0 _ _ hb
  | func fn xs ys cs ds hfn hx hxy hc hcd ih1 ih2 =>
    intro k
    cases k with
    | fz => cases hfn
    | fz0 => cases hfn
    | fp => cases hfn
    | bnil => cases hfn
    | func _ _ zs _ es hfn' hx' hxy' hc' hcd' => exact .func fn xs zs cs es hfn' (hx.trans hx') (fun i => ih1 i (hxy' i)) (hc.trans hc') (fun i => ih2 i (hcd' i))
  | iface t v w hv ih =>
    intro k
    cases k with
    | iface _ _ u hu => exact .iface t v u (ih hu)
  | agg xs ys hx hxy ih =>
    intro k
    cases k with
    | agg _ zs hx' hxy' hone' => exact .agg xs zs (hx.trans hx') (fun i => ih i (hxy' i)) hone'
  | tuple xs ys hx hxy ih =>
    intro k
    cases k with
    | tuple _ zs hx' hxy' => exact .tuple xs zs (hx.trans hx') (fun i => ih i (hxy' i))
  | fz xs ys n hx hxy ih =>
    intro k
    obtain ⟨n0, hn0, hc⟩ := k.fz_inv
    cases hn0
    rcases hc with ⟨r, o, c, ds, rfl, hrom, hle, hn, hxy', hone⟩ | ⟨rfl, rfl, a, c, rfl⟩
    · refine .fz xs n r o c ds hrom (by omega) hn (fun i => ?_) (fun i hi => hone i (by omega))
      have := hxy' i
      rw [← hx] at this
      exact ih i this
    · have : xs = #[] := Array.eq_empty_of_size_eq_zero (by simpa using hx)
      subst this
      exact .fz0 a c
  | fp xs ys n hx hxy ih =>
    intro k
    obtain ⟨n0, r, o, ds, hn0, rfl, hrom, hle, hxy', hone⟩ := k.fp_inv
    cases hn0
    refine .fp xs n r o _ ds hrom (by omega) rfl (fun i => ?_) (fun i hi => hone i (by omega))
    have := hxy' i
    rw [← hx] at this
    exact ih i this
  | bnil => intro k; obtain ⟨rfl, _, _⟩ := k.bnil_inv; exact .bnil
theorem VRel.narrow {f f0 : Emb} {L L0 : Nat} {v v0 v' : Value} (h : VRel f0 L0 v v0) : VRel f L v v' → VRel f L0 v v' := by
  induction h generalizing v' with
  | junk v => intro _; exact .junk _
  | bool b => intro k; cases k; exact .bool b
  | int k n => intro k; cases k; exact .int _ _
  | string s => intro k; cases k; exact .string s
  | nilFunc => intro k; cases k; exact .nilFunc
  | nilIface => intro k; cases k; exact .nilIface
  | nilPtr => intro k; cases k; exact .nilPtr
  | ptr b o r o' hb hr ho => intro k; cases k with | ptr _ _ r o' hb' hr ho => exact .ptr b _ _ _ hb hr ho
  | nilMap => intro k; cases k; exact .nilMap
  | map b r hb hr => intro k; cases k with | map _ r hb' hr => exact .map b _ hb hr
  | nilSlice l c => intro k; cases k; exact .nilSlice l c
  | slice b o l c c' r o' hb hr ho hc =>
    intro k
    cases k with
    | slice _ _ _ _ c' r o' hb' hr ho hc => exact .slice b _ _ _ _ _ _ hb hr ho hc
    | slice0 a a' hb' => exact .slice0 _ _ hb
  | slice0 a a' hb =>
    intro k
    cases k with
    | slice _ _ _ _ c' r o' hb' hr ho hc => exact .slice _ _ _ _ _ _ _ hb hr ho hc
    | slice0 a a' hb' => exact .slice0 _ _ hb
  | func fn xs ys cs ds hfn hx hxy hc hcd ih1 ih2 =>
    intro k
    cases k with
    | fz => cases hfn
    | fz0 => cases hfn
    | fp => cases hfn
    | bnil => cases hfn
    | func _ _ zs _ es hfn' hx' hxy' hc' hcd' => exact .func fn xs zs cs es hfn' hx' (fun i => ih1 i (hxy' i)) hc' (fun i => ih2 i (hcd' i))
  | iface t v w hv ih => intro k; cases k with | iface _ _ u hu => exact .iface t v u (ih hu)
  | agg xs ys hx hxy hone ih => intro k; cases k with | agg _ zs hx' hxy' hone' => exact .agg xs zs hx' (fun i => ih i (hxy' i)) hone'
  | tuple xs ys hx hxy ih => intro k; cases k with | tuple _ zs hx' hxy' => exact .tuple xs zs hx' (fun i => ih i (hxy' i))
  | fz cs n r o c ds hrom hle hn hxy hone ih =>
    intro k
    obtain ⟨n0, hn0, hc⟩ := k.fz_inv
    cases hn0
    rcases hc with ⟨r, o, c, ds, rfl, hrom, hle, hn, hxy', hone⟩ | ⟨rfl, rfl, a, c, rfl⟩
    · exact .fz cs n r o c ds hrom hle hn (fun i => ih i (hxy' i)) hone
    · exact .fz0 a c
  | fz0 a c =>
    intro k
    obtain ⟨n0, hn0, hc⟩ := k.fz_inv
    cases hn0
    rcases hc with ⟨r, o, c, ds, rfl, hrom, hle, hn, hxy', hone⟩ | ⟨_, _, a, c, rfl⟩
    · exact .fz0 _ c
    · exact .fz0 a c
  | fp cs n r o o' ds hrom hle ho hxy hone ih =>
    intro k
    obtain ⟨n0, r, o, ds, hn0, rfl, hrom, hle, hxy', hone⟩ := k.fp_inv
    cases hn0
    exact .fp cs n r o _ ds hrom hle rfl (fun i => ih i (hxy' i)) hone
  | bnil => intro k; obtain ⟨rfl, _, _⟩ := k.bnil_inv; exact .bnil
theorem ORel.narrow {f f0 : Emb} {L L0 : Nat} {I I0 : Img} {o : AObj} {o0 o' : Obj} (h : ORel f0 L0 I0 o o0) (hag : ∀ b, b < L0 → f b = f0 b) (k : ORel f L I o o') : ORel f L0 I o o' := by
  cases o with
  | dead => simp [ORel]
  | cells c es rw =>
    obtain ⟨c0, elem0, fr0, rfl, a2, a3, a4, a5, a6, a7⟩ := h
    obtain ⟨c', elem, fr, k1, k2, k3, k4, k5, k6, k7⟩ := k
    exact ⟨c', elem, fr, k1, k2, k3, k4, k5, k6, fun i hi => ⟨(a7 i hi).1.narrow (k7 i hi).1, (k7 i hi).2⟩⟩
  | map kk es clk =>
    obtain ⟨es0, rfl, a2, a3⟩ := h
    obtain ⟨es', k1, k2, k3⟩ := k
    refine ⟨es', k1, k2, fun i e he => ?_⟩
    obtain ⟨e0, b1, b2, b3, b4⟩ := a3 i e he
    obtain ⟨e', q1, q2, q3, q4⟩ := k3 i e he
    exact ⟨e', q1, q2, q3, b4.narrow q4⟩
  | miter m s seen st =>
    obtain ⟨_, m0, rfl, a2⟩ := h
    obtain ⟨k0, m', k1, k2⟩ := k
    refine ⟨k0, m', k1, ?_⟩
    cases m <;> cases m0 <;> cases m' <;> simp only at a2 k2 ⊢
    exact ⟨a2.1, k2.2⟩
def ORen (σ : Nat → Nat) (L : Nat) : AObj → AObj → Prop
  | .dead, _ => True
  | .cells c1 es1 rw1, o => ∃ c, o = .cells c es1 rw1 ∧ c1.size = c.size ∧ ∀ i : Nat, VRen σ L (c1.getD i junk) (c.getD i junk)
  | .map k1 es1 clk1, o => ∃ es, o = .map k1 es clk1 ∧ es1.size = es.size ∧ ∀ (i : Nat) (e1 : MapEntry), es1[i]? = some e1 → ∃ e : MapEntry, es[i]? = some e ∧ e.key = e1.key ∧ e.born = e1.born ∧ VRen σ L e1.val e.val
  | .miter m1 s1 seen1 st1, o => ∃ m, o = .miter m s1 seen1 st1 ∧ (match m1, m with | none, none => True | some b1, some b => b1 < L ∧ b = σ b1 | _, _ => False)
theorem ORen.comp {σ : Nat → Nat} {f : Emb} {L1 L : Nat} {I : Img} {o1 o : AObj} {o' : Obj} (h : ORen σ L1 o1 o) (k : ORel f L I o o') : ORel (f.ren σ) L1 I o1 o' := by
  cases o1 with
  | dead => simp [ORel]
  | cells c1 es1 rw1 =>
    obtain ⟨c, rfl, h1, h2⟩ := h
    obtain ⟨c', elem, fr, k1, k2, k3, k4, k5, k6, k7⟩ := k
    exact ⟨c', elem, fr, k1, h1.trans k2, k3, k4, k5, k6, fun i hi => ⟨(h2 i).comp (k7 i (by omega)).1, (k7 i (by omega)).2⟩⟩
  | map kk es1 clk1 =>
    obtain ⟨es, rfl, h1, h2⟩ := h
    obtain ⟨es', k1, k2, k3⟩ := k
    refine ⟨es', k1, h1.trans k2, fun i e1 he1 => ?_⟩
    obtain ⟨e, g1, g2, g3, g4⟩ := h2 i e1 he1
    obtain ⟨e', q1, q2, q3, q4⟩ := k3 i e g1
    exact ⟨e', q1, q2.trans g2, q3.trans g3, g4.comp q4⟩
  | miter m1 s1 seen1 st1 =>
    obtain ⟨m, rfl, h1⟩ := h
    obtain ⟨k0, m', k1, k2⟩ := k
    refine ⟨k0, m', k1, ?_⟩
    cases m1 <;> cases m <;> cases m' <;> simp only at h1 k2 ⊢
    obtain ⟨h1, h3⟩ := h1
    exact ⟨h1, by show _ = (f (σ _)).blk; rw [← h3]; exact k2.2⟩
theorem ORen.rw {σ : Nat → Nat} {L : Nat} {o1 o : AObj} (h : ORen σ L o1 o) (ha : o1.alive = true) : o.alive = true ∧ o.rw = o1.rw := by
  cases o1 with
  | dead => simp [AObj.alive] at ha
  | cells c1 es1 rw1 => obtain ⟨c, rfl, _⟩ := h; exact ⟨rfl, rfl⟩
  | map kk es1 clk1 => obtain ⟨c, rfl, _⟩ := h; exact ⟨rfl, rfl⟩
  | miter m1 s1 seen1 st1 => obtain ⟨c, rfl, _⟩ := h; exact ⟨rfl, rfl⟩
/-- The heap 'h', said shorter: 'h1'. -/
structure GC (h0 : AH) (σ : Nat → Nat) (h h1 : AH) : Prop where
  len : h0.length ≤ h1.length
  fix : ∀ b, b < h0.length → σ b = b
  obj : ∀ b o1, h1[b]? = some o1 → o1.alive = true → ∃ o, h[σ b]? = some o ∧ ((b < h0.length ∧ h0[b]? = some o1 ∧ o = o1) ∨ ORen σ h1.length o1 o)
  inj : ∀ b b', b < h1.length → b' < h1.length → σ b = σ b' → b = b'
theorem Sim.gc {P : Program} {f0 f : Emb} {h0 h h1 : AH} {w0 w : World} {σ : Nat → Nat} (s0 : Sim P f0 h0 w0) (hs : Sim P f h w) (hag : Emb.Agree h0.length f0 f) (g : GC h0 σ h h1) :
    Sim P (f.ren σ) h1 w := by
  have hlt : ∀ (b : Nat) (x : AObj), h1[b]? = some x → b < h1.length := fun b x hb => (List.getElem?_eq_some_iff.1 hb).1
  refine ⟨?_, ?_, ?_, Nat.le_trans s0.size g.len, ?_, hs.laid, ?_⟩
  · intro b o1 hb ha
    obtain ⟨o, h2, h3⟩ := g.obj b o1 hb ha
    rcases h3 with ⟨hl, h4, rfl⟩ | h3
    · have e0 : (f.ren σ) b = f b := by show f (σ b) = f b; rw [g.fix b hl]
      rw [g.fix b hl] at h2
      rw [e0]
      obtain ⟨o0, _, h7⟩ := s0.obj b o h4 ha
      obtain ⟨o', h5, h8⟩ := hs.obj b o h2 ha
      have h6 := h7.narrow (fun b hb => hag.1 b hb) h8
      exact ⟨o', h5, h6.mono g.len ⟨fun b' hb' => by show f (σ b') = f b'; rw [g.fix b' hb'], fun _ _ e => e⟩⟩
    · obtain ⟨o', h5, h6⟩ := hs.obj (σ b) o h2 (h3.rw ha).1
      exact ⟨o', h5, h3.comp h6⟩
  · intro b b' o1 o1' hb hb' ha ha' hrw hne
    obtain ⟨o, h2, h3⟩ := g.obj b o1 hb ha
    obtain ⟨o2, h2', h3'⟩ := g.obj b' o1' hb' ha'
    have e1 : o.alive = true ∧ o.rw = true := by
      rcases h3 with ⟨_, _, rfl⟩ | h3
      · exact ⟨ha, hrw⟩
      · exact ⟨(h3.rw ha).1, (h3.rw ha).2.trans hrw⟩
    have e2 : o2.alive = true := by
      rcases h3' with ⟨_, _, rfl⟩ | h3'
      · exact ha'
      · exact (h3'.rw ha').1
    exact hs.sep (σ b) (σ b') o o2 h2 h2' e1.1 e2 e1.2 (fun e => hne (g.inj b b' (hlt _ _ hb) (hlt _ _ hb') e))
  · intro gl hgl
    have : gl < h0.length := Nat.lt_of_lt_of_le hgl s0.size
    show (f (σ gl)).blk = gl ∧ (f (σ gl)).off = 0
    rw [g.fix gl this]
    exact hs.glob gl hgl
  · intro r ds hr
    obtain ⟨k1, k2⟩ := hs.rom r ds hr
    refine ⟨k1, fun b o1 hb hrw => ?_⟩
    have ha : o1.alive = true := by cases o1 <;> simp_all [AObj.rw, AObj.alive]
    obtain ⟨o, h2, h3⟩ := g.obj b o1 hb ha
    have : o.rw = true := by
      rcases h3 with ⟨_, _, rfl⟩ | h3
      · exact hrw
      · exact (h3.rw ha).2.trans hrw
    exact k2 (σ b) o h2 this
  · intro b o1 hb
    cases o1 with
    | map kk es1 clk1 =>
      obtain ⟨o, h2, h3⟩ := g.obj b _ hb rfl
      rcases h3 with ⟨_, _, rfl⟩ | ⟨es, rfl, k1, k2⟩
      · exact hs.ok (σ b) _ h2
      · refine mapOk_of (hs.ok (σ b) _ h2) ?_ ?_
        · apply List.ext_getElem (by simpa using k1)
          intro i q1 q2
          have hi : i < es1.size := by simpa using q1
          obtain ⟨e, p1, p2, p3, _⟩ := k2 i es1[i] (by simp [hi])
          have hi' : i < es.size := by omega
          rw [Array.getElem?_eq_getElem hi'] at p1
          cases p1
          simp [p2]
        · apply List.ext_getElem (by simpa using k1)
          intro i q1 q2
          have hi : i < es1.size := by simpa using q1
          obtain ⟨e, p1, p2, p3, _⟩ := k2 i es1[i] (by simp [hi])
          have hi' : i < es.size := by omega
          rw [Array.getElem?_eq_getElem hi'] at p1
          cases p1
          simp [p3]
    | _ => trivial
end Go.Am

set_option linter.unusedVariables false
set_option linter.unusedSimpArgs false
/- Code over abstract heaps. -/
namespace Go.Am
open Go
def Forget (h0 : AH) (a : Array Value) (h : AH) (a1 : Array Value) (h1 : AH) : Prop :=
  (a1 = a ∧ h1 = h) ∨ ∃ σ, GC h0 σ h h1 ∧ a1.size = a.size ∧ ∀ i : Nat, VRen σ h1.length (a1.getD i junk) (a.getD i junk)
theorem gc_own {P : Program} {f0 f : Emb} {h0 h h1 : AH} {w0 : World} {σ : Nat → Nat} (g : GC h0 σ h h1)
    (own : ∀ b o, h[b]? = some o → o.rw = true → w0.heap.size ≤ (f b).blk ∨ ∃ b0 o0, h0[b0]? = some o0 ∧ o0.rw = true ∧ (f0 b0).blk = (f b).blk) :
    ∀ b o, h1[b]? = some o → o.rw = true → w0.heap.size ≤ (f (σ b)).blk ∨ ∃ b0 o0, h0[b0]? = some o0 ∧ o0.rw = true ∧ (f0 b0).blk = (f (σ b)).blk := by
  intro b o1 hb hrw
  obtain ⟨o, h2, h3⟩ := g.obj b o1 hb (rw_alive hrw)
  have : o.rw = true := by
    rcases h3 with ⟨_, _, rfl⟩ | h3
    · exact hrw
    · exact (h3.rw (rw_alive hrw)).2.trans hrw
  exact own (σ b) o h2 this
theorem gc_rw {h0 h h1 : AH} {σ : Nat → Nat} (g : GC h0 σ h h1) : ∀ b o, h1[b]? = some o → o.rw = true → ∃ o0, h[σ b]? = some o0 ∧ o0.rw = true := by
  intro b o1 hb hrw
  obtain ⟨o, h2, h3⟩ := g.obj b o1 hb (rw_alive hrw)
  refine ⟨o, h2, ?_⟩
  rcases h3 with ⟨_, _, rfl⟩ | h3
  · exact hrw
  · exact (h3.rw (rw_alive hrw)).2.trans hrw
theorem Good.forget {P : Program} {f0 f : Emb} {h0 h h1 : AH} {w0 w : World} {a a1 : Array Value} {a' : Act} (s0 : Sim P f0 h0 w0) (g : Good P f0 h0 w0 f a h a' w) (fg : Forget h0 a h a1 h1) :
    ∃ f1, Good P f0 h0 w0 f1 a1 h1 a' w := by
  rcases fg with ⟨rfl, rfl⟩ | ⟨σ, gc, hsz, hv⟩
  · exact ⟨f, g⟩
  refine ⟨f.ren σ, ?_, ⟨hsz.trans g.tm.1, fun i => (hv i).comp (g.tm.2 i)⟩, g.df.ren (fun b o hb hr => let ⟨o0, h1, h2⟩ := gc_rw gc b o hb hr; ⟨σ b, o0, h1, h2, rfl⟩), g.keep, gc_own (P := P) (f := f) gc g.own, ⟨fun b hb => ?_, g.agree.2⟩, gc.len⟩
  · exact s0.gc g.sim g.agree gc
  · show f (σ b) = f0 b
    rw [gc.fix b hb]
    exact g.agree.1 b hb
/-- what is said of a frame and a heap may be said so, too -/
def Eases (P : Program) (h0 : AH) (a : Array Value) (h : AH) (a1 : Array Value) (h1 : AH) : Prop :=
  ∀ f0 w0 f a' w, Sim P f0 h0 w0 → Good P f0 h0 w0 f a h a' w → ∃ f1, Good P f0 h0 w0 f1 a1 h1 a' w
theorem Eases.refl {P : Program} {h0 : AH} {a : Array Value} {h : AH} : Eases P h0 a h a h := fun _ _ f _ _ _ g => ⟨f, g⟩
theorem Eases.trans {P : Program} {h0 : AH} {a a1 a2 : Array Value} {h h1 h2 : AH} (x : Eases P h0 a h a1 h1) (y : Eases P h0 a1 h1 a2 h2) : Eases P h0 a h a2 h2 :=
  fun f0 w0 f a' w s0 g => let ⟨f1, g1⟩ := x f0 w0 f a' w s0 g; y f0 w0 f1 a' w s0 g1
theorem Forget.eases {P : Program} {h0 : AH} {a a1 : Array Value} {h h1 : AH} (x : Forget h0 a h a1 h1) : Eases P h0 a h a1 h1 := fun _ _ _ _ _ s0 g => g.forget s0 x
def Lift (P : Program) (f0 : Emb) (h0 : AH) (w0 : World) (Q : Exit → Array Value → AH → Prop) : Exit → Act → World → Prop
  | .normal, a', w => ∃ f a h, Q .normal a h ∧ Good P f0 h0 w0 f a h a' w
  | .exit id, a', w => ∃ f a h, Q (.exit id) a h ∧ Good P f0 h0 w0 f a h a' w
  | .goto l, a', w => ∃ f a h, Q (.goto l) a h ∧ Good P f0 h0 w0 f a h a' w
  | .ret, a', w => ∃ f a h, Q .ret a h ∧ Good P f0 h0 w0 f a h a' w
  | .panic _, _, _ => False
  | .outgrown, _, _ => False
/-- whatever may be called, in a round of a loop over a function, or in none -/
def fenceR (ro : Option Nat) : Fence := { fn := fun _ => True, depth := none, alive := false, round := ro }
theorem CallsIn.fenceR {P : Program} {n : Nat} {f : FuncId} {args : Array Value} {w : World} {R : Ending → World → Prop} (h : Calls P f args w R) (ro : Option Nat) : CallsIn (Am.fenceR ro) n P f args w R := by
  cases ro with
  | none => exact callsIn_wide.2 h
  | some l => exact CallsIn.inRound l (callsIn_wide.2 h)
theorem aop_defer {P : Program} {ρ : Operand → Value} {h : AH} {o : Oper} {r : ARes} (hr : aop P ρ h o = some r) : ∀ c, o.op ≠ .defer c := by
  intro c e
  obtain ⟨dst, op, ty, pos, after, guard⟩ := o
  simp only at e
  subst e
  simp [aop, amore] at hr
theorem semAt_R {P : Program} {ρ ρ' : Operand → Value} {h : AH} {o : Oper} {r : ARes} (hr : aop P ρ h o = some r) (ro : Option Nat) : Oper.semAt ro ρ' o = execOp ρ' o := by
  cases ro with
  | none => rfl
  | some l => exact Oper.semAt_some l ρ' o (aop_defer hr)
/-- in a round: the loop's record lies there, and nobody writes it -/
def RoundBase (f0 : Emb) (h0 : AH) (w0 : World) : Option Nat → Prop
  | none => True
  | some l => (∃ r, w0.heap[l]? = some (.loop r)) ∧ ∀ b o, h0[b]? = some o → o.rw = true → (f0 b).blk ≠ l
/-- the code, from a frame and an abstract heap, comes to Q -/
def AWP (P : Program) (h0 : AH) (c : Code) (Q : Exit → Array Value → AH → Prop) (a : Array Value) (h : AH) : Prop :=
  ∀ f0 w0 f a' w, Sim P f0 h0 w0 → Good P f0 h0 w0 f a h a' w → ∀ ro, RoundBase f0 h0 w0 ro → c.wpIn (fenceR ro) 0 P (Lift P f0 h0 w0 Q) a' w
def aput (a : Array Value) (dst : Option Tmp) (v : Value) : Array Value :=
  match dst with
  | some d => a.setIfInBounds d v
  | none => a
/-- is the operation wanted? (none: it can't be told) -/
def gval (ops : Array Oper) (a : Array Value) (o : Oper) : Option Bool :=
  match o.guard with
  | none => some true
  | some (j, want) => match (ops[j]?).bind (·.dst) with
    | some d => match a.getD d junk with
      | .bool b => some (b == want)
      | .tuple _ => some false
      | _ => none
    | none => none
/-- operations, one behind the other -/
def awl (P : Program) (ops : Array Oper) (Q : Exit → Array Value → AH → Prop) : List Oper → Array Value → AH → Prop
  | [], a, h => Q .normal a h
  | o :: rest, a, h =>
    match gval ops a o with
    | some false => awl P ops Q rest (aput a o.dst undef) h
    | some true => match aop P (aeval P a) h o with
      | some (.val v h1) => awl P ops Q rest (aput a o.dst v) h1
      | some (.skip h1) => awl P ops Q rest (aput a o.dst undef) h1
      | some (.enter F args) => ∃ R, ACalls P F args h R ∧ ∀ v h1, R v h1 → awl P ops Q rest (aput a o.dst v) h1
      | some (.any S) => ∀ v h1, S v h1 → awl P ops Q rest (aput a o.dst v) h1
      | none => False
    | none => False
theorem undef_rel {f : Emb} {L : Nat} : VRel f L undef undef := .tuple #[] #[] rfl (fun i => by simp; exact .junk _)
theorem ARel.aput {f : Emb} {L : Nat} {a : Array Value} {a' : Act} (h : ARel f L a a'.tmps) (dst : Option Tmp) {v v' : Value} (hv : VRel f L v v') : ARel f L (aput a dst v) (a'.put dst v').tmps := by
  cases dst with
  | none => exact h
  | some d => exact h.set d hv
theorem put_defers (a' : Act) (dst : Option Tmp) (v : Value) : (a'.put dst v).defers = a'.defers := by cases dst <;> rfl
theorem gval_wanted {f : Emb} {L : Nat} {ops : Array Oper} {a : Array Value} {a' : Act} (h : ARel f L a a'.tmps) {o : Oper} {t : Bool} (hg : gval ops a o = some t) : Region.wanted o (yielded ops a'.tmps) = t := by
  unfold gval at hg
  unfold Region.wanted
  split at hg
  · rename_i hgd
    rw [hgd]
    simp only [Option.some.injEq] at hg
    simp [hg]
  · rename_i j want hgd
    rw [hgd]
    simp only
    split at hg
    · rename_i d hd
      have hr := h.2 d
      unfold yielded
      rw [hd]
      simp only [Option.bind_some]
      split at hg
      · rename_i b hb
        rw [hb] at hr
        have h2 := hr.bool_inv
        have hlt : d < a'.tmps.size := by
          by_cases hl : d < a'.tmps.size
          · exact hl
          · rw [getD_ge d hl] at h2; cases h2
        have h3 : a'.tmps[d]? = some (.bool b) := by
          have : a'.tmps.getD d junk = a'.tmps[d] := by simp [Array.getD, hlt]
          rw [this] at h2
          rw [Array.getElem?_eq_getElem hlt, h2]
        rw [h3]
        simp only [Option.some.injEq] at hg
        subst hg
        cases b <;> cases want <;> rfl
      · rename_i vs hb
        rw [hb] at hr
        obtain ⟨ds, h2, _⟩ := hr.tuple_inv
        have hlt : d < a'.tmps.size := by
          by_cases hl : d < a'.tmps.size
          · exact hl
          · rw [getD_ge d hl] at h2; cases h2
        have h3 : a'.tmps[d]? = some (.tuple ds) := by
          have : a'.tmps.getD d junk = a'.tmps[d] := by simp [Array.getD, hlt]
          rw [this] at h2
          rw [Array.getElem?_eq_getElem hlt, h2]
        rw [h3]
        simp only [Option.some.injEq] at hg
        subst hg
        cases want <;> rfl
      · cases hg
    · cases hg
/-- one operation of the world, out of the abstract one -/
theorem oper_wp {P : Program} {f0 : Emb} {h0 : AH} {w0 : World} {f : Emb} {a : Array Value} {h : AH} {a' : Act} {w : World} (g : Good P f0 h0 w0 f a h a' w) (o : Oper) {r : ARes} (hr : aop P (aeval P a) h o = some r)
    {K : Act → World → Prop} {Q : Exit → Act → World → Prop}
    (hk : match r with
      | .val v h1 => ∀ f1 b' w1, Good P f0 h0 w0 f1 (aput a o.dst v) h1 b' w1 → K b' w1
      | .skip h1 => ∀ f1 b' w1, Good P f0 h0 w0 f1 (aput a o.dst undef) h1 b' w1 → K b' w1
      | .enter F args => ∃ R, ACalls P F args h R ∧ ∀ v h1, R v h1 → ∀ f1 b' w1, Good P f0 h0 w0 f1 (aput a o.dst v) h1 b' w1 → K b' w1
      | .any S => ∀ v h1, S v h1 → ∀ f1 b' w1, Good P f0 h0 w0 f1 (aput a o.dst v) h1 b' w1 → K b' w1) :
    ∀ ro, o.wpIn (fenceR ro) 0 P a' w K Q := by
  intro ro
  have hs := sound_aop g.sim (fun x => aeval_rel g.sim g.tm x) o hr
  refine ⟨fun _ _ => trivial, ?_⟩
  rw [show (fenceR ro).round = ro from rfl, semAt_R hr ro]
  cases r with
  | val v h1 =>
    obtain ⟨f1, v', w1, e, st, hv⟩ := hs
    rw [e, Oper.uponIn_value]
    exact hk f1 _ w1 (g.step st ((g.tm.step st).aput o.dst hv) (put_defers _ _ _))
  | skip h1 =>
    obtain ⟨f1, w1, e, st⟩ := hs
    rw [e, Oper.uponIn_skip]
    exact hk f1 _ w1 (g.step st ((g.tm.step st).aput o.dst undef_rel) (put_defers _ _ _))
  | enter F args =>
    obtain ⟨args', e, ha⟩ := hs
    obtain ⟨R, hc, hk⟩ := hk
    rw [e, Oper.uponIn_enter]
    refine ⟨fun h => (by cases h), CallsIn.fenceR ((hc.run f w args' g.sim ha).mono fun e w1 hx => ?_) ro⟩
    obtain ⟨f1, v, v', h1, rfl, hR, st, hv⟩ := hx
    exact hk v h1 hR f1 _ w1 (g.step st ((g.tm.step st).aput o.dst hv) (put_defers _ _ _))
  | any S =>
    obtain ⟨f1, v, v', h1, w1, e, hS, st, hv⟩ := hs
    rw [e, Oper.uponIn_value]
    exact hk v h1 hS f1 _ w1 (g.step st ((g.tm.step st).aput o.dst hv) (put_defers _ _ _))
theorem awl_sound {P : Program} {ops : Array Oper} {Q : Exit → Array Value → AH → Prop} {f0 : Emb} {h0 : AH} {w0 : World} (l : List Oper) : ∀ {f : Emb} {a : Array Value} {h : AH} {a' : Act} {w : World},
    awl P ops Q l a h → Good P f0 h0 w0 f a h a' w → ∀ ro, wpListIn (fenceR ro) 0 P ops (Lift P f0 h0 w0 Q) l a' w := by
  induction l with
  | nil => intro f a h a' w ha g ro; exact ⟨f, a, h, ha, g⟩
  | cons o rest ih =>
    intro f a h a' w ha g ro
    unfold awl at ha
    split at ha
    · rename_i hg
      have hw := gval_wanted g.tm hg
      unfold wpListIn
      rw [if_neg (by simp [hw])]
      exact ⟨fun _ _ => trivial, ih ha (g.step (Step.refl g.sim) (g.tm.aput o.dst undef_rel) (put_defers _ _ _)) ro⟩
    · rename_i hg
      have hw := gval_wanted g.tm hg
      unfold wpListIn
      rw [if_pos hw]
      split at ha
      · rename_i v h1 hr
        exact oper_wp g o hr (fun f1 b' w1 g1 => ih ha g1 ro) ro
      · rename_i h1 hr
        exact oper_wp g o hr (fun f1 b' w1 g1 => ih ha g1 ro) ro
      · rename_i F args hr
        obtain ⟨R, hc, hk⟩ := ha
        exact oper_wp g o hr ⟨R, hc, fun v h1 hR f1 b' w1 g1 => ih (hk v h1 hR) g1 ro⟩ ro
      · rename_i S hr
        exact oper_wp g o hr (fun v h1 hS f1 b' w1 g1 => ih (ha v h1 hS) g1 ro) ro
      · exact ha.elim
    · exact ha.elim
def thenA (next : Array Value → AH → Prop) (Q : Exit → Array Value → AH → Prop) : Exit → Array Value → AH → Prop
  | .normal, a, h => next a h
  | e, a, h => Q e a h
def inBlockA (id : Nat) (Q : Exit → Array Value → AH → Prop) : Exit → Array Value → AH → Prop
  | .exit id', a, h => if id' = id then Q .normal a h else Q (.exit id') a h
  | e, a, h => Q e a h
theorem AWP.region {P : Program} {h0 : AH} {id : Nat} {ops : Array Oper} {Q : Exit → Array Value → AH → Prop} {a : Array Value} {h : AH} (ha : awl P ops Q ops.toList a h) : AWP P h0 (.region id ops false) Q a h :=
  fun f0 w0 f a' w s0 g ro hrb => wpIn_region_list (awl_sound ops.toList ha g ro)
theorem AWP.seq {P : Program} {h0 : AH} {x y : Code} {Q : Exit → Array Value → AH → Prop} {a : Array Value} {h : AH} (ha : AWP P h0 x (thenA (AWP P h0 y Q) Q) a h) : AWP P h0 (.seq x y) Q a h := by
  intro f0 w0 f a' w s0 g ro hrb
  refine wpIn_seq (Go.wpIn_mono (ha f0 w0 f a' w s0 g ro hrb) fun e a1 w1 hq => ?_)
  cases e with
  | normal => obtain ⟨f1, b, h1, hk, g1⟩ := hq; exact hk f0 w0 f1 a1 w1 s0 g1 ro hrb
  | exit id => exact hq
  | goto l => exact hq
  | ret => exact hq
  | panic c => exact hq
  | outgrown => exact hq
theorem AWP.block {P : Program} {h0 : AH} {id : Nat} {c : Code} {Q : Exit → Array Value → AH → Prop} {a : Array Value} {h : AH} (ha : AWP P h0 c (inBlockA id Q) a h) : AWP P h0 (.block id c) Q a h := by
  intro f0 w0 f a' w s0 g ro hrb
  refine wpIn_block (Go.wpIn_mono (ha f0 w0 f a' w s0 g ro hrb) fun e a1 w1 hq => ?_)
  cases e with
  | normal => exact hq
  | exit id' =>
    obtain ⟨f1, b, h1, hk, g1⟩ := hq
    simp only [inBlockA] at hk
    show if id' = id then _ else _
    split
    · rename_i he; rw [if_pos he] at hk; exact ⟨f1, b, h1, hk, g1⟩
    · rename_i he; rw [if_neg he] at hk; exact ⟨f1, b, h1, hk, g1⟩
  | goto l => exact hq
  | ret => exact hq
  | panic c => exact hq
  | outgrown => exact hq
theorem AWP.mono {P : Program} {h0 : AH} {c : Code} {Q Q' : Exit → Array Value → AH → Prop} {a : Array Value} {h : AH} (ha : AWP P h0 c Q a h) (hq : ∀ e a h, Q e a h → Q' e a h) : AWP P h0 c Q' a h := by
  intro f0 w0 f a' w s0 g ro hrb
  refine Go.wpIn_mono (ha f0 w0 f a' w s0 g ro hrb) fun e a1 w1 hx => ?_
  cases e with
  | normal => obtain ⟨f1, b, h1, hk, g1⟩ := hx; exact ⟨f1, b, h1, hq _ _ _ hk, g1⟩
  | exit id => obtain ⟨f1, b, h1, hk, g1⟩ := hx; exact ⟨f1, b, h1, hq _ _ _ hk, g1⟩
  | goto l => obtain ⟨f1, b, h1, hk, g1⟩ := hx; exact ⟨f1, b, h1, hq _ _ _ hk, g1⟩
  | ret => obtain ⟨f1, b, h1, hk, g1⟩ := hx; exact ⟨f1, b, h1, hq _ _ _ hk, g1⟩
  | panic c => exact hx
  | outgrown => exact hx
theorem AWP.forget {P : Program} {h0 : AH} {c : Code} {Q : Exit → Array Value → AH → Prop} {a a1 : Array Value} {h h1 : AH} (fg : Forget h0 a h a1 h1) (ha : AWP P h0 c Q a1 h1) : AWP P h0 c Q a h := by
  intro f0 w0 f a' w s0 g ro hrb
  obtain ⟨f1, g1⟩ := g.forget s0 fg
  exact ha f0 w0 f1 a' w s0 g1 ro hrb
theorem AWP.ease {P : Program} {h0 : AH} {c : Code} {Q : Exit → Array Value → AH → Prop} {a a1 : Array Value} {h h1 : AH} (fg : Eases P h0 a h a1 h1) (ha : AWP P h0 c Q a1 h1) : AWP P h0 c Q a h := by
  intro f0 w0 f a' w s0 g ro hrb
  obtain ⟨f1, g1⟩ := fg f0 w0 f a' w s0 g
  exact ha f0 w0 f1 a' w s0 g1 ro hrb
theorem wpIn_loop_ghost {F : Fence} {k : Nat} {P : Program} {c : Code} {Q : Exit → Act → World → Prop} (I : Nat → Act → World → Prop)
    (round : ∀ n a w, I n a w → c.wpIn F k P (Exit.then (fun a' w' => ∃ m, m < n ∧ I m a' w') Q) a w) {n : Nat} {a : Act} {w : World} (h0 : I n a w) : (Code.loop c).wpIn F k P Q a w := by
  have μ : ∀ a w, ∃ k, (∃ n, I n a w) → (I k a w ∧ ∀ m, I m a w → k ≤ m) := by
    intro a w
    by_cases hx : ∃ n, I n a w
    · obtain ⟨n, hn⟩ := hx
      induction n using Nat.strongRecOn with
      | _ n ih =>
        by_cases hl : ∃ m, m < n ∧ I m a w
        · obtain ⟨m, hm, hi⟩ := hl
          exact ih m hm hi
        · exact ⟨n, fun _ => ⟨hn, fun m hm => Nat.le_of_not_lt fun hlt => hl ⟨m, hlt, hm⟩⟩⟩
    · exact ⟨0, fun h => absurd h hx⟩
  refine wpIn_loop (fun a w => ∃ n, I n a w) (fun a w => Classical.choose (μ a w)) ⟨n, h0⟩ fun a w hI => ?_
  obtain ⟨h1, h2⟩ := Classical.choose_spec (μ a w) hI
  refine Go.wpIn_mono (round _ a w h1) fun e a' w' hq => ?_
  cases e with
  | normal =>
    obtain ⟨m, hm, hi⟩ := hq
    refine ⟨⟨m, hi⟩, ?_⟩
    have := (Classical.choose_spec (μ a' w') ⟨m, hi⟩).2 m hi
    show Classical.choose (μ a' w') < Classical.choose (μ a w)
    omega
  | _ => exact hq
/-- a loop: what holds at each round's head (after forgetting), and what goes down -/
theorem AWP.loopE {P : Program} {h0 : AH} {c : Code} {Q : Exit → Array Value → AH → Prop} {a : Array Value} {h : AH} (I : Nat → Array Value → AH → Prop) {n : Nat} (hI : I n a h)
    (round : ∀ n a h, I n a h → AWP P h0 c (thenA (fun a1 h1 => ∃ m a2 h2, m < n ∧ Eases P h0 a1 h1 a2 h2 ∧ I m a2 h2) Q) a h) : AWP P h0 (.loop c) Q a h := by
  intro f0 w0 f a' w s0 g ro hrb
  refine wpIn_loop_ghost (fun n a' w => ∃ f a h, I n a h ∧ Good P f0 h0 w0 f a h a' w) (fun n a' w hx => ?_) (n := n) ⟨f, a, h, hI, g⟩
  obtain ⟨f1, b, h1, hi, g1⟩ := hx
  refine Go.wpIn_mono (round n b h1 hi f0 w0 f1 a' w s0 g1 ro hrb) fun e a1 w1 hq => ?_
  cases e with
  | normal =>
    obtain ⟨f2, b2, h2, ⟨m, a3, h3, hm, fg, hi3⟩, g2⟩ := hq
    obtain ⟨f3, g3⟩ := fg f0 w0 f2 a1 w1 s0 g2
    exact ⟨m, hm, f3, a3, h3, hi3, g3⟩
  | exit id => exact hq
  | goto l => exact hq
  | ret => exact hq
  | panic c => exact hq
  | outgrown => exact hq
theorem AWP.loop {P : Program} {h0 : AH} {c : Code} {Q : Exit → Array Value → AH → Prop} {a : Array Value} {h : AH} (I : Nat → Array Value → AH → Prop) {n : Nat} (hI : I n a h)
    (round : ∀ n a h, I n a h → AWP P h0 c (thenA (fun a1 h1 => ∃ m a2 h2, m < n ∧ Forget h0 a1 h1 a2 h2 ∧ I m a2 h2) Q) a h) : AWP P h0 (.loop c) Q a h :=
  AWP.loopE I hI fun n a h hi => AWP.mono (round n a h hi) fun e a1 h1 hq => by
    cases e with
    | normal => obtain ⟨m, a2, h2, hm, fg, hi⟩ := hq; exact ⟨m, a2, h2, hm, fg.eases, hi⟩
    | _ => exact hq
theorem thenA_mono {next next' : Array Value → AH → Prop} {Q : Exit → Array Value → AH → Prop} (h : ∀ a h, next a h → next' a h) : ∀ e a h, thenA next Q e a h → thenA next' Q e a h := by
  intro e a h' hq; cases e <;> first | exact h _ _ hq | exact hq
/-! ### functions -/
def ares1 (P : Program) (a : Array Value) (h : AH) : ResultVar → Option Value
  | .tmp t => some (a.getD t junk)
  | .cell p t => aload P h t (a.getD p junk)
def aresL (P : Program) (a : Array Value) (h : AH) : List ResultVar → Option (List Value)
  | [] => some []
  | r :: rest => match ares1 P a h r, aresL P a h rest with
    | some v, some vs => some (v :: vs)
    | _, _ => none
def aresults (P : Program) (fn : Func) (a : Array Value) (h : AH) : Option Value :=
  match aresL P a h fn.results.toList with
  | some [v] => some v
  | some vs => some (.tuple vs.toArray)
  | none => none
/-- what a function's value and heap may be said to be, shorter -/
def ForgetV (h0 : AH) (v : Value) (h : AH) (v1 : Value) (h1 : AH) : Prop := (v1 = v ∧ h1 = h) ∨ ∃ σ, GC h0 σ h h1 ∧ VRen σ h1.length v1 v
theorem ForgetV.eases {P : Program} {h0 h h1 : AH} {v v1 : Value} (x : ForgetV h0 v h v1 h1) : Eases P h0 #[v] h #[v1] h1 := by
  refine Forget.eases ?_
  rcases x with ⟨rfl, rfl⟩ | ⟨σ, g, r⟩
  · exact .inl ⟨rfl, rfl⟩
  · refine .inr ⟨σ, g, rfl, fun i => ?_⟩
    cases i with
    | zero => exact r
    | succ i => simp [Array.getD]; exact .junk _
def apost (P : Program) (h0 : AH) (fn : Func) (R : Value → AH → Prop) : Exit → Array Value → AH → Prop
  | .normal, a, h | .ret, a, h => ∃ v v1 h1, aresults P fn a h = some v ∧ Eases P h0 #[v] h #[v1] h1 ∧ R v1 h1
  | _, _, _ => False
theorem run_resL {P : Program} {f : Emb} {h : AH} {w : World} {a : Array Value} {a' : Act} (hs : Sim P f h w) (ht : ARel f h.length a a'.tmps) (l : List ResultVar) : ∀ {vs : List Value}, aresL P a h l = some vs →
    ∃ vs', (l.mapM (fun | .tmp t => pure (a'.tmps.getD t undef) | .cell p t => do loadVar t (← asAddr (a'.tmps.getD p undef)) : ResultVar → Sem Value)).run P w = .ok vs' w ∧ vs.length = vs'.length ∧ ∀ i : Nat, VRel f h.length (vs.getD i junk) (vs'.getD i junk) := by
  induction l with
  | nil => intro vs h1; simp [aresL] at h1; subst h1; exact ⟨[], by simp, rfl, fun i => by simp; exact .junk _⟩
  | cons r rest ih =>
    intro vs h1
    unfold aresL at h1
    split at h1
    · rename_i v vs0 hv hvs
      simp only [Option.some.injEq] at h1
      subst h1
      obtain ⟨vs', g1, g2, g3⟩ := ih hvs
      have hrun : ∃ v', ((fun | .tmp t => pure (a'.tmps.getD t undef) | .cell p t => do loadVar t (← asAddr (a'.tmps.getD p undef)) : ResultVar → Sem Value) r).run P w = .ok v' w ∧ VRel f h.length v v' := by
        cases r with
        | tmp t =>
          simp only [ares1, Option.some.injEq] at hv
          subst hv
          have := aeval_rel hs ht (.tmp t)
          exact ⟨a'.tmps.getD t undef, rfl, this⟩
        | cell p t =>
          simp only [ares1] at hv
          have hp := aeval_rel hs ht (.tmp p)
          simp only [aeval, Act.eval] at hp
          generalize ha : a.getD p junk = av at hp hv
          generalize ha' : a'.tmps.getD p undef = av' at hp
          cases hp with
          | ptr b o r' o' hb hr ho =>
            subst hr; subst ho
            obtain ⟨r1, k1, k2⟩ := sound_loadVar hs hv
            exact ⟨r1, by simp only [ha', asAddr, Sem.run_bind, Sem.run_pure, Result.andThen_ok, k1], k2⟩
          | fp cs k r' o o' ds hrom hle ho hxy hone =>
            subst ho
            simp only [aload, fzN_lit] at hv
            obtain ⟨r1, k1, k2⟩ := (hs.heldRom hrom hle hxy hone).loadVar hv
            exact ⟨r1, by simp only [ha', asAddr, Sem.run_bind, Sem.run_pure, Result.andThen_ok, k1], k2⟩
          | func fn xs ys cs ds hfn => exfalso; cases fn <;> simp [Fn.plain, aload] at hfn hv
          | _ => simp [aload, junk] at hv
      obtain ⟨v', k1, k2⟩ := hrun
      refine ⟨v' :: vs', ?_, by simp [g2], fun i => ?_⟩
      · rw [List.mapM_cons, Sem.run_bind, k1, Result.andThen_ok, Sem.run_bind, g1]
        rfl
      · cases i with
        | zero => simpa using k2
        | succ i => simpa using g3 i
    · cases h1
theorem run_results {P : Program} {f : Emb} {h : AH} {w : World} {fn : Func} {a : Array Value} {a' : Act} (hs : Sim P f h w) (ht : ARel f h.length a a'.tmps) {v : Value} (hv : aresults P fn a h = some v) :
    ∃ v', (results fn a'.tmps).run P w = .ok v' w ∧ VRel f h.length v v' := by
  unfold aresults at hv
  have key : ∀ vs, aresL P a h fn.results.toList = some vs → ∃ vs' : Array Value, (fn.results.mapM (fun | .tmp t => pure (a'.tmps.getD t undef) | .cell p t => do loadVar t (← asAddr (a'.tmps.getD p undef)) : ResultVar → Sem Value)).run P w = .ok vs' w ∧ vs.length = vs'.size ∧ ∀ i : Nat, VRel f h.length (vs.getD i junk) (vs'.getD i junk) := by
    intro vs hvs
    obtain ⟨vs', g1, g2, g3⟩ := run_resL hs ht fn.results.toList hvs
    refine ⟨vs'.toArray, ?_, by simpa using g2, fun i => by simpa [Array.getD_eq_getD_getElem?, List.getD] using g3 i⟩
    rw [Array.mapM_eq_mapM_toList, Sem.run_map, g1]
    rfl
  have e0 : (results fn a'.tmps).run P w = ((fn.results.mapM (fun | .tmp t => pure (a'.tmps.getD t undef) | .cell p t => do loadVar t (← asAddr (a'.tmps.getD p undef)) : ResultVar → Sem Value)).run P w).andThen
      fun vs w' => (pure (if h : vs.size = 1 then vs[0] else .tuple vs) : Sem Value).run P w' := by
    unfold results
    exact Sem.run_bind P w _ _
  split at hv
  · rename_i v0 hvs
    cases hv
    obtain ⟨vs', g1, g2, g3⟩ := key _ hvs
    have hsz : vs'.size = 1 := by simpa using g2.symm
    refine ⟨vs'[0], ?_, ?_⟩
    · rw [e0, g1, Result.andThen_ok]
      simp [hsz]
    · have := g3 0
      simpa [Array.getD, hsz] using this
  · rename_i vs hne hvs
    cases hv
    obtain ⟨vs', g1, g2, g3⟩ := key _ hvs
    have hsz : ¬ vs'.size = 1 := by
      intro e
      rw [e] at g2
      match vs, g2 with
      | [x], _ => exact hne x rfl
    refine ⟨.tuple vs', ?_, .tuple _ _ (by simpa using g2) (fun i => by simpa [Array.getD_eq_getD_getElem?, List.getD] using g3 i)⟩
    rw [e0, g1, Result.andThen_ok]
    simp [hsz]
  · cases hv
/-- the block that a loop over a function has left is shut -/
theorem Good.shut {P : Program} {f0 f : Emb} {h0 h : AH} {w0 w : World} {a : Array Value} {a' : Act} (g : Good P f0 h0 w0 f a h a' w) {d : Deferred} {ds : List Deferred} (e : a'.defers = d :: ds) :
    ∃ D, d.target = .collected D ∧ (Instr.takeDeferred D).run P w = .ok [] (w.putObj D (.deferred none)) ∧ Good P f0 h0 w0 f a h { a' with defers := ds } (w.putObj D (.deferred none)) := by
  obtain ⟨D, hd, h1, h2, h3⟩ := g.df.each d (by rw [e]; simp)
  have hlt : D < w.heap.size := (Array.getElem?_eq_some_iff.1 h2).1
  have hoth : ∀ {k : Nat}, k ≠ D → (w.putObj D (.deferred none)).heap[k]? = w.heap[k]? := fun hk => World.putObj_heap_other hk
  have hal : ∀ (b : Nat) (o : AObj), h[b]? = some o → o.alive = true → (f b).blk ≠ D := fun b o hb ha he => by
    obtain ⟨o', k1, k2⟩ := g.sim.obj b o hb ha
    rw [he, h2] at k1; cases k1
    cases o with
    | dead => cases ha
    | cells c es rw => obtain ⟨c', el, fr, k3, _⟩ := k2; cases k3
    | map k es clock => obtain ⟨es', k3, _⟩ := k2; cases k3
    | miter m s seen st => obtain ⟨_, m', k3, _⟩ := k2; cases k3
  refine ⟨D, by rw [hd], run_takeDeferred h2, ⟨fun b o hb ha => ?_, g.sim.sep, g.sim.glob, g.sim.size, fun r ds' hr => ?_, g.sim.laid, g.sim.ok⟩, g.tm, ⟨fun d' hd' => ?_, ?_⟩, ⟨g.keep.os, g.keep.tape, g.keep.output, by simpa using g.keep.size, fun r hr hno => ?_, g.keep.drawn⟩, g.own, g.agree, g.len⟩
  · obtain ⟨o', k1, k2⟩ := g.sim.obj b o hb ha
    exact ⟨o', (hoth (hal b o hb ha)).trans k1, k2⟩
  · obtain ⟨⟨el, fr, k1⟩, k2⟩ := g.sim.rom r ds' hr
    refine ⟨⟨el, fr, (hoth fun he => ?_).trans k1⟩, k2⟩
    rw [he, h2] at k1; cases k1
  · obtain ⟨D', k1, k2, k3, k4⟩ := g.df.each d' (by rw [e]; simp [show d' ∈ ds from hd'])
    refine ⟨D', k1, k2, (hoth fun he => ?_).trans k3, k4⟩
    have hn := g.df.apart
    rw [e, List.nodup_cons] at hn
    exact hn.1 (by rw [hd, ← he, ← k1]; exact hd')
  · have hn := g.df.apart
    rw [e, List.nodup_cons] at hn
    exact hn.2
  · rw [hoth (by omega)]; exact g.keep.block r hr hno
theorem Good.leaves {P : Program} {f0 : Emb} {h0 : AH} {w0 : World} {fn : Func} {R : Ending → World → Prop} {f : Emb} {a : Array Value} {h : AH} : ∀ (ds : List Deferred) {a' : Act} {w : World}, a'.defers = ds → Good P f0 h0 w0 f a h a' w →
    (∀ a'' w1, Good P f0 h0 w0 f a h a'' w1 → a''.tmps = a'.tmps → ∃ v, (results fn a''.tmps).run P w1 = .ok v w1 ∧ R (.returned v) w1) → LeavesInM Fence.wide 0 P fn a'.tmps R ds .returning w
  | [], a', w, _, g, hk => hk a' w g rfl
  | d :: ds, a', w, e, g, hk => by
    obtain ⟨D, h1, h2, g1⟩ := g.shut e
    exact ⟨by simp, .inl ⟨D, _, h1, h2, Good.leaves ds (a' := { a' with defers := ds }) rfl g1 hk⟩⟩
theorem ACalls.of_awp {P : Program} {F : FuncId} {fn : Func} {c : Code} (hf : P.funcs[F]? = some fn) (hb : fn.body = some c) {args : Array Value} {h : AH} {R : Value → AH → Prop} (inh : ∃ v h', R v h')
    (ha : AWP P h c (apost P h fn R) (args ++ Array.replicate (fn.ntmps - args.size) undef) h) : ACalls P F args h R := by
  refine ⟨inh, fun f w args' s0 hargs => ?_⟩
  have g : Good P f h w f (args ++ Array.replicate (fn.ntmps - args.size) undef) h { tmps := args' ++ Array.replicate (fn.ntmps - args'.size) undef, defers := [] } w := by
    refine ⟨s0, ?_, .nil, Keep.refl _ _ _, fun b o hb ho => .inr ⟨b, o, hb, ho, rfl⟩, .refl _ _, Nat.le_refl _⟩
    refine arel_append hargs ?_
    rw [hargs.1]
    refine ⟨rfl, fun i => ?_⟩
    by_cases hi : i < fn.ntmps - args'.size
    · have : (Array.replicate (fn.ntmps - args'.size) undef).getD i junk = undef := by simp [Array.getD, hi]
      rw [this]; exact undef_rel
    · rw [getD_ge i (by simpa using hi)]; exact .junk _
  refine (callsIn_wide (n := 0)).1 (callsIn_of_wp_marks hf hb trivial (Go.wpIn_mono (ha f w f _ w s0 g none trivial) fun e a1 w1 hq => ?_))
  have fin : ∀ (f1 : Emb) (b : Array Value) (h1 : AH), (∃ v v1 h2, aresults P fn b h1 = some v ∧ Eases P h #[v] h1 #[v1] h2 ∧ R v1 h2) → Good P f h w f1 b h1 a1 w1 →
      LeavesInM Fence.wide 0 P fn a1.tmps (fun e w' => ∃ f' v v' h', e = .returned v' ∧ R v h' ∧ Step P f h w f' h' w' ∧ VRel f' h'.length v v') a1.defers .returning w1 := by
    intro f1 b h1 hx g0
    obtain ⟨v, v1, h2, hv, hfg, hR⟩ := hx
    refine Good.leaves _ rfl g0 fun a1 w1 g1 _ => ?_
    obtain ⟨v', k1, k2⟩ := run_results g1.sim g1.tm hv
    have g2 : Good P f h w f1 #[v] h1 { tmps := #[v'], defers := [] } w1 := ⟨g1.sim, ⟨rfl, fun i => by
      cases i with
      | zero => exact k2
      | succ i => simp [Array.getD]; exact .junk _⟩, .nil, g1.keep, g1.own, g1.agree, g1.len⟩
    obtain ⟨f2, g3⟩ := hfg f w f1 _ w1 s0 g2
    exact ⟨v', k1, f2, v1, v', h2, rfl, hR, ⟨g3.sim, g3.agree, g3.len, g3.keep, g3.own⟩, by simpa using g3.tm.2 0⟩
  cases e with
  | normal => obtain ⟨f1, b, h1, hk, g1⟩ := hq; exact fin f1 b h1 hk g1
  | ret => obtain ⟨f1, b, h1, hk, g1⟩ := hq; exact fin f1 b h1 hk g1
  | exit id => obtain ⟨f1, b, h1, hk, g1⟩ := hq; exact hk.elim
  | goto l => obtain ⟨f1, b, h1, hk, g1⟩ := hq; exact hk.elim
  | panic c => exact hq.elim
  | outgrown => exact hq.elim
end Go.Am

set_option linter.unusedVariables false
set_option linter.unusedSimpArgs false
/- Equations by which code is run on an abstract heap. -/
namespace Go.Am
open Go
theorem getD_lit (l : List Value) (i : Nat) : (l.toArray).getD i junk = l.getD i junk := by simp [Array.getD_eq_getD_getElem?, List.getD]
theorem aput_lit (l : List Value) (d : Nat) (v : Value) : aput l.toArray (some d) v = (l.set d v).toArray := by simp [aput]
theorem aput_none (a : Array Value) (v : Value) : aput a none v = a := rfl
section
variable {P : Program} {ops : Array Oper} {Q : Exit → Array Value → AH → Prop} {rest : List Oper} {a : Array Value} {h : AH} {ρ : Operand → Value} {dst : Option Tmp} {ty : TypeId} {pos : String} {after : Array Edge} {guard : Option (Nat × Bool)}
/-- what follows an operation -/
def astep (P : Program) (ops : Array Oper) (Q : Exit → Array Value → AH → Prop) (rest : List Oper) (dst : Option Tmp) (a : Array Value) (h : AH) : Option ARes → Prop
  | some (.val v h1) => awl P ops Q rest (aput a dst v) h1
  | some (.skip h1) => awl P ops Q rest (aput a dst undef) h1
  | some (.enter F args) => ∃ R, ACalls P F args h R ∧ ∀ v h1, R v h1 → awl P ops Q rest (aput a dst v) h1
  | some (.any S) => ∀ v h1, S v h1 → awl P ops Q rest (aput a dst v) h1
  | none => False
theorem awl_nil : awl P ops Q [] a h = Q .normal a h := rfl
theorem awl_cons {op : Op} : awl P ops Q (⟨dst, op, ty, pos, after, none⟩ :: rest) a h = astep P ops Q rest dst a h (aop P (aeval P a) h ⟨dst, op, ty, pos, after, none⟩) := by
  simp only [awl, gval]
  unfold astep
  rfl
def agate (P : Program) (ops : Array Oper) (Q : Exit → Array Value → AH → Prop) (rest : List Oper) (o : Oper) (a : Array Value) (h : AH) : Option Bool → Prop
  | some false => awl P ops Q rest (aput a o.dst undef) h
  | some true => astep P ops Q rest o.dst a h (aop P (aeval P a) h o)
  | none => False
theorem awl_guard {op : Op} {gd : Nat × Bool} : awl P ops Q (⟨dst, op, ty, pos, after, some gd⟩ :: rest) a h = agate P ops Q rest ⟨dst, op, ty, pos, after, some gd⟩ a h (gval ops a ⟨dst, op, ty, pos, after, some gd⟩) := by
  simp only [awl]
  unfold agate astep
  rfl
theorem agate_false {o : Oper} : agate P ops Q rest o a h (some false) = awl P ops Q rest (aput a o.dst undef) h := rfl
theorem agate_true {o : Oper} : agate P ops Q rest o a h (some true) = astep P ops Q rest o.dst a h (aop P (aeval P a) h o) := rfl
theorem astep_val {v : Value} {h1 : AH} : astep P ops Q rest dst a h (some (.val v h1)) = awl P ops Q rest (aput a dst v) h1 := rfl
theorem astep_skip {h1 : AH} : astep P ops Q rest dst a h (some (.skip h1)) = awl P ops Q rest (aput a dst undef) h1 := rfl
theorem aop_move {x : Operand} : aop P ρ h ⟨dst, .move x, ty, pos, after, guard⟩ = some (.val (ρ x) h) := rfl
theorem aop_assign {x : Operand} : aop P ρ h ⟨dst, .assign x, ty, pos, after, guard⟩ = some (.val (ρ x) h) := rfl
def apick (h : AH) (x y : Value) : Value → Option ARes
  | .bool t => some (.val (if t then x else y) h)
  | _ => none
theorem aop_pick {c x y : Operand} : aop P ρ h ⟨dst, .pick c x y, ty, pos, after, guard⟩ = apick h (ρ x) (ρ y) (ρ c) := by
  simp only [aop]; unfold apick; rfl
theorem apick_bool {x y : Value} {t : Bool} : apick h x y (.bool t) = some (.val (if t then x else y) h) := rfl
theorem aop_alloc {e : TypeId} : aop P ρ h ⟨dst, .alloc e, ty, pos, after, guard⟩ = avalh (aalloc P h e) := rfl
theorem aop_box {e : TypeId} {x : Operand} : aop P ρ h ⟨dst, .box e x, ty, pos, after, guard⟩ = avalh (abox h (ρ x)) := rfl
theorem aop_build {t : TypeId} {ps : List (Nat × Operand)} : aop P ρ h ⟨dst, .build t ps.toArray, ty, pos, after, guard⟩ = aval h (abuild P t (ps.map fun (i, x) => (i, ρ x))) := rfl
theorem aop_buildSlice {t : TypeId} {n : Nat} {ps : List (Nat × Operand)} : aop P ρ h ⟨dst, .buildSlice t n ps.toArray, ty, pos, after, guard⟩ = avalh (abuildSlice P h t n (ps.map fun (i, x) => (i, ρ x))) := rfl
theorem aop_load {t : TypeId} {x : Operand} : aop P ρ h ⟨dst, .load t x, ty, pos, after, guard⟩ = aval h (aload P h t (ρ x)) := rfl
theorem aop_store {t : TypeId} {x y : Operand} : aop P ρ h ⟨dst, .store t x y, ty, pos, after, guard⟩ = askip (astore P h t (ρ x) (ρ y)) := rfl
theorem aop_nilCheck {x : Operand} : aop P ρ h ⟨dst, .nilCheck x, ty, pos, after, guard⟩ = aval h (anilCheck (ρ x)) := rfl
theorem aop_binOp {op : BinOp} {t u : TypeId} {x y : Operand} : aop P ρ h ⟨dst, .binOp op t x y u, ty, pos, after, guard⟩ = aval h (abinOp P op t x y (ρ x) (ρ y)) := rfl
theorem aop_unOp {op : UnOp} {t : TypeId} {x : Operand} : aop P ρ h ⟨dst, .unOp op t x, ty, pos, after, guard⟩ = aval h (aunOp P op (ρ x)) := rfl
theorem aop_convert {s d : TypeId} {x : Operand} : aop P ρ h ⟨dst, .convert s d x, ty, pos, after, guard⟩ = avalh (aconvert P h s d (ρ x)) := rfl
theorem aop_makeFunc {F : FuncId} {xs cs : List Operand} : aop P ρ h ⟨dst, .makeFunc (.func F) xs.toArray cs.toArray, ty, pos, after, guard⟩ = some (.val (.func (.func F) (xs.map ρ).toArray (cs.map ρ).toArray) h) := by
  simp only [aop, amakeFunc, aval, List.map_toArray]
theorem aop_makeMap {t : TypeId} : aop P ρ h ⟨dst, .makeMap t none, ty, pos, after, guard⟩ = avalh (amMake P h t) := rfl
theorem aop_slice {t : TypeId} {x : Operand} {lo hi : Option Operand} : aop P ρ h ⟨dst, .slice t x lo hi none, ty, pos, after, guard⟩ = aval h (aslice P h t (ρ x) (lo.map ρ) (hi.map ρ)) := rfl
theorem aop_fieldAddr {t : TypeId} {x : Operand} {k : Nat} : aop P ρ h ⟨dst, .fieldAddr t x k, ty, pos, after, guard⟩ = aval h (afieldAddr P t (ρ x) k) := rfl
theorem aop_field {t : TypeId} {x : Operand} {k : Nat} : aop P ρ h ⟨dst, .field t x k, ty, pos, after, guard⟩ = aval h (afield P t (ρ x) k) := rfl
theorem aop_indexAddr {t : TypeId} {x i : Operand} : aop P ρ h ⟨dst, .indexAddr t x i, ty, pos, after, guard⟩ = aval h (aindexAddr P t (ρ x) (ρ i)) := rfl
theorem aop_extract {x : Operand} {k : Nat} : aop P ρ h ⟨dst, .extract x k, ty, pos, after, guard⟩ = aval h (aextract (ρ x) k) := rfl
theorem aop_call {f : Operand} {args : List Operand} {ts : Array TypeId} : aop P ρ h ⟨dst, .call ⟨.value f, args.toArray, ts⟩, ty, pos, after, guard⟩ = acall P h (ρ f) (args.map ρ).toArray := by
  simp only [aop, List.map_toArray]
theorem aop_len {x : Operand} {t : TypeId} : aop P ρ h ⟨dst, .call ⟨.builtin .len, #[x], #[t]⟩, ty, pos, after, guard⟩ = aval h (alen P h t (ρ x)) := by simp [aop, abuiltin]
theorem aop_append {x y : Operand} {t u : TypeId} : aop P ρ h ⟨dst, .call ⟨.builtin .append, #[x, y], #[t, u]⟩, ty, pos, after, guard⟩ = avalh (aappend P h t u (ρ x) (ρ y)) := by simp [aop, abuiltin]
theorem aop_clear {x : Operand} {t : TypeId} : aop P ρ h ⟨dst, .call ⟨.builtin .clear, #[x], #[t]⟩, ty, pos, after, guard⟩ = avalh (aclear P h t (ρ x)) := by simp [aop, abuiltin]
theorem aop_delete {x y : Operand} {t u : TypeId} : aop P ρ h ⟨dst, .call ⟨.builtin .delete, #[x, y], #[t, u]⟩, ty, pos, after, guard⟩ = avalh (amDelete P h t (ρ x) (ρ y)) := by simp [aop, abuiltin]
theorem aop_lookup {t : TypeId} {x i : Operand} {ok : Bool} : aop P ρ h ⟨dst, .lookup t x i ok, ty, pos, after, guard⟩ = aval h (amLookup P h t (ρ x) (ρ i) ok) := rfl
theorem aop_mapUpdate {t : TypeId} {m k x : Operand} : aop P ρ h ⟨dst, .mapUpdate t m k x, ty, pos, after, guard⟩ = askip (amUpdate P h t (ρ m) (ρ k) (ρ x)) := rfl
theorem aop_mapEntry {t : TypeId} {m k : Operand} : aop P ρ h ⟨dst, .mapEntry t m k, ty, pos, after, guard⟩ = avalh (amEntry P h t (ρ m) (ρ k)) := rfl
theorem aop_entryStore {t : TypeId} {m s x : Operand} : aop P ρ h ⟨dst, .entryStore t m s x, ty, pos, after, guard⟩ = askip (amEntryStore h (ρ m) (ρ s) (ρ x)) := rfl
theorem aop_range {t : TypeId} {x : Operand} : aop P ρ h ⟨dst, .range t x, ty, pos, after, guard⟩ = avalh (amRange P h t (ρ x)) := rfl
theorem aop_next {x : Operand} : aop P ρ h ⟨dst, .next x false, ty, pos, after, guard⟩ = amNext h (ρ x) := rfl
theorem aop_entry {x : Operand} : aop P ρ h ⟨dst, .entry x, ty, pos, after, guard⟩ = aval h (amEntryOf h (ρ x)) := rfl
theorem astep_any {S : Value → AH → Prop} : astep P ops Q rest dst a h (some (.any S)) = ∀ v h1, S v h1 → awl P ops Q rest (aput a dst v) h1 := rfl
theorem aval_val {v : Value} : aval h (some v) = some (.val v h) := rfl
theorem avalh_val {v : Value} : avalh (some (v, h)) = some (.val v h) := rfl
theorem askip_skip : askip (some h) = some (.skip h) := rfl
theorem aeval_tmp (t : Nat) : aeval P a (.tmp t) = a.getD t junk := rfl
theorem aeval_func (F : FuncId) : aeval P a (.func F) = .func (.func F) #[] #[] := rfl
theorem aeval_int (k : IntKind) (n : Int) : aeval P a (.const (.int k n)) = .int k n := rfl
theorem aeval_bool (b : Bool) : aeval P a (.const (.bool b)) = .bool b := rfl
theorem aeval_string (s : ByteArray) : aeval P a (.const (.string s)) = .string s := rfl
theorem aeval_nilSlice (l c : Nat) : aeval P a (.const (.slice none l c)) = .slice none l c := rfl
theorem aeval_nilFunc : aeval P a (.const .nilFunc) = .nilFunc := rfl
theorem aeval_nilPtr : aeval P a (.const (.pointer none)) = .pointer none := rfl
/-- a comparison of bytes -/
theorem acall_compare {F : FuncId} {x y : Value} (hb : hasBody P F = false) (hc : isCompare P F = true) : acall P h (.func (.func F) #[] #[]) #[x, y] = aval h (acompare h x y) := by
  simp [acall, hb, aextern, hc]
theorem acall_func {F : FuncId} {xs cs args : List Value} (hb : hasBody P F = true) : acall P h (.func (.func F) xs.toArray cs.toArray) args.toArray = some (.enter F (xs ++ args ++ cs).toArray) := by
  simp only [acall, hb, if_true, List.append_toArray]
/-! numbers -/
variable {t : TypeId} {x y : Operand} {k k' : IntKind} {m n : Int}
theorem abin_add : abinOp P .add t x y (.int k m) (.int k n) = some (.int k (k.wrap (m + n))) := by simp [abinOp, aint]
theorem abin_sub : abinOp P .sub t x y (.int k m) (.int k n) = some (.int k (k.wrap (m - n))) := by simp [abinOp, aint]
theorem abin_quo (h : n ≠ 0) : abinOp P .quo t x y (.int k m) (.int k n) = some (.int k (k.wrap (m.tdiv n))) := by simp [abinOp, aint, h]
theorem abin_eql : abinOp P .eql t x y (.int k m) (.int k n) = some (.bool (m == n)) := by simp [abinOp, aint]
theorem abin_neq : abinOp P .neq t x y (.int k m) (.int k n) = some (.bool (m != n)) := by simp [abinOp, aint]
theorem abin_lss : abinOp P .lss t x y (.int k m) (.int k n) = some (.bool (decide (m < n))) := by simp [abinOp, aint]
theorem abin_leq : abinOp P .leq t x y (.int k m) (.int k n) = some (.bool (decide (m ≤ n))) := by simp [abinOp, aint]
theorem abin_gtr : abinOp P .gtr t x y (.int k m) (.int k n) = some (.bool (decide (n < m))) := by simp [abinOp, aint]
theorem abin_geq : abinOp P .geq t x y (.int k m) (.int k n) = some (.bool (decide (n ≤ m))) := by simp [abinOp, aint]
theorem aun_not {b : Bool} : aunOp P .not (.bool b) = some (.bool !b) := rfl
/-! the code -/
variable {h0 : AH}
theorem thenA_normal {next : Array Value → AH → Prop} : thenA next Q .normal a h = next a h := rfl
theorem thenA_ret {next : Array Value → AH → Prop} : thenA next Q .ret a h = Q .ret a h := rfl
theorem thenA_exit {next : Array Value → AH → Prop} {id : Nat} : thenA next Q (.exit id) a h = Q (.exit id) a h := rfl
theorem inBlockA_normal {id : Nat} : inBlockA id Q .normal a h = Q .normal a h := rfl
theorem inBlockA_ret {id : Nat} : inBlockA id Q .ret a h = Q .ret a h := rfl
theorem inBlockA_exit {id id' : Nat} : inBlockA id Q (.exit id') a h = if id' = id then Q .normal a h else Q (.exit id') a h := rfl
end
end Go.Am

set_option linter.unusedVariables false
set_option linter.unusedSimpArgs false
/- Regions that draw their order. -/
namespace Go.Am
open Go
/-- operations that change no heap -/
def isV (P : Program) : Op → Bool
  | .move _ | .assign _ | .pick .. | .build .. | .load .. | .nilCheck _ | .binOp .. | .unOp .. | .sliceToArrayPointer .. | .makeInterface .. | .makeFunc .. | .slice .. | .lookup .. | .entry .. | .fieldAddr .. | .field .. | .indexAddr .. | .index .. | .extract .. => true
  | .convert _ d _ => match P.underlying d with | some (.int _) => true | _ => false
  | .call { callee := .builtin .len, .. } => true
  | .call { callee := .builtin .min, .. } | .call { callee := .builtin .max, .. } => true
  | .call { callee := .builtin .unsafeSliceData, .. } => true
  | _ => false
/-- those among them that read it -/
def isLoad : Op → Bool
  | .load .. | .slice .. | .lookup .. | .entry .. => true
  | .call { callee := .builtin .len, .. } => true
  | _ => false
/-- operations that may write what was there -/
def isWriter : Op → Bool
  | .store .. | .call { callee := .builtin .append, .. } | .call { callee := .builtin .copy, .. } | .mapUpdate .. | .insert .. | .mapEntry .. | .entryStore .. | .next .. | .call { callee := .builtin .delete, .. } | .call { callee := .builtin .clear, .. } | .call { callee := .builtin .unsafeString, .. } => true
  | _ => false
/-- a look at a map that a mapEntry of the same type does not turn -/
def softOf (t : TypeId) : Op → Bool
  | .lookup t' _ _ false => t' == t
  | _ => false
def isEntry (t : TypeId) : Op → Bool
  | .mapEntry t' _ _ => t' == t
  | _ => false
def softPair (x i : Op) : Bool :=
  match i with
  | .mapEntry t _ _ => softOf t x
  | _ => false
theorem aop_congr {P : Program} {ρ ρ' : Operand → Value} {h : AH} (o : Oper) (hρ : ∀ x ∈ o.op.operands, ρ x = ρ' x) : aop P ρ h o = aop P ρ' h o := by
  obtain ⟨dst, op, type, pos, after, guard⟩ := o
  have pairs : ∀ ps : Array (Nat × Operand), (∀ x ∈ ps.map (·.2), ρ x = ρ' x) → (ps.toList.map fun (i, x) => (i, ρ x)) = (ps.toList.map fun (i, x) => (i, ρ' x)) := fun ps hp =>
    List.map_congr_left fun p hm => by
      obtain ⟨i, x⟩ := p
      simp only [hp x (Array.mem_map.2 ⟨(i, x), by simpa using hm, rfl⟩)]
  cases op <;> simp only [Op.operands] at hρ <;> simp only [aop]
  case build t ps => rw [pairs ps fun x hx => hρ x (by simpa using hx)]
  case buildSlice t n ps => rw [pairs ps fun x hx => hρ x (by simpa using hx)]
  case makeFunc fn first captured =>
    rw [Array.map_congr_left (xs := first) fun x hx => hρ x (by simp [hx]), Array.map_congr_left (xs := captured) fun x hx => hρ x (by simp [hx])]
  case call c =>
    have hargs : c.args.map ρ = c.args.map ρ' := Array.map_congr_left fun x hx => hρ x (by simp [Call.operands, hx])
    cases hc : c.callee with
    | value f => have hf : ρ f = ρ' f := hρ f (by simp [Call.operands, hc]); simp only [hargs, hf]
    | invoke r m => rfl
    | builtin b => simp only [hargs]
  case makeMap t r => cases r <;> rfl
  case next it str => cases str <;> simp_all [amore]
  case slice t x lo hi mx => cases lo <;> cases hi <;> cases mx <;> simp_all [amore]
  all_goals (first | rfl | (simp_all; done))
theorem aeval_aput {P : Program} {a : Array Value} {dst : Option Tmp} {v : Value} {x : Operand} (h : ∀ d, dst = some d → x ≠ .tmp d) : aeval P (aput a dst v) x = aeval P a x := by
  cases dst with
  | none => rfl
  | some d =>
    cases x with
    | tmp t =>
      have hne : d ≠ t := fun e => h d rfl (e ▸ rfl)
      simp only [aeval, aput, Array.getD_eq_getD_getElem?, Array.getElem?_setIfInBounds_ne hne]
    | _ => rfl
theorem aop_aput {P : Program} {ops : Array Oper} {a : Array Value} {h : AH} (o : Oper) (dst : Option Tmp) (v : Value) (hd : ∀ d, dst = some d → d ∉ o.looksAt ops) : aop P (aeval P (aput a dst v)) h o = aop P (aeval P a) h o :=
  aop_congr o fun x hx => aeval_aput fun d hd' hxd => hd d hd' (by
    subst hxd
    exact List.mem_append_left _ (List.mem_filterMap.2 ⟨.tmp d, by simpa using hx, rfl⟩))
theorem gval_aput {ops : Array Oper} {a : Array Value} (o : Oper) (dst : Option Tmp) (v : Value) (hd : ∀ d, dst = some d → d ∉ o.looksAt ops) : gval ops (aput a dst v) o = gval ops a o := by
  cases dst with
  | none => rfl
  | some d =>
    unfold gval
    cases hg : o.guard with
    | none => rfl
    | some gw =>
      obtain ⟨j, want⟩ := gw
      simp only
      cases ht : (ops[j]?).bind (·.dst) with
      | none => rfl
      | some t =>
        have hne : d ≠ t := fun e => hd d rfl (by subst e; simp [Oper.looksAt, hg, ht])
        simp only [aput, Array.getD_eq_getD_getElem?, Array.getElem?_setIfInBounds_ne hne]
theorem aput_comm (a : Array Value) {x y : Option Tmp} (v u : Value) (h : ∀ d, x = some d → y ≠ some d) : aput (aput a x v) y u = aput (aput a y u) x v := by
  cases x with
  | none => rfl
  | some d =>
    cases y with
    | none => rfl
    | some e =>
      have hne : d ≠ e := fun he => h d rfl (he ▸ rfl)
      simp [aput, Array.setIfInBounds_comm _ _ hne]
/-- what was there when the region began is there -/
def Pres (H0 h : AH) : Prop := ∀ b, b < H0.length → h[b]? = H0[b]?
theorem isV_val {P : Program} {ρ : Operand → Value} {h : AH} {o : Oper} (hv : isV P o.op = true) {r : ARes} (ha : aop P ρ h o = some r) : ∃ v, r = .val v h := by
  obtain ⟨dst, op, type, pos, after, guard⟩ := o
  cases op <;> simp only [isV] at hv <;> simp only [aop] at ha <;> (try (cases hv; done)) <;> (try (cases ha; exact ⟨_, rfl⟩)) <;> (try (exact (aval_some ha).elim fun v h1 => ⟨v, h1.2⟩))
  case pick c a b => split at ha <;> cases ha; exact ⟨_, rfl⟩
  case convert s d x =>
    obtain ⟨v, h2, h1, rfl⟩ := avalh_some ha
    split at hv
    · rename_i k hk
      unfold aconvert at h1
      rw [hk] at h1
      split at h1 <;> first | (cases h1; exact ⟨_, rfl⟩) | (rename_i he; cases he) | (rename_i he _; cases he) | (rename_i he _ _; cases he) | cases h1
    · cases hv
  case slice t x lo hi mx =>
    cases mx with
    | some m => simp [amore] at ha
    | none => obtain ⟨v, _, h1⟩ := aval_some ha; exact ⟨v, h1⟩
  case call c =>
    split at ha
    · rename_i fo hfo
      obtain ⟨cal, args, ts⟩ := c
      cases hfo
      cases hv
    · rename_i b hb
      obtain ⟨cal, args, ts⟩ := c
      cases hb
      cases b <;> simp only at hv <;> (try (cases hv; done))
      case min =>
        simp only [abuiltin] at ha
        split at ha
        · exact (aval_some ha).elim fun v h1 => ⟨v, h1.2⟩
        · cases ha
      case max =>
        simp only [abuiltin] at ha
        split at ha
        · exact (aval_some ha).elim fun v h1 => ⟨v, h1.2⟩
        · cases ha
      case unsafeSliceData =>
        unfold abuiltin at ha
        split at ha <;> first | (exact (aval_some ha).elim fun v h1 => ⟨v, h1.2⟩) | (rename Builtin.unsafeSliceData = _ => he; cases he) | cases ha
      unfold abuiltin at ha
      split at ha <;> first | (exact (aval_some ha).elim fun v h1 => ⟨v, h1.2⟩) | (rename Builtin.len = _ => he; cases he) | cases ha
    · cases ha
theorem vop_pure {P : Program} {ρ : Operand → Value} {h h2 : AH} {o : Oper} (hv : isV P o.op = true) (hl : isLoad o.op = false) {v : Value} (ha : aop P ρ h o = some (.val v h)) : aop P ρ h2 o = some (.val v h2) := by
  have key : ∀ (x : Option Value), aval h x = some (.val v h) → aval h2 x = some (.val v h2) := by
    intro x hx
    obtain ⟨u, rfl, h1⟩ := aval_some hx
    cases h1
    rfl
  obtain ⟨dst, op, type, pos, after, guard⟩ := o
  cases op <;> simp only [isV] at hv <;> simp only [isLoad] at hl <;> simp only [aop] at ha ⊢ <;> (try (cases hv; done)) <;> (try (cases hl; done)) <;> (try (exact key _ ha)) <;> (try (cases ha; rfl))
  case pick c a b => split at ha <;> cases ha; rfl
  case convert s d x =>
    obtain ⟨u, h3, h1, h4⟩ := avalh_some ha
    cases h4
    split at hv
    · rename_i k hk
      have : aconvert P h2 s d (ρ x) = some (v, h2) := by
        unfold aconvert at h1 ⊢
        rw [hk] at h1 ⊢
        split at h1 <;> first | (cases h1; simp_all; done) | (rename_i he; cases he) | (rename_i he _; cases he) | (rename_i he _ _; cases he) | cases h1
      rw [this]
      rfl
    · cases hv
  case call c =>
    obtain ⟨cal, args, ts⟩ := c
    cases cal with
    | builtin b =>
      cases b <;> (try (simp_all; done))
      case min =>
        simp only [abuiltin] at ha ⊢
        split at ha
        · rename_i hp; rw [if_pos hp]; exact key _ ha
        · cases ha
      case max =>
        simp only [abuiltin] at ha ⊢
        split at ha
        · rename_i hp; rw [if_pos hp]; exact key _ ha
        · cases ha
      case unsafeSliceData =>
        change abuiltin P h .unsafeSliceData ts type (args.map ρ) = _ at ha
        change abuiltin P h2 .unsafeSliceData ts type (args.map ρ) = _
        unfold abuiltin at ha ⊢
        split at ha <;> (try (rename Builtin.unsafeSliceData = _ => he; cases he; done)) <;> (try (cases ha; done))
        exact key _ ha
    | _ => cases hv
theorem vop_load {P : Program} {ρ : Operand → Value} {H0 h : AH} (hp : Pres H0 h) {o : Oper} (hl : isLoad o.op = true) {v : Value} (ha : aop P ρ H0 o = some (.val v H0)) : aop P ρ h o = some (.val v h) := by
  have hget : ∀ (b : Nat) (x : AObj), H0[b]? = some x → h[b]? = some x := fun b x hb => by rw [hp b (List.getElem?_eq_some_iff.1 hb).1]; exact hb
  obtain ⟨dst, op, type, pos, after, guard⟩ := o
  cases op <;> simp only [isLoad] at hl <;> (try (cases hl; done)) <;> simp only [aop] at ha ⊢
  case load t a =>
    obtain ⟨u, h1, h2⟩ := aval_some ha
    cases h2
    have : aload P h t (ρ a) = some v := by
      unfold aload at h1 ⊢
      split at h1
      · rename_i b o' heq
        split at h1
        · rename_i c es rw hb
          simp only [hget _ _ hb]
          exact h1
        · cases h1
      · exact h1
      · cases h1
    rw [this]; rfl
  case slice t x lo hi mx =>
    cases mx with
    | some m => simp [amore] at ha
    | none =>
      obtain ⟨u, h1, h2⟩ := aval_some ha
      cases h2
      have : aslice P h t (ρ x) (lo.map ρ) (hi.map ρ) = some v := by
        unfold aslice at h1 ⊢
        split at h1
        · exact h1
        · exact h1
        · rename_i e b o' len cap hu heq
          split at h1
          · rename_i ie hie
            unfold asliceS at h1
            split at h1
            · rename_i c es rw hb
              simp only [asliceS, hget _ _ hb]
              exact h1
            · cases h1
          · cases h1
        · exact h1
        · exact h1
        · exact h1
        · cases h1
      show aval h (aslice P h t (ρ x) (lo.map ρ) (hi.map ρ)) = some (.val v h)
      rw [this]; rfl
  case lookup t x i ok =>
    obtain ⟨u, h1, h2⟩ := aval_some ha
    cases h2
    have : amLookup P h t (ρ x) (ρ i) ok = some v := by
      unfold amLookup at h1 ⊢
      split at h1
      case h_2 => cases h1
      split at h1
      case h_2 => cases h1
      split at h1
      case isFalse => cases h1
      rename_i hk
      rw [if_pos hk]
      split at h1
      · exact h1
      · rename_i b hm
        split at h1
        · rename_i k' es clk hb
          simp only [hget _ _ hb]
          exact h1
        · cases h1
      · cases h1
    rw [this]; rfl
  case entry x =>
    obtain ⟨u, h1, h2⟩ := aval_some ha
    cases h2
    have : amEntryOf h (ρ x) = some v := by
      unfold amEntryOf at h1 ⊢
      split at h1
      case h_2 => cases h1
      split at h1
      case h_2 => cases h1
      rename_i hr
      split at h1
      case h_2 => cases h1
      rename_i hb hs
      simp only [hget _ _ hr, hget _ _ hb, hs]
      exact h1
    rw [this]; rfl
  case call c =>
    obtain ⟨cal, args, ts⟩ := c
    cases cal with
    | builtin b =>
      cases b <;> simp only at hl <;> (try (cases hl; done))
      change abuiltin P H0 .len ts type (args.map ρ) = _ at ha
      change abuiltin P h .len ts type (args.map ρ) = _
      unfold abuiltin at ha ⊢
      split at ha <;> (try (rename Builtin.len = _ => he; cases he; done)) <;> (try (cases ha; done))
      rename_i t x heq0 ht hx
      obtain ⟨u, h1, h2⟩ := aval_some ha
      cases h2
      have : alen P h t x = some v := by
        unfold alen at h1 ⊢
        split at h1 <;> (try exact h1)
        rename_i kt et b hu
        split at h1
        · rename_i es clk hb
          simp only [hget _ _ hb]
          exact h1
        · cases h1
      simp only [this]
      rfl
    | _ => cases hl
/-- maps may have got entries that hold nothing -/
def SoftT (P : Program) (t : TypeId) (H0 h : AH) : Prop := ∀ (b : Nat) (o : AObj), H0[b]? = some o → h[b]? = some o ∨
  ∃ (k e : TypeId) (z : Value) (es es' : Array MapEntry) (clk clk' : Nat), P.underlying t = some (.map k e) ∧ zeroOf P e = some z ∧ o = .map k es clk ∧ h[b]? = some (.map k es' clk') ∧ ∀ key, keyed P k key = true → lookK false z key es'.toList = lookK false z key es.toList
theorem SoftT.of_pres {P : Program} {t : TypeId} {H0 h : AH} (hp : Pres H0 h) : SoftT P t H0 h := fun b o hb => .inl (by rw [hp b (List.getElem?_eq_some_iff.1 hb).1]; exact hb)
theorem SoftT.then {P : Program} {t : TypeId} {H0 h h1 : AH} (a : SoftT P t H0 h) (b : SoftT P t h h1) : SoftT P t H0 h1 := by
  intro i o hi
  rcases a i o hi with ha | ⟨k2, e2, z2, es2, es2', clk2, clk2', hu2, hz2, rfl, g3, g4⟩
  · exact b i o ha
  · rcases b i _ g3 with hb | ⟨k, e, z, es, es', clk, clk', hu, hz, h2, h3, h4⟩
    · exact .inr ⟨k2, e2, z2, es2, es2', clk2, clk2', hu2, hz2, rfl, hb, g4⟩
    · rw [hu] at hu2; cases hu2
      rw [hz] at hz2; cases hz2
      cases h2
      exact .inr ⟨_, _, _, es2, es', clk2, clk', hu, hz, rfl, h3, fun key hk => (h4 key hk).trans (g4 key hk)⟩
theorem soft_entry {P : Program} {h h1 : AH} {t : TypeId} {m key v : Value} (hok : ∀ (b : Nat) (o : AObj), h[b]? = some o → o.ok P) (ha : amEntry P h t m key = some (v, h1)) : SoftT P t h h1 := by
  unfold amEntry at ha
  split at ha
  case h_2 => cases ha
  rename_i k e hu
  split at ha
  case h_2 => cases ha
  rename_i z hz
  split at ha
  case isFalse => cases ha
  rename_i hk
  split at ha
  case h_2 => cases ha
  rename_i b
  split at ha
  case h_2 => cases ha
  rename_i k' es clock hb
  split at ha
  case isFalse => cases ha
  rename_i hkk
  subst hkk
  have m := hok b _ hb
  have hlt : b < h.length := (List.getElem?_eq_some_iff.1 hb).1
  have lift : ∀ (es' : Array MapEntry) (clk' : Nat), (∀ key, keyed P k' key = true → lookK false z key es'.toList = lookK false z key es.toList) → SoftT P t h (h.set b (.map k' es' clk')) := by
    intro es' clk' hl i o hi
    by_cases he : b = i
    · subst he
      rw [hb] at hi; cases hi
      exact .inr ⟨k', e, z, es, es', clock, clk', hu, hz, rfl, List.getElem?_set_self hlt, hl⟩
    · exact .inl (by rw [List.getElem?_set_ne he]; exact hi)
  split at ha
  · rename_i j x hx
    cases ha
    refine lift _ _ fun key2 hk2 => ?_
    have := findK_modify hk hk2 (g := fun e => { e with key := key }) (fun _ => rfl) es.toList 0 m.keys hx
    rw [Nat.sub_zero] at this
    unfold lookK
    rw [Array.toList_modify, this]
    by_cases hs : sameKey key key2 = true
    · rw [if_pos hs]
      have := (sameKey_iff hk hk2).1 hs
      subst this
      rw [hx]
    · rw [if_neg hs]
  · rename_i hx
    cases ha
    refine lift _ _ fun key2 hk2 => ?_
    unfold lookK
    rw [Array.toList_push, findK_append]
    cases hf : findK key2 es.toList 0 with
    | some p => rfl
    | none =>
      simp only [findK]
      by_cases hs : sameKey key key2 = true
      · rw [if_pos hs]; rfl
      · rw [if_neg hs]
theorem vop_soft {P : Program} {ρ : Operand → Value} {H0 h : AH} {t : TypeId} (hp : SoftT P t H0 h) {o : Oper} (hl : softOf t o.op = true) {v : Value} (ha : aop P ρ H0 o = some (.val v H0)) : aop P ρ h o = some (.val v h) := by
  obtain ⟨dst, op, type, pos, after, guard⟩ := o
  cases op <;> simp only [softOf] at hl <;> (try (cases hl; done)) <;> simp only [aop] at ha ⊢
  case lookup t' x i ok =>
    cases ok <;> simp only at hl <;> (try (cases hl; done))
    simp only [beq_iff_eq] at hl
    subst hl
    obtain ⟨u, h1, h2⟩ := aval_some ha
    cases h2
    have : amLookup P h t' (ρ x) (ρ i) false = some v := by
      unfold amLookup at h1 ⊢
      split at h1
      case h_2 => cases h1
      rename_i k e hu
      split at h1
      case h_2 => cases h1
      rename_i z hz
      split at h1
      case isFalse => cases h1
      rename_i hk
      rw [if_pos hk]
      split at h1
      · exact h1
      · rename_i b hm
        split at h1
        · rename_i k' es clk hb
          rcases hp b _ hb with h3 | ⟨k2, e2, z2, es2, es', clk2, clk', hu2, hz2, g2, g3, g4⟩
          · simp only [h3]; exact h1
          · rw [hu] at hu2; cases hu2
            rw [hz] at hz2; cases hz2
            cases g2
            simp only [g3]
            simp only [if_true] at h1 ⊢
            have := g4 _ hk
            unfold lookK at this
            rw [← h1]
            cases hf1 : findK (ρ i) es'.toList 0 <;> cases hf2 : findK (ρ i) es.toList 0 <;> rw [hf1, hf2] at this <;> simp only at this ⊢ <;> simp only [lookRes, Bool.false_eq_true, if_false] at this ⊢ <;> rw [this]
        · cases h1
      · cases h1
    rw [this]; rfl
/-! ### a region, in whatever order -/
/-- Does this operation leave alone what was there, axs far axs the operations behind it read it? -/
def leaves (H0 : AH) (rest : List Oper) (o : Oper) (h1 : AH) : Prop := Pres H0 h1 ∨ (isWriter o.op = true ∧ ∀ x ∈ rest, isLoad x.op = true → softPair x.op o.op = true)
def isAlloc : Op → Bool
  | .alloc _ => true
  | _ => false
def hasAlloc (ops : Array Oper) : Bool := ops.toList.any fun o => isAlloc o.op
/-- a call that leaves the heap axs it was, whatever stands behind -/
def Calm (P : Program) (ops : Array Oper) (F : FuncId) (args : Array Value) (h : AH) (R : Value → AH → Prop) : Prop :=
  hasAlloc ops = false ∨ ((∀ v h1, R v h1 → h1 = h) ∧ ∀ x : AH, ACalls P F args (h ++ x) (fun v h1 => R v h ∧ h1 = h ++ x))
/-- a call of a function that has a body -/
def isFn (P : Program) : Op → Bool
  | .call { callee := .value (.func F), .. } => hasBody P F
  | _ => false
/-- operations in the order of the text, such that any order that their edges allow comes to the same -/
def awd (P : Program) (ops : Array Oper) (H0 : AH) (Q : Exit → Array Value → AH → Prop) : List Oper → Array Value → AH → Prop
  | [], a, h => Q .normal a h
  | o :: rest, a, h =>
    match gval ops a o with
    | some false => awd P ops H0 Q rest (aput a o.dst undef) h
    | some true =>
      if isV P o.op then (match aop P (aeval P a) H0 o with
        | some (.val v _) => awd P ops H0 Q rest (aput a o.dst v) h
        | _ => False)
      else match aop P (aeval P a) h o with
      | some (.val v h1) => leaves H0 rest o h1 ∧ awd P ops H0 Q rest (aput a o.dst v) h1
      | some (.skip h1) => leaves H0 rest o h1 ∧ awd P ops H0 Q rest (aput a o.dst undef) h1
      | some (.enter F args) => ∃ R, ACalls P F args h R ∧ Calm P ops F args h R ∧ ∀ v h1, R v h1 → Pres H0 h1 ∧ awd P ops H0 Q rest (aput a o.dst v) h1
      | _ => False
    | none => False
/-- may these two (x ahead of i in the text) be carried out in either order? -/
def swapOk (P : Program) (ops : Array Oper) (x i : Oper) : Bool :=
  x.apart ops i && (((isV P x.op || isV P i.op) && !(isLoad x.op && isWriter i.op && !softPair x.op i.op) && !(isWriter x.op && isLoad i.op && !softPair i.op x.op)) ||
    (isAlloc i.op && i.guard.isNone && isFn P x.op && hasAlloc ops))
theorem aop_at {P : Program} {ops : Array Oper} {a : Array Value} {h : AH} {x i : Oper} (hap : x.apart ops i = true) (v : Value) : aop P (aeval P (aput a x.dst v)) h i = aop P (aeval P a) h i :=
  aop_aput (ops := ops) i x.dst v (Oper.apart_spec hap).1
theorem aop_at' {P : Program} {ops : Array Oper} {a : Array Value} {h : AH} {x i : Oper} (hap : x.apart ops i = true) (v : Value) : aop P (aeval P (aput a i.dst v)) h x = aop P (aeval P a) h x :=
  aop_aput (ops := ops) x i.dst v (Oper.apart_spec hap).2.2
theorem gval_at {ops : Array Oper} {a : Array Value} {x i : Oper} (hap : x.apart ops i = true) (v : Value) : gval ops (aput a x.dst v) i = gval ops a i := gval_aput i x.dst v (Oper.apart_spec hap).1
theorem gval_at' {ops : Array Oper} {a : Array Value} {x i : Oper} (hap : x.apart ops i = true) (v : Value) : gval ops (aput a i.dst v) x = gval ops a x := gval_aput x i.dst v (Oper.apart_spec hap).2.2
theorem aput_at {ops : Array Oper} {a : Array Value} {x i : Oper} (hap : x.apart ops i = true) (v u : Value) : aput (aput a x.dst v) i.dst u = aput (aput a i.dst u) x.dst v := aput_comm a v u (Oper.apart_spec hap).2.1
/-- what one operation does to the frame and the heap, in such a region; 'K' for what follows -/
def awd1 (P : Program) (ops : Array Oper) (H0 : AH) (rest : List Oper) (K : Array Value → AH → Prop) (o : Oper) (a : Array Value) (h : AH) : Prop :=
    match gval ops a o with
    | some false => K (aput a o.dst undef) h
    | some true =>
      if isV P o.op then (match aop P (aeval P a) H0 o with
        | some (.val v _) => K (aput a o.dst v) h
        | _ => False)
      else match aop P (aeval P a) h o with
      | some (.val v h1) => leaves H0 rest o h1 ∧ K (aput a o.dst v) h1
      | some (.skip h1) => leaves H0 rest o h1 ∧ K (aput a o.dst undef) h1
      | some (.enter F args) => ∃ R, ACalls P F args h R ∧ Calm P ops F args h R ∧ ∀ v h1, R v h1 → Pres H0 h1 ∧ K (aput a o.dst v) h1
      | _ => False
    | none => False
theorem awd_cons {P : Program} {ops : Array Oper} {H0 : AH} {Q : Exit → Array Value → AH → Prop} {o : Oper} {rest : List Oper} {a : Array Value} {h : AH} : awd P ops H0 Q (o :: rest) a h = awd1 P ops H0 rest (awd P ops H0 Q rest) o a h := rfl
theorem awd1_map {P : Program} {ops : Array Oper} {H0 : AH} {rest rest' : List Oper} {K K' : Array Value → AH → Prop} {o : Oper} {a a' : Array Value} {h : AH} (hg : gval ops a' o = gval ops a o) (ha : ∀ h, aop P (aeval P a') h o = aop P (aeval P a) h o)
    (hl : ∀ h1, leaves H0 rest o h1 → leaves H0 rest' o h1) (hk : ∀ v h1, K (aput a o.dst v) h1 → K' (aput a' o.dst v) h1) (H : awd1 P ops H0 rest K o a h) : awd1 P ops H0 rest' K' o a' h := by
  unfold awd1 at H ⊢
  rw [hg, ha H0, ha h]
  split at H
  · exact hk _ _ H
  · split at H
    · rename_i hv
      simp only [hv, if_true]
      split at H
      · exact hk _ _ H
      · exact H.elim
    · rename_i hv
      simp only [hv, Bool.false_eq_true, if_false]
      split at H
      · exact ⟨hl _ H.1, hk _ _ H.2⟩
      · exact ⟨hl _ H.1, hk _ _ H.2⟩
      · obtain ⟨R, hc, hcm, hR⟩ := H
        exact ⟨R, hc, hcm, fun v h1 hr => ⟨(hR v h1 hr).1, hk _ _ (hR v h1 hr).2⟩⟩
      · exact H.elim
  · exact H.elim
theorem awd1_some {P : Program} {ops : Array Oper} {H0 : AH} {rest : List Oper} {K : Array Value → AH → Prop} {o : Oper} {a : Array Value} {h : AH} (H : awd1 P ops H0 rest K o a h) : ∃ v h1, K (aput a o.dst v) h1 := by
  unfold awd1 at H
  split at H
  · exact ⟨_, _, H⟩
  · split at H
    · split at H
      · exact ⟨_, _, H⟩
      · exact H.elim
    · split at H
      · exact ⟨_, _, H.2⟩
      · exact ⟨_, _, H.2⟩
      · obtain ⟨R, hc, _, hR⟩ := H
        obtain ⟨v, h1, hr⟩ := hc.inh
        exact ⟨v, h1, (hR v h1 hr).2⟩
      · exact H.elim
  · exact H.elim
theorem awd1_v {P : Program} {ops : Array Oper} {H0 : AH} {rest : List Oper} {K : Array Value → AH → Prop} {o : Oper} {a : Array Value} {h : AH} (hv : isV P o.op = true) :
    awd1 P ops H0 rest K o a h ↔ (gval ops a o = some false ∧ K (aput a o.dst undef) h) ∨ (gval ops a o = some true ∧ ∃ u h2, aop P (aeval P a) H0 o = some (.val u h2) ∧ K (aput a o.dst u) h) := by
  unfold awd1
  constructor
  · intro H
    split at H
    · rename_i hg; exact .inl ⟨hg, H⟩
    · rename_i hg
      rw [if_pos hv] at H
      split at H
      · rename_i u h2 hu; exact .inr ⟨hg, u, h2, hu, H⟩
      · exact H.elim
    · exact H.elim
  · rintro (⟨hg, hk⟩ | ⟨hg, u, h2, hu, hk⟩)
    · rw [hg]; exact hk
    · rw [hg]
      simp only [hv, if_true, hu]
      exact hk
theorem swap_v_any {P : Program} {ops : Array Oper} {H0 : AH} {K : Array Value → AH → Prop} {x i : Oper} {l : List Oper} {a : Array Value} {h : AH} (hap : x.apart ops i = true) (hi : isV P i.op = true) (hw : (isWriter x.op && isLoad i.op && !softPair i.op x.op) = false)
    (H : awd1 P ops H0 (i :: l) (awd1 P ops H0 l K i) x a h) : awd1 P ops H0 (x :: l) (awd1 P ops H0 l K x) i a h := by
  have hlv : ∀ h1, leaves H0 (i :: l) x h1 → leaves H0 l x h1 := fun h1 hl => hl.imp id fun ⟨h2, h3⟩ => ⟨h2, fun y hy => h3 y (List.mem_cons_of_mem _ hy)⟩
  rw [awd1_v hi]
  obtain ⟨v0, h10, hw0⟩ := awd1_some H
  rw [awd1_v hi, gval_at hap, aop_at hap] at hw0
  rcases hw0 with ⟨hg, _⟩ | ⟨hg, u, h2, hu, _⟩
  · refine .inl ⟨hg, awd1_map (gval_at' hap _) (fun _ => aop_at' hap _) hlv (fun v h1 hk => ?_) H⟩
    rw [awd1_v hi, gval_at hap, aop_at hap] at hk
    rcases hk with ⟨_, hk⟩ | ⟨hg2, _⟩
    · rw [← aput_at hap]; exact hk
    · rw [hg] at hg2; cases hg2
  · refine .inr ⟨hg, u, h2, hu, awd1_map (gval_at' hap _) (fun _ => aop_at' hap _) hlv (fun v h1 hk => ?_) H⟩
    rw [awd1_v hi, gval_at hap, aop_at hap] at hk
    rcases hk with ⟨hg2, _⟩ | ⟨_, u2, h3, hu2, hk⟩
    · rw [hg] at hg2; cases hg2
    · rw [hu] at hu2; cases hu2; rw [← aput_at hap]; exact hk
theorem swap_any_v {P : Program} {ops : Array Oper} {H0 : AH} {K : Array Value → AH → Prop} {x i : Oper} {l : List Oper} {a : Array Value} {h : AH} (hap : x.apart ops i = true) (hx : isV P x.op = true) (hw : (isLoad x.op && isWriter i.op && !softPair x.op i.op) = false)
    (H : awd1 P ops H0 (i :: l) (awd1 P ops H0 l K i) x a h) : awd1 P ops H0 (x :: l) (awd1 P ops H0 l K x) i a h := by
  have hlv : ∀ h1, leaves H0 l i h1 → leaves H0 (x :: l) i h1 := fun h1 hl => hl.imp id fun ⟨h2, h3⟩ => ⟨h2, fun y hy => by
    rcases List.mem_cons.1 hy with rfl | hy
    · intro hl
      simpa [h2, hl] using hw
    · exact h3 y hy⟩
  rw [awd1_v hx] at H
  rcases H with ⟨hg, H2⟩ | ⟨hg, u, h2, hu, H2⟩
  · refine awd1_map (gval_at hap _).symm (fun _ => (aop_at hap _).symm) hlv (fun v h1 hk => ?_) H2
    rw [awd1_v hx, gval_at' hap, aop_at' hap]
    rw [aput_at hap] at hk
    exact .inl ⟨hg, hk⟩
  · refine awd1_map (gval_at hap _).symm (fun _ => (aop_at hap _).symm) hlv (fun v h1 hk => ?_) H2
    rw [awd1_v hx, gval_at' hap, aop_at' hap]
    rw [aput_at hap] at hk
    exact .inr ⟨hg, u, h2, hu, hk⟩
theorem isFn_enter {P : Program} {a : Array Value} {x : Oper} (hf : isFn P x.op = true) : isV P x.op = false ∧ ∃ F args, ∀ h, aop P (aeval P a) h x = some (.enter F args) := by
  obtain ⟨dst, op, type, pos, after, guard⟩ := x
  simp only at hf
  unfold isFn at hf
  split at hf
  · rename_i F args ts
    refine ⟨rfl, F, #[] ++ args.map (aeval P a) ++ #[], fun h => ?_⟩
    show acall P h (.func (.func F) #[] #[]) (args.map (aeval P a)) = _
    simp only [acall, hf, if_true]
  · cases hf
theorem isAlloc_val {P : Program} {a a' : Array Value} {i : Oper} (hi : isAlloc i.op = true) : isV P i.op = false ∧ isWriter i.op = false ∧ (∀ h, aop P (aeval P a') h i = aop P (aeval P a) h i) ∧ ∀ h r, aop P (aeval P a) h i = some r → ∃ v z, r = .val v (h ++ [z]) := by
  obtain ⟨dst, op, type, pos, after, guard⟩ := i
  cases op <;> simp only [isAlloc] at hi <;> (try (cases hi; done))
  refine ⟨rfl, rfl, fun h => rfl, fun h r hr => ?_⟩
  obtain ⟨v, h1, h2, rfl⟩ := avalh_some (show avalh (aalloc P h _) = some r from hr)
  unfold aalloc at h2
  split at h2
  · split at h2
    · split at h2
      · unfold abld at h2
        split at h2
        · cases h2; exact ⟨_, _, rfl⟩
        · cases h2
      split at h2
      · cases h2; exact ⟨_, _, rfl⟩
      · cases h2
    · cases h2
  · cases h2
theorem swap_alloc {P : Program} {ops : Array Oper} {H0 : AH} {K : Array Value → AH → Prop} {x i : Oper} {l : List Oper} {a : Array Value} {h : AH} (hap : x.apart ops i = true) (hi : isAlloc i.op = true) (hg : i.guard.isNone = true) (hx : isFn P x.op = true) (hal : hasAlloc ops = true)
    (H : awd1 P ops H0 (i :: l) (awd1 P ops H0 l K i) x a h) : awd1 P ops H0 (x :: l) (awd1 P ops H0 l K x) i a h := by
  have hgi : ∀ b, gval ops b i = some true := fun b => by
    unfold gval
    cases hh : i.guard with
    | none => rfl
    | some p => rw [hh] at hg; cases hg
  obtain ⟨v1, v2, _, v4⟩ := isAlloc_val (P := P) (a := a) (a' := a) hi
  have inner : ∀ b, awd1 P ops H0 l K i b h → ∃ p z, aop P (aeval P a) h i = some (.val p (h ++ [z])) ∧ leaves H0 l i (h ++ [z]) ∧ K (aput b i.dst p) (h ++ [z]) := by
    intro b hb
    obtain ⟨_, _, w3, _⟩ := isAlloc_val (P := P) (a := a) (a' := b) hi
    unfold awd1 at hb
    rw [hgi, v1] at hb
    simp only [Bool.false_eq_true, if_false, w3] at hb
    split at hb
    · rename_i v h1 hv
      obtain ⟨p, z, e⟩ := v4 h _ hv
      cases e
      exact ⟨_, _, hv, hb.1, hb.2⟩
    · rename_i h1 hv
      obtain ⟨p, z, e⟩ := v4 h _ hv
      cases e
    · rename_i F args hv
      obtain ⟨p, z, e⟩ := v4 h _ hv
      cases e
    · exact hb.elim
  have lift : ∀ z, leaves H0 l i (h ++ [z]) → Pres H0 (h ++ [z]) := fun z hl => by
    rcases hl with hl | ⟨hw, _⟩
    · exact hl
    · rw [v2] at hw; cases hw
  have out : ∀ p z, aop P (aeval P a) h i = some (.val p (h ++ [z])) → leaves H0 l i (h ++ [z]) → awd1 P ops H0 l K x (aput a i.dst p) (h ++ [z]) → awd1 P ops H0 (x :: l) (awd1 P ops H0 l K x) i a h := by
    intro p z e1 e2 e3
    unfold awd1
    rw [hgi, v1]
    simp only [Bool.false_eq_true, if_false, e1]
    exact ⟨.inl (lift z e2), e3⟩
  obtain ⟨f1, F, args, f2⟩ := isFn_enter (P := P) (a := a) hx
  unfold awd1 at H
  split at H
  · rename_i hgx
    obtain ⟨p, z, e1, e2, e3⟩ := inner _ H
    refine out p z e1 e2 ?_
    unfold awd1
    rw [gval_at' hap, hgx]
    rw [aput_at hap] at e3
    exact e3
  · rename_i hgx
    rw [f1] at H
    simp only [Bool.false_eq_true, if_false, f2] at H
    obtain ⟨R, hc, hcm, hR⟩ := H
    rcases hcm with hcm | ⟨c1, c2⟩
    · rw [hal] at hcm; cases hcm
    obtain ⟨v0, h0, r0⟩ := hc.inh
    have hR2 : ∀ v, R v h → awd1 P ops H0 l K i (aput a x.dst v) h := fun v hr => (hR v h hr).2
    have r0' : R v0 h := by rw [← c1 v0 h0 r0]; rw [c1 v0 h0 r0]; rw [c1 v0 h0 r0] at r0; exact r0
    obtain ⟨p, z, e1, e2, _⟩ := inner _ (hR2 v0 r0')
    refine out p z e1 e2 ?_
    unfold awd1
    rw [gval_at' hap, hgx, f1]
    simp only [Bool.false_eq_true, if_false]
    have e4 : aop P (aeval P (aput a i.dst p)) (h ++ [z]) x = some (.enter F args) := by rw [aop_at' hap]; exact f2 _
    simp only [e4]
    refine ⟨fun v h1 => R v h ∧ h1 = h ++ [z], c2 [z], .inr ⟨fun v h1 hr => hr.2, fun y => ?_⟩, fun v h1 hr => ?_⟩
    · have := c2 ([z] ++ y)
      rw [← List.append_assoc] at this
      exact this.mono fun v h1 hr => ⟨⟨hr.1, rfl⟩, hr.2⟩
    · obtain ⟨hr1, rfl⟩ := hr
      obtain ⟨p', z', e1', e2', e3'⟩ := inner _ (hR2 v hr1)
      rw [e1] at e1'
      simp only [Option.some.injEq, ARes.val.injEq] at e1'
      obtain ⟨rfl, e6⟩ := e1'
      rw [e6]
      refine ⟨lift _ e2', ?_⟩
      rw [aput_at hap] at e3'
      exact e3'
  · exact H.elim
theorem awd_front {P : Program} {ops : Array Oper} {H0 : AH} {Q : Exit → Array Value → AH → Prop} {i : Oper} {l2 : List Oper} (l1 : List Oper) : ∀ {a : Array Value} {h : AH}, (∀ x ∈ l1, swapOk P ops x i = true) →
    awd P ops H0 Q (l1 ++ i :: l2) a h → awd P ops H0 Q (i :: (l1 ++ l2)) a h := by
  induction l1 with
  | nil => intro a h _ H; exact H
  | cons x r ih =>
    intro a h hs H
    have hx := hs x (by simp)
    simp only [swapOk, Bool.and_eq_true, Bool.not_eq_true', Bool.or_eq_true] at hx
    obtain ⟨h1, hx⟩ := hx
    have H2 : awd1 P ops H0 (i :: (r ++ l2)) (awd1 P ops H0 (r ++ l2) (awd P ops H0 Q (r ++ l2)) i) x a h := by
      have H3 : awd1 P ops H0 (r ++ i :: l2) (awd P ops H0 Q (r ++ i :: l2)) x a h := H
      refine awd1_map rfl (fun _ => rfl) (fun h1 hl => hl.imp id fun ⟨h2, h3⟩ => ⟨h2, fun y hy => h3 y (by
        simp only [List.mem_cons, List.mem_append] at hy ⊢
        rcases hy with h | h | h
        · exact .inr (.inl h)
        · exact .inl h
        · exact .inr (.inr h))⟩) (fun v h1 hk => ?_) H3
      exact ih (fun y hy => hs y (List.mem_cons_of_mem _ hy)) hk
    show awd1 P ops H0 (x :: (r ++ l2)) (awd1 P ops H0 (r ++ l2) (awd P ops H0 Q (r ++ l2)) x) i a h
    rcases hx with ⟨⟨h2, h3⟩, h4⟩ | ⟨⟨⟨h2, h3⟩, h4⟩, h5⟩
    · rcases h2 with h2 | h2
      · exact swap_any_v h1 h2 h3 H2
      · exact swap_v_any h1 h2 h4 H2
    · exact swap_alloc h1 h2 h3 h4 h5 H2
/-! ### which orders there are -/
/-- of each operation: those that its edges put ahead of it, axs bits -/
def deps (ops : List Oper) : List Nat :=
  ops.foldl (fun tbl o => tbl ++ [o.after.toList.foldl (fun s e => if Region.binds .any e then s ||| 2 ^ e.on ||| tbl.getD e.on 0 else s) 0]) []
/-- i hangs on x -/
inductive Hangs (ops : List Oper) : Nat → Nat → Prop
  | one (i x : Nat) (o : Oper) (e : Edge) (ho : ops[i]? = some o) (he : e ∈ o.after) (hb : Region.binds .any e = true) (hx : e.on = x) : Hangs ops i x
  | more (i j x : Nat) (o : Oper) (e : Edge) (ho : ops[i]? = some o) (he : e ∈ o.after) (hb : Region.binds .any e = true) (hj : e.on = j) (h : Hangs ops j x) : Hangs ops i x
theorem Hangs.append {ops l : List Oper} {i x : Nat} (h : Hangs ops i x) : Hangs (ops ++ l) i x := by
  induction h with
  | one i x o e ho he hb hx => exact .one i x o e (by rw [List.getElem?_append_left (List.getElem?_eq_some_iff.1 ho).1]; exact ho) he hb hx
  | more i j x o e ho he hb hj _ ih => exact .more i j x o e (by rw [List.getElem?_append_left (List.getElem?_eq_some_iff.1 ho).1]; exact ho) he hb hj ih
theorem deps_step (tbl : List Nat) (es : List Edge) : ∀ (s0 : Nat) (x : Nat), (es.foldl (fun s e => if Region.binds .any e then s ||| 2 ^ e.on ||| tbl.getD e.on 0 else s) s0).testBit x = true →
    s0.testBit x = true ∨ ∃ e ∈ es, Region.binds .any e = true ∧ (e.on = x ∨ (tbl.getD e.on 0).testBit x = true) := by
  induction es with
  | nil => intro s0 x h; exact .inl h
  | cons e r ih =>
    intro s0 x h
    simp only [List.foldl_cons] at h
    rcases ih _ _ h with h1 | ⟨e', he', h2⟩
    · split at h1
      · rename_i hb
        simp only [Nat.testBit_or, Bool.or_eq_true] at h1
        rcases h1 with (h1 | h1) | h1
        · exact .inl h1
        · rw [Nat.testBit_two_pow] at h1
          exact .inr ⟨e, by simp, hb, .inl (by simpa using h1)⟩
        · exact .inr ⟨e, by simp, hb, .inr h1⟩
      · exact .inl h1
    · exact .inr ⟨e', List.mem_cons_of_mem _ he', h2⟩
theorem deps_spec (ops : List Oper) : (deps ops).length = ops.length ∧ ∀ i x, ((deps ops).getD i 0).testBit x = true → Hangs ops i x := by
  suffices H : ∀ (l pre : List Oper) (tbl : List Nat), tbl.length = pre.length → (∀ i x, (tbl.getD i 0).testBit x = true → Hangs pre i x) →
      (l.foldl (fun tbl (o : Oper) => tbl ++ [o.after.toList.foldl (fun s e => if Region.binds .any e then s ||| 2 ^ e.on ||| tbl.getD e.on 0 else s) 0]) tbl).length = (pre ++ l).length ∧
      ∀ i x, ((l.foldl (fun tbl (o : Oper) => tbl ++ [o.after.toList.foldl (fun s e => if Region.binds .any e then s ||| 2 ^ e.on ||| tbl.getD e.on 0 else s) 0]) tbl).getD i 0).testBit x = true → Hangs (pre ++ l) i x by
    have := H ops [] [] rfl (fun i x h => by simp at h)
    simp only [List.nil_append] at this
    exact this
  intro l
  induction l with
  | nil => intro pre tbl h1 h2; simpa using ⟨h1, h2⟩
  | cons o r ih =>
    intro pre tbl h1 h2
    simp only [List.foldl_cons]
    have := ih (pre ++ [o]) (tbl ++ [o.after.toList.foldl (fun s e => if Region.binds .any e then s ||| 2 ^ e.on ||| tbl.getD e.on 0 else s) 0]) (by simp [h1]) (fun i x h => by
      by_cases hi : i < tbl.length
      · rw [List.getD_eq_getElem?_getD, List.getElem?_append_left hi, ← List.getD_eq_getElem?_getD] at h
        exact (h2 i x h).append
      · by_cases he : i = tbl.length
        · subst he
          have e1 : (tbl ++ [o.after.toList.foldl (fun s e => if Region.binds .any e then s ||| 2 ^ e.on ||| tbl.getD e.on 0 else s) 0]).getD tbl.length 0 = o.after.toList.foldl (fun s e => if Region.binds .any e then s ||| 2 ^ e.on ||| tbl.getD e.on 0 else s) 0 := by
            simp [List.getD]
          rw [e1] at h
          have ho : (pre ++ [o])[tbl.length]? = some o := by rw [h1]; simp
          rcases deps_step tbl _ _ _ h with h3 | ⟨e, he, hb, h3⟩
          · simp at h3
          · rcases h3 with h3 | h3
            · exact .one _ _ o e ho (by simpa using he) hb h3
            · exact .more _ e.on _ o e ho (by simpa using he) hb rfl (h2 _ _ h3).append
        · have e2 : (tbl ++ [o.after.toList.foldl (fun s e => if Region.binds .any e then s ||| 2 ^ e.on ||| tbl.getD e.on 0 else s) 0])[i]? = none := List.getElem?_eq_none (by simp only [List.length_append, List.length_singleton]; omega)
          rw [List.getD_eq_getElem?_getD, e2] at h
          simp at h)
    simpa only [List.append_assoc, List.singleton_append] using this
/-- May the region be read in the order of its text, whatever order is drawn? -/
def okDraw (P : Program) (ops : List Oper) : Bool :=
  let d := deps ops
  (ops.zipIdx.all fun (o, i) => o.after.all fun e => !Region.binds .any e || decide (e.on < i)) &&
  ops.zipIdx.all fun (o, i) => ops.zipIdx.all fun (x, j) => !decide (j < i) || (d.getD i 0).testBit j || swapOk P ops.toArray x o
theorem okDraw_back {P : Program} {ops : List Oper} (h : okDraw P ops = true) {i : Nat} {o : Oper} (ho : ops[i]? = some o) {e : Edge} (he : e ∈ o.after) (hb : Region.binds .any e = true) : e.on < i := by
  simp only [okDraw, Bool.and_eq_true, List.all_eq_true] at h
  have := h.1 (o, i) (by rw [List.mem_zipIdx_iff_getElem?]; exact ho)
  simp only [Array.all_eq_true_iff_forall_mem, Bool.or_eq_true, Bool.not_eq_true', decide_eq_true_eq] at this
  rcases this e he with h1 | h1
  · rw [hb] at h1; cases h1
  · exact h1
theorem okDraw_swap {P : Program} {ops : List Oper} (h : okDraw P ops = true) {i j : Nat} {o x : Oper} (ho : ops[i]? = some o) (hx : ops[j]? = some x) (hlt : j < i) : Hangs ops i j ∨ swapOk P ops.toArray x o = true := by
  simp only [okDraw, Bool.and_eq_true, List.all_eq_true] at h
  have := h.2 (o, i) (by rw [List.mem_zipIdx_iff_getElem?]; exact ho) (x, j) (by rw [List.mem_zipIdx_iff_getElem?]; exact hx)
  simp only [Bool.or_eq_true, Bool.not_eq_true', decide_eq_false_iff_not] at this
  rcases this with (h1 | h1) | h1
  · exact absurd hlt h1
  · exact .inl ((deps_spec ops).2 i j h1)
  · exact .inr h1
/-- listed numbers are closed under what they hang on -/
def Closed (ops : List Oper) (listed : Array Bool) : Prop := ∀ i o e, ops[i]? = some o → listed.getD i false = true → e ∈ o.after → Region.binds .any e = true → listed.getD e.on false = true
theorem Closed.hangs {ops : List Oper} {listed : Array Bool} (hc : Closed ops listed) {i x : Nat} (h : Hangs ops i x) : listed.getD i false = true → listed.getD x false = true := by
  induction h with
  | one i x o e ho he hb hx => intro hl; rw [← hx]; exact hc i o e ho hl he hb
  | more i j x o e ho he hb hj _ ih => intro hl; exact ih (by rw [← hj]; exact hc i o e ho hl he hb)
theorem ready_hangs {ops : List Oper} {listed : Array Bool} (hc : Closed ops listed) {i x : Nat} (hr : i ∈ Region.ready .any ops.toArray listed) (h : Hangs ops i x) : listed.getD x false = true := by
  rw [mem_ready] at hr
  obtain ⟨_, o, ho, hall⟩ := hr
  cases h with
  | one _ _ o' e ho' he hb hx =>
    rw [List.getElem?_toArray] at ho
    rw [ho] at ho'; cases ho'
    rw [← hx]; exact hall e he hb
  | more _ j _ o' e ho' he hb hj h2 =>
    rw [List.getElem?_toArray] at ho
    rw [ho] at ho'; cases ho'
    exact hc.hangs h2 (by rw [← hj]; exact hall e he hb)
/-- the operations that are still to come, in the order of the text -/
def left (listed : Array Bool) (l : List (Oper × Nat)) : List Oper := (l.filter fun p => !listed.getD p.2 false).map (·.1)
theorem left_true {listed : Array Bool} {x : Oper} {j : Nat} {r : List (Oper × Nat)} (h : listed.getD j false = true) : left listed ((x, j) :: r) = left listed r := by
  unfold left
  rw [List.filter_cons]
  simp only [h, Bool.not_true, Bool.false_eq_true, if_false]
theorem left_false {listed : Array Bool} {x : Oper} {j : Nat} {r : List (Oper × Nat)} (h : listed.getD j false = false) : left listed ((x, j) :: r) = x :: left listed r := by
  unfold left
  rw [List.filter_cons]
  simp only [h, Bool.not_false, if_true, List.map_cons]
theorem left_split {listed : Array Bool} {i : Nat} {o : Oper} (l : List (Oper × Nat)) (hn : ∀ p ∈ l, ∀ q ∈ l, p.2 = q.2 → p = q) (hnd : (l.map (·.2)).Nodup) (hm : (o, i) ∈ l) (hi : listed.getD i false = false) (hs : i < listed.size) :
    ∃ l1 l2, left listed l = l1 ++ o :: l2 ∧ left (listed.setIfInBounds i true) l = l1 ++ l2 ∧ ∀ x ∈ l1, ∃ j, (x, j) ∈ l.takeWhile (fun p => p.2 != i) ∧ listed.getD j false = false := by
  induction l with
  | nil => simp at hm
  | cons p r ih =>
    simp only [List.map_cons, List.nodup_cons] at hnd
    obtain ⟨x, j⟩ := p
    have hset : ∀ k, k ≠ i → (listed.setIfInBounds i true).getD k false = listed.getD k false := fun k hk => getD_set_ne false (fun e => hk e.symm)
    have hself : (listed.setIfInBounds i true).getD i false = true := by simp [hs]
    by_cases hj : j = i
    · subst hj
      have hxo : x = o := by
        have := hn (x, j) (by simp) (o, j) hm rfl
        cases this; rfl
      subst hxo
      refine ⟨[], left listed r, left_false hi, ?_, by simp⟩
      have : ∀ q ∈ r, q.2 ≠ j := fun q hq e => hnd.1 (List.mem_map.2 ⟨q, hq, e⟩)
      rw [left_true hself, List.nil_append]
      unfold left
      congr 1
      apply List.filter_congr
      intro q hq
      rw [hset q.2 (this q hq)]
    · have hm' : (o, i) ∈ r := by
        rcases List.mem_cons.1 hm with h | h
        · cases h; exact absurd rfl hj
        · exact h
      obtain ⟨l1, l2, h1, h2, h3⟩ := ih (fun p hp q hq => hn p (List.mem_cons_of_mem _ hp) q (List.mem_cons_of_mem _ hq)) hnd.2 hm'
      have htw : List.takeWhile (fun p : Oper × Nat => p.2 != i) ((x, j) :: r) = (x, j) :: r.takeWhile (fun p => p.2 != i) := by
        simp [List.takeWhile_cons, hj]
      cases hl : listed.getD j false with
      | true =>
        refine ⟨l1, l2, by rw [left_true hl]; exact h1, by rw [left_true ((hset j hj).trans hl)]; exact h2, fun y hy => ?_⟩
        obtain ⟨k, hk, hk2⟩ := h3 y hy
        exact ⟨k, by rw [htw]; exact List.mem_cons_of_mem _ hk, hk2⟩
      | false =>
        refine ⟨x :: l1, l2, by rw [left_false hl, h1]; rfl, by rw [left_false ((hset j hj).trans hl), h2]; rfl, fun y hy => ?_⟩
        rcases List.mem_cons.1 hy with rfl | hy
        · exact ⟨j, by rw [htw]; simp, hl⟩
        · obtain ⟨k, hk, hk2⟩ := h3 y hy
          exact ⟨k, by rw [htw]; exact List.mem_cons_of_mem _ hk, hk2⟩
theorem zipIdx_nodup (l : List Oper) : ∀ k, ((l.zipIdx k).map (·.2)).Nodup ∧ ∀ p ∈ l.zipIdx k, k ≤ p.2 := by
  induction l with
  | nil => intro k; simp
  | cons o r ih =>
    intro k
    obtain ⟨h1, h2⟩ := ih (k + 1)
    simp only [List.zipIdx_cons, List.map_cons, List.nodup_cons, List.mem_map, List.mem_cons]
    refine ⟨⟨?_, h1⟩, ?_⟩
    · rintro ⟨q, hq, e⟩
      have := h2 q hq
      omega
    · rintro p (rfl | hp)
      · exact Nat.le_refl _
      · have := h2 p hp; omega
theorem mem_takeWhile_lt (l : List Oper) (i : Nat) : ∀ k, ∀ p ∈ (l.zipIdx k).takeWhile (fun p => p.2 != i), k ≤ i → p.2 < i ∧ p ∈ l.zipIdx k := by
  induction l with
  | nil => intro k p hp; simp at hp
  | cons o r ih =>
    intro k p hp hk
    rw [List.zipIdx_cons, List.takeWhile_cons] at hp
    by_cases he : k = i
    · subst he; simp at hp
    · have hb : ((o, k).2 != i) = true := by simpa using he
      rw [hb] at hp
      simp only [if_true, List.mem_cons] at hp
      rcases hp with rfl | hp
      · exact ⟨by simp only; omega, by simp⟩
      · obtain ⟨h1, h2⟩ := ih (k + 1) p hp (by omega)
        exact ⟨h1, by rw [List.zipIdx_cons]; exact List.mem_cons_of_mem _ h2⟩
/-- from a state in which some are listed: whatever is ready may go next -/
theorem awd_any {P : Program} {ops : List Oper} {H0 : AH} {Q : Exit → Array Value → AH → Prop} {f0 : Emb} {h0 : AH} {w0 : World} (hok : okDraw P ops = true) (ro : Option Nat) : ∀ (fuel : Nat) (listed : Array Bool) (f : Emb) (a : Array Value) (h : AH) (a' : Act) (w : World),
    listed.size = ops.length → Closed ops listed → (left listed ops.zipIdx).length ≤ fuel → (∀ x ∈ left listed ops.zipIdx, isLoad x.op = true → Pres H0 h ∨ ∃ t, softOf t x.op = true ∧ SoftT P t H0 h) → awd P ops.toArray H0 Q (left listed ops.zipIdx) a h →
    Good P f0 h0 w0 f a h a' w → wpAnyIn (fenceR ro) 0 P .any ops.toArray (Lift P f0 h0 w0 Q) fuel listed a' w := by
  have hnd := zipIdx_nodup ops 0
  have hinj : ∀ p ∈ ops.zipIdx, ∀ q ∈ ops.zipIdx, p.2 = q.2 → p = q := by
    intro p hp q hq e
    rw [List.mem_zipIdx_iff_getElem?] at hp hq
    rw [e, hq] at hp
    obtain ⟨p1, p2⟩ := p
    obtain ⟨q1, q2⟩ := q
    simp only at e hp
    cases e
    cases hp
    rfl
  -- nothing ready: nothing left
  have done : ∀ (listed : Array Bool), listed.size = ops.length → Closed ops listed → Region.ready .any ops.toArray listed = [] → left listed ops.zipIdx = [] := by
    intro listed hsz hcl hr
    by_cases hx : ∃ i, i < ops.length ∧ listed.getD i false = false
    · exfalso
      obtain ⟨i, hi, hl⟩ := hx
      induction i using Nat.strongRecOn with
      | _ i ih =>
        have : i ∈ Region.ready .any ops.toArray listed ∨ ∃ j, j < i ∧ listed.getD j false = false := by
          by_cases hex : ∃ j, j < i ∧ listed.getD j false = false
          · exact .inr hex
          · left
            rw [mem_ready]
            refine ⟨?_, ops[i], by simp, fun e he hb => ?_⟩
            · have : i < listed.size := by omega
              simp only [Array.getD, this, dite_true] at hl ⊢
              exact hl
            · have hlt := okDraw_back hok (List.getElem?_eq_getElem hi) he hb
              cases hle : listed.getD e.on false with
              | true => rfl
              | false => exact absurd ⟨e.on, hlt, hle⟩ hex
        rcases this with h1 | ⟨j, hj, hjl⟩
        · rw [hr] at h1; cases h1
        · exact ih j hj (by omega) hjl
    · unfold left
      rw [List.map_eq_nil_iff, List.filter_eq_nil_iff]
      rintro ⟨o, i⟩ hm
      rw [List.mem_zipIdx_iff_getElem?] at hm
      have hi := (List.getElem?_eq_some_iff.1 hm).1
      cases hl : listed.getD i false with
      | true => simp [hl]
      | false => exact absurd ⟨i, hi, hl⟩ hx
  -- one of them goes
  have go : ∀ (fuel : Nat), (∀ (listed : Array Bool) (f : Emb) (a : Array Value) (h : AH) (a' : Act) (w : World),
      listed.size = ops.length → Closed ops listed → (left listed ops.zipIdx).length ≤ fuel → (∀ x ∈ left listed ops.zipIdx, isLoad x.op = true → Pres H0 h ∨ ∃ t, softOf t x.op = true ∧ SoftT P t H0 h) → awd P ops.toArray H0 Q (left listed ops.zipIdx) a h →
      Good P f0 h0 w0 f a h a' w → wpAnyIn (fenceR ro) 0 P .any ops.toArray (Lift P f0 h0 w0 Q) fuel listed a' w) →
      ∀ (listed : Array Bool) (f : Emb) (a : Array Value) (h : AH) (a' : Act) (w : World),
      listed.size = ops.length → Closed ops listed → (left listed ops.zipIdx).length ≤ fuel + 1 → (∀ x ∈ left listed ops.zipIdx, isLoad x.op = true → Pres H0 h ∨ ∃ t, softOf t x.op = true ∧ SoftT P t H0 h) → awd P ops.toArray H0 Q (left listed ops.zipIdx) a h →
      Good P f0 h0 w0 f a h a' w → ∀ i ∈ Region.ready .any ops.toArray listed, wpOpIn (fenceR ro) 0 P ops.toArray (Lift P f0 h0 w0 Q) i (wpAnyIn (fenceR ro) 0 P .any ops.toArray (Lift P f0 h0 w0 Q) fuel (listed.setIfInBounds i true)) a' w := by
    intro fuel ih listed f a h a' w hsz hcl hlen hpres H g i hi
    have hi0 := hi
    rw [mem_ready] at hi0
    obtain ⟨hun, o, ho, hall⟩ := hi0
    have ho' : ops[i]? = some o := by simpa using ho
    have hlt : i < ops.length := (List.getElem?_eq_some_iff.1 ho').1
    have hun' : listed.getD i false = false := by
      have : i < listed.size := by omega
      simp only [Array.getD, this, dite_true] at hun ⊢
      exact hun
    obtain ⟨l1, l2, e1, e2, e3⟩ := left_split (listed := listed) (i := i) (o := o) ops.zipIdx hinj hnd.1 (by rw [List.mem_zipIdx_iff_getElem?]; exact ho') hun' (by omega)
    have hsw : ∀ x ∈ l1, swapOk P ops.toArray x o = true := by
      intro x hx
      obtain ⟨j, hj, hjl⟩ := e3 x hx
      obtain ⟨hji, hm⟩ := mem_takeWhile_lt ops i 0 _ hj (Nat.zero_le _)
      rw [List.mem_zipIdx_iff_getElem?] at hm
      rcases okDraw_swap hok ho' hm hji with hh | hh
      · have := ready_hangs hcl hi hh
        rw [hjl] at this; cases this
      · exact hh
    rw [e1] at H hpres hlen
    have H2 := awd_front l1 hsw H
    rw [awd_cons] at H2
    have hcl2 : Closed ops (listed.setIfInBounds i true) := by
      intro k ok e hk hkl he hb
      by_cases hki : k = i
      · subst hki
        rw [ho'] at hk; cases hk
        exact getD_set_true (hall e he hb)
      · rw [getD_set_ne false (fun e => hki e.symm)] at hkl
        exact getD_set_true (hcl k ok e hk hkl he hb)
    have hlen2 : (left (listed.setIfInBounds i true) ops.zipIdx).length ≤ fuel := by
      rw [e2]; simp at hlen ⊢; omega
    have hsub : ∀ x ∈ l1 ++ l2, x ∈ l1 ++ o :: l2 := fun x hx => (by
      simp only [List.mem_append, List.mem_cons] at hx ⊢
      rcases hx with hx | hx
      · exact .inl hx
      · exact .inr (.inr hx))
    have next : ∀ (f1 : Emb) (b : Array Value) (h1 : AH) (b' : Act) (w1 : World), (∀ x ∈ l1 ++ l2, isLoad x.op = true → Pres H0 h1 ∨ ∃ t, softOf t x.op = true ∧ SoftT P t H0 h1) → awd P ops.toArray H0 Q (l1 ++ l2) b h1 → Good P f0 h0 w0 f1 b h1 b' w1 →
        wpAnyIn (fenceR ro) 0 P .any ops.toArray (Lift P f0 h0 w0 Q) fuel (listed.setIfInBounds i true) b' w1 := fun f1 b h1 b' w1 hp hk g1 =>
      ih _ f1 b h1 b' w1 (by simpa using hsz) hcl2 hlen2 (by rw [e2]; exact hp) (by rw [e2]; exact hk) g1
    unfold wpOpIn
    simp only [ho]
    unfold awd1 at H2
    split at H2
    · rename_i hg
      rw [if_neg (by simp [gval_wanted g.tm hg])]
      exact ⟨fun _ _ => trivial, next f _ h _ w (fun x hx => hpres x (hsub x hx)) H2 (g.step (Step.refl g.sim) (g.tm.aput o.dst undef_rel) (put_defers _ _ _))⟩
    · rename_i hg
      rw [if_pos (gval_wanted g.tm hg)]
      split at H2
      · rename_i hv
        split at H2
        · rename_i v h2 hval
          have hval2 : aop P (aeval P a) h o = some (.val v h) := by
            obtain ⟨u, hu⟩ := isV_val hv hval
            cases hu
            cases hl : isLoad o.op with
            | false => exact vop_pure hv hl hval
            | true =>
              rcases hpres o (by simp) hl with hp | ⟨t, hs, hp⟩
              · exact vop_load hp hl hval
              · exact vop_soft hp hs hval
          exact oper_wp g o hval2 (fun f1 b' w1 g1 => next f1 _ h b' w1 (fun x hx => hpres x (hsub x hx)) H2 g1) ro
        · exact H2.elim
      · rename_i hv
        have hlv : ∀ h1, (∀ t, isEntry t o.op = true → SoftT P t h h1) → leaves H0 (l1 ++ l2) o h1 → (∀ x ∈ l1 ++ l2, isLoad x.op = true → Pres H0 h1 ∨ ∃ t, softOf t x.op = true ∧ SoftT P t H0 h1) := fun h1 hent hl => by
          intro x hx hlx
          rcases hl with hl | ⟨_, hl⟩
          · exact .inl hl
          · right
            have hsp := hl x hx hlx
            unfold softPair at hsp
            split at hsp
            · rename_i t m0 k0 hop
              refine ⟨t, hsp, ?_⟩
              have hs0 : SoftT P t H0 h := by
                rcases hpres x (hsub x hx) hlx with hp | ⟨t', hs', hp⟩
                · exact .of_pres hp
                · have : t' = t := by
                    unfold softOf at hs' hsp
                    split at hs'
                    · rename_i t2 _ _ heq; rw [heq] at hsp; simp only [beq_iff_eq] at hs' hsp; exact hs'.symm.trans hsp
                    · cases hs'
                  subst this; exact hp
              exact hs0.then (hent t (by rw [hop]; simp [isEntry]))
            · cases hsp
        have hent : ∀ (v : Value) (h1 : AH), aop P (aeval P a) h o = some (.val v h1) → ∀ t, isEntry t o.op = true → SoftT P t h h1 := by
          intro v h1 hval t ht
          obtain ⟨dst, op, type, pos, after, guard⟩ := o
          cases op <;> simp only [isEntry] at ht <;> (try (cases ht; done))
          simp only [beq_iff_eq] at ht
          subst ht
          obtain ⟨v2, h2, h3, h4⟩ := avalh_some (show avalh (amEntry P h _ _ _) = _ from hval)
          cases h4
          exact soft_entry g.sim.ok h3
        split at H2
        · rename_i v h1 hval
          exact oper_wp g o hval (fun f1 b' w1 g1 => next f1 _ h1 b' w1 (hlv h1 (hent v h1 hval) H2.1) H2.2 g1) ro
        · rename_i h1 hval
          refine oper_wp g o hval (fun f1 b' w1 g1 => next f1 _ h1 b' w1 (hlv h1 (fun t ht => ?_) H2.1) H2.2 g1) ro
          exfalso
          obtain ⟨dst, op, type, pos, after, guard⟩ := o
          cases op <;> simp only [isEntry] at ht <;> (try (cases ht; done))
          obtain ⟨v2, h2, h3, h4⟩ := avalh_some (show avalh (amEntry P h _ _ _) = _ from hval)
          cases h4
        · rename_i F args hval
          obtain ⟨R, hc, _, hR⟩ := H2
          exact oper_wp g o hval ⟨R, hc, fun v h1 hr f1 b' w1 g1 => next f1 _ h1 b' w1 (fun x hx _ => .inl (hR v h1 hr).1) (hR v h1 hr).2 g1⟩ ro
        · exact H2.elim
    · exact H2.elim
  intro fuel
  induction fuel with
  | zero =>
    intro listed f a h a' w hsz hcl hlen hpres H g
    have : left listed ops.zipIdx = [] := List.length_eq_zero_iff.1 (by omega)
    have hr : Region.ready .any ops.toArray listed = [] := by
      cases hr : Region.ready .any ops.toArray listed with
      | nil => rfl
      | cons i r =>
        have hi : i ∈ Region.ready .any ops.toArray listed := by rw [hr]; simp
        rw [mem_ready] at hi
        obtain ⟨hun, o, ho, _⟩ := hi
        have ho' : ops[i]? = some o := by simpa using ho
        have hlt : i < ops.length := (List.getElem?_eq_some_iff.1 ho').1
        have hun' : listed.getD i false = false := by
          have : i < listed.size := by omega
          simp only [Array.getD, this, dite_true] at hun ⊢
          exact hun
        obtain ⟨l1, l2, e1, _⟩ := left_split (listed := listed) (i := i) (o := o) ops.zipIdx hinj hnd.1 (by rw [List.mem_zipIdx_iff_getElem?]; exact ho') hun' (by omega)
        rw [this] at e1
        simp at e1
    rw [this] at H
    exact ⟨hr, ⟨f, a, h, H, g⟩⟩
  | succ fuel ih =>
    intro listed f a h a' w hsz hcl hlen hpres H g
    refine ⟨fun hr => ?_, go fuel ih listed f a h a' w hsz hcl hlen hpres H g⟩
    rw [done listed hsz hcl hr] at H
    exact ⟨f, a, h, H, g⟩
theorem AWP.draw {P : Program} {h0 : AH} {id : Nat} {l : List Oper} {Q : Exit → Array Value → AH → Prop} {a : Array Value} {h : AH} (hm : P.follows .mixedOrders = true) (hok : okDraw P l = true) (ha : awd P l.toArray h Q l a h) :
    AWP P h0 (.region id l.toArray true) Q a h := by
  intro f0 w0 f a' w s0 g ro hrb
  refine wpIn_region_any hm ?_
  have hl : left (Array.replicate l.length false) l.zipIdx = l := by
    have : ∀ (r : List Oper) (k : Nat), left (Array.replicate l.length false) (r.zipIdx k) = r := by
      intro r
      induction r with
      | nil => intro k; rfl
      | cons x r ih =>
        intro k
        rw [List.zipIdx_cons, left_false (by simp only [Array.getD_eq_getD_getElem?, Array.getElem?_replicate]; split <;> rfl), ih]
    exact this l 0
  have := awd_any (Q := Q) (f0 := f0) (h0 := h0) (w0 := w0) hok ro l.length (Array.replicate l.length false) f a h a' w.drew (by simp) (fun i o e _ hl _ _ => by
    exfalso
    simp only [Array.getD_eq_getD_getElem?, Array.getElem?_replicate] at hl
    split at hl <;> cases hl) (by rw [hl]; exact Nat.le_refl _) (fun x _ _ => .inl fun b _ => rfl) (by rw [hl]; exact ha) (g.step (Step.drew g.sim) g.tm rfl)
  simpa using this
end Go.Am

set_option linter.unusedVariables false
set_option linter.unusedSimpArgs false
/- Equations, second part: regions that draw; types' closed facts; memory. -/
namespace Go.Am
open Go
/-- code, with regions that draw taken in -/
def ay (P : Program) (h0 : AH) : Code → (Exit → Array Value → AH → Prop) → Array Value → AH → Prop
  | .skip, Q, a, h => Q .normal a h
  | .region _ ops false, Q, a, h => awl P ops Q ops.toList a h
  | .region _ ops true, Q, a, h => okDraw P ops.toList = true ∧ P.follows .mixedOrders = true ∧ awd P ops h Q ops.toList a h
  | .seq x y, Q, a, h => ay P h0 x (thenA (ay P h0 y Q) Q) a h
  | .cond c x y, Q, a, h => ∃ t, aeval P a c = .bool t ∧ (t = true → ay P h0 x Q a h) ∧ (t = false → ay P h0 y Q a h)
  | .block id c, Q, a, h => ay P h0 c (inBlockA id Q) a h
  | .exit id, Q, a, h => Q (.exit id) a h
  | .ret, Q, a, h => Q .ret a h
  | .label _, Q, a, h => Q .normal a h
  | c, Q, a, h => AWP P h0 c Q a h
theorem ay_sound {P : Program} {h0 : AH} (c : Code) : ∀ (Q : Exit → Array Value → AH → Prop) (a : Array Value) (h : AH), ay P h0 c Q a h → AWP P h0 c Q a h := by
  induction c with
  | skip => intro Q a h ha f0 w0 f a' w s0 g ro hrb; exact Go.wpIn_skip ⟨f, a, h, ha, g⟩
  | region id ops draw =>
    intro Q a h ha
    cases draw with
    | false => exact AWP.region ha
    | true =>
      obtain ⟨h1, h2, h3⟩ := ha
      have := AWP.draw (P := P) (h0 := h0) (id := id) (l := ops.toList) (Q := Q) (a := a) (h := h) h2 h1 (by simpa using h3)
      simpa using this
  | seq x y ihx ihy => intro Q a h ha; exact AWP.seq (AWP.mono (ihx _ a h ha) (thenA_mono fun a h hx => ihy Q a h hx))
  | cond c x y ihx ihy =>
    intro Q a h ha f0 w0 f a' w s0 g ro hrb
    obtain ⟨t, ht, h1, h2⟩ := ha
    have hc := aeval_rel g.sim g.tm c
    rw [ht] at hc
    refine wpIn_cond_split hc.bool_inv (fun e => ?_) (fun e => ?_)
    · exact ihx Q a h (h1 e) f0 w0 f a' w s0 g ro hrb
    · exact ihy Q a h (h2 e) f0 w0 f a' w s0 g ro hrb
  | block id c ih => intro Q a h ha; exact AWP.block (ih _ a h ha)
  | loop c ih => intro Q a h ha; exact ha
  | rangeFunc f ps axs c ih1 ih2 => intro Q a h ha; exact ha
  | exit id => intro Q a h ha f0 w0 f a' w s0 g ro hrb; exact Go.wpIn_exit ⟨f, a, h, ha, g⟩
  | scope c ih => intro Q a h ha; exact ha
  | label l => intro Q a h ha f0 w0 f a' w s0 g ro hrb; exact Go.wpIn_label ⟨f, a, h, ha, g⟩
  | goto l => intro Q a h ha; exact ha
  | ret => intro Q a h ha f0 w0 f a' w s0 g ro hrb; exact Go.wpIn_ret ⟨f, a, h, ha, g⟩
  | refuse why => intro Q a h ha; exact ha
theorem ACalls.of_ay {P : Program} {F : FuncId} {fn : Func} {c : Code} (hf : P.funcs[F]? = some fn) (hb : fn.body = some c) {n : Nat} (hn : fn.ntmps = n) {args : List Value} {h : AH} {R : Value → AH → Prop} (inh : ∃ v h', R v h')
    (ha : ay P h c (apost P h fn R) (args ++ List.replicate (n - args.length) undef).toArray h) : ACalls P F args.toArray h R := by
  subst hn
  refine ACalls.of_awp hf hb inh (ay_sound c _ _ _ ?_)
  have e : (args.toArray ++ Array.replicate (fn.ntmps - args.toArray.size) undef) = (args ++ List.replicate (fn.ntmps - args.length) undef).toArray := by
    simp
  rw [e]
  exact ha
section
variable {P : Program} {ops : Array Oper} {Q : Exit → Array Value → AH → Prop} {rest : List Oper} {a : Array Value} {h H0 h0 : AH} {dst : Option Tmp} {ty : TypeId} {pos : String} {after : Array Edge}
theorem ay_skip : ay P h0 .skip Q a h = Q .normal a h := rfl
theorem ay_region {id : Nat} {l : List Oper} : ay P h0 (.region id l.toArray false) Q a h = awl P l.toArray Q l a h := rfl
theorem ay_draw {id : Nat} {l : List Oper} : ay P h0 (.region id l.toArray true) Q a h = (okDraw P l = true ∧ P.follows .mixedOrders = true ∧ awd P l.toArray h Q l a h) := rfl
theorem ay_seq {x y : Code} : ay P h0 (.seq x y) Q a h = ay P h0 x (thenA (ay P h0 y Q) Q) a h := rfl
theorem ay_block {id : Nat} {c : Code} : ay P h0 (.block id c) Q a h = ay P h0 c (inBlockA id Q) a h := rfl
theorem ay_exit {id : Nat} : ay P h0 (.exit id) Q a h = Q (.exit id) a h := rfl
theorem ay_ret : ay P h0 .ret Q a h = Q .ret a h := rfl
theorem ay_loop {c : Code} : ay P h0 (.loop c) Q a h = AWP P h0 (.loop c) Q a h := rfl
def ycond (P : Program) (h0 : AH) (x y : Code) (Q : Exit → Array Value → AH → Prop) (a : Array Value) (h : AH) (v : Value) : Prop :=
  ∃ t, v = .bool t ∧ (t = true → ay P h0 x Q a h) ∧ (t = false → ay P h0 y Q a h)
theorem ay_cond {c : Operand} {x y : Code} : ay P h0 (.cond c x y) Q a h = ycond P h0 x y Q a h (aeval P a c) := rfl
theorem ycond_bool {x y : Code} {t : Bool} : ycond P h0 x y Q a h (.bool t) = ((t = true → ay P h0 x Q a h) ∧ (t = false → ay P h0 y Q a h)) := by
  unfold ycond
  apply propext
  constructor
  · rintro ⟨t', e, h1⟩; cases e; exact h1
  · intro h1; exact ⟨t, rfl, h1⟩
/-- what follows an operation, in a region that draws -/
def dstep (P : Program) (ops : Array Oper) (H0 : AH) (Q : Exit → Array Value → AH → Prop) (rest : List Oper) (o : Oper) (a : Array Value) (h : AH) : Option ARes → Prop
  | some (.val v h1) => leaves H0 rest o h1 ∧ awd P ops H0 Q rest (aput a o.dst v) h1
  | some (.skip h1) => leaves H0 rest o h1 ∧ awd P ops H0 Q rest (aput a o.dst undef) h1
  | some (.enter F args) => ∃ R, ACalls P F args h R ∧ Calm P ops F args h R ∧ ∀ v h1, R v h1 → Pres H0 h1 ∧ awd P ops H0 Q rest (aput a o.dst v) h1
  | _ => False
def dvstep (P : Program) (ops : Array Oper) (H0 : AH) (Q : Exit → Array Value → AH → Prop) (rest : List Oper) (dst : Option Tmp) (a : Array Value) (h : AH) : Option ARes → Prop
  | some (.val v _) => awd P ops H0 Q rest (aput a dst v) h
  | _ => False
def dgate (P : Program) (ops : Array Oper) (H0 : AH) (Q : Exit → Array Value → AH → Prop) (rest : List Oper) (o : Oper) (a : Array Value) (h : AH) : Option Bool → Prop
  | some false => awd P ops H0 Q rest (aput a o.dst undef) h
  | some true => bif isV P o.op then dvstep P ops H0 Q rest o.dst a h (aop P (aeval P a) H0 o) else dstep P ops H0 Q rest o a h (aop P (aeval P a) h o)
  | none => False
theorem awd_nil : awd P ops H0 Q [] a h = Q .normal a h := rfl
theorem awd_gate {o : Oper} : awd P ops H0 Q (o :: rest) a h = dgate P ops H0 Q rest o a h (gval ops a o) := by
  simp only [awd]
  unfold dgate dvstep dstep
  cases gval ops a o with
  | none => rfl
  | some b =>
    cases b with
    | false => rfl
    | true =>
      simp only []
      cases hv : isV P o.op <;> simp only [cond_true, cond_false, if_true, if_false, Bool.false_eq_true] <;> rfl
theorem dgate_true {o : Oper} : dgate P ops H0 Q rest o a h (some true) = bif isV P o.op then dvstep P ops H0 Q rest o.dst a h (aop P (aeval P a) H0 o) else dstep P ops H0 Q rest o a h (aop P (aeval P a) h o) := rfl
theorem dvstep_val {v : Value} {h1 : AH} : dvstep P ops H0 Q rest dst a h (some (.val v h1)) = awd P ops H0 Q rest (aput a dst v) h := rfl
theorem dstep_val {o : Oper} {v : Value} {h1 : AH} : dstep P ops H0 Q rest o a h (some (.val v h1)) = (leaves H0 rest o h1 ∧ awd P ops H0 Q rest (aput a o.dst v) h1) := rfl
theorem dstep_skip {o : Oper} {h1 : AH} : dstep P ops H0 Q rest o a h (some (.skip h1)) = (leaves H0 rest o h1 ∧ awd P ops H0 Q rest (aput a o.dst undef) h1) := rfl
end
/-! ### closed facts of types -/
/-- an aggregate? how many cells? -/
def tyc (P : Program) (t : TypeId) : Option (Bool × Nat) :=
  match P.underlying t, P.info? t with
  | some d, some i => some (isAggD d, i.size)
  | _, _ => none
/-- a struct's field: where, an aggregate?, how many cells -/
def fld (P : Program) (t : TypeId) (k : Nat) : Option (Nat × Bool × Nat) :=
  match P.underlying t with
  | some (.struct fields) => match fields[k]? with
    | some fd => match tyc P fd.type with
      | some (g, n) => some (fd.offset, g, n)
      | none => none
    | none => none
  | _ => none
/-- an array: how long, of aggregates?, of how many cells -/
def arr (P : Program) (t : TypeId) : Option (Nat × Bool × Nat) :=
  match P.underlying t with
  | some (.array n elem) => match tyc P elem with
    | some (g, m) => some (n, g, m)
    | none => none
  | _ => none
/-- a slice: of aggregates?, of how many cells and bytes -/
def slc (P : Program) (t : TypeId) : Option (Bool × Nat × Nat) :=
  match P.underlying t with
  | some (.slice elem) => match tyc P elem, P.info? elem with
    | some (g, m), some ie => some (g, m, ie.bytes)
    | _, _ => none
  | _ => none
section
variable {P : Program} {h : AH} {t : TypeId} {b o n m : Nat} {c : Array Value} {es : Nat} {rw g : Bool} {v : Value}
theorem blit_whole (c : Array Value) (vs : List Value) (h : vs.length = c.size) : blit c 0 vs = vs.toArray := by
  have key : ∀ (vs : List Value) (c : Array Value) (o : Nat), o + vs.length = c.size → blit c o vs = (c.toList.take o ++ vs).toArray := by
    intro vs
    induction vs with
    | nil =>
      intro c o h
      simp at h
      subst h
      rw [blit, List.append_nil, List.take_of_length_le (by simp)]
    | cons v r ih =>
      intro c o h
      simp only [List.length_cons] at h
      rw [blit, ih _ _ (by simp; omega)]
      congr 1
      rw [Array.toList_setIfInBounds]
      have ho : o < c.toList.length := by simp; omega
      rw [List.take_add_one, List.take_set_of_le (by omega), List.getElem?_set_self ho]
      simp
  have := key vs c 0 (by omega)
  simpa using this
theorem abox_agg {x : Array Value} : abox h (.agg x) = some (.pointer (some ⟨h.length, 0, none⟩), h ++ [.cells x 0 true]) := rfl
theorem abox_int {k : IntKind} {z : Int} : abox h (.int k z) = some (.pointer (some ⟨h.length, 0, none⟩), h ++ [.cells #[.int k z] 0 true]) := rfl
theorem abox_slice {x : Option Addr} {l k : Nat} : abox h (.slice x l k) = some (.pointer (some ⟨h.length, 0, none⟩), h ++ [.cells #[.slice x l k] 0 true]) := rfl
theorem abox_map {x : Option Nat} : abox h (.map x) = some (.pointer (some ⟨h.length, 0, none⟩), h ++ [.cells #[.map x] 0 true]) := rfl
theorem abox_pointer {x : Option Addr} : abox h (.pointer x) = some (.pointer (some ⟨h.length, 0, none⟩), h ++ [.cells #[.pointer x] 0 true]) := rfl
theorem aalloc_eq {zc : Array Value} (hz : zeroCellsOf P t = some zc) : aalloc P h t = some (.pointer (some ⟨h.length, 0, none⟩), h ++ [.cells zc 0 true]) := by
  obtain ⟨i, z, hi, hz', hzc, hall, hsz, hpos⟩ := zeroCellsOf_spec hz
  have hp : plainB z = true ∧ storable z = true := by
    cases z with
    | agg cs => simp only [Value.cells] at hzc; subst hzc; exact ⟨hall, rfl⟩
    | _ =>
      simp only [Value.cells] at hzc
      subst hzc
      simp only [List.all_toArray, List.all_cons, List.all_nil, Bool.and_true] at hall
      first
        | (simp [plain1] at hall; done)
        | exact ⟨by simpa [plainB] using hall, rfl⟩
        | (refine ⟨by cases ‹Option _› <;> simp_all [plainB, plain1], rfl⟩)
  simp only [aalloc, hi, hz', hp.1, hp.2, Bool.and_self, if_true, hzc, (zeroCellsOf_tag hz).2, Bool.false_eq_true, if_false]
theorem fld_spec {k off : Nat} (hf : fld P t k = some (off, g, n)) : ∃ fields fd, P.underlying t = some (.struct fields) ∧ fields[k]? = some fd ∧ fd.offset = off ∧ tyc P fd.type = some (g, n) := by
  unfold fld at hf
  split at hf
  · rename_i fields hu
    split at hf
    · rename_i fd hfd
      split at hf
      · rename_i g' n' ht
        simp only [Option.some.injEq, Prod.mk.injEq] at hf
        obtain ⟨rfl, rfl, rfl⟩ := hf
        exact ⟨fields, fd, hu, hfd, rfl, ht⟩
      · cases hf
    · cases hf
  · cases hf
theorem arr_spec (ha : arr P t = some (n, g, m)) : ∃ elem ie, P.underlying t = some (.array n elem) ∧ tyc P elem = some (g, m) ∧ P.info? elem = some ie ∧ ie.size = m := by
  unfold arr at ha
  split at ha
  · rename_i n' elem hu
    split at ha
    · rename_i g' m' ht
      simp only [Option.some.injEq, Prod.mk.injEq] at ha
      obtain ⟨rfl, rfl, rfl⟩ := ha
      have ht0 := ht
      unfold tyc at ht
      split at ht
      · rename_i d i hud hi
        simp only [Option.some.injEq, Prod.mk.injEq] at ht
        exact ⟨elem, i, hu, ht0, hi, ht.2⟩
      · cases ht
    · cases ha
  · cases ha
theorem slc_spec {by_ : Nat} (ha : slc P t = some (g, m, by_)) : ∃ elem ie, P.underlying t = some (.slice elem) ∧ tyc P elem = some (g, m) ∧ P.info? elem = some ie ∧ ie.size = m ∧ ie.bytes = by_ := by
  unfold slc at ha
  split at ha
  · rename_i elem hu
    split at ha
    · rename_i g' m' ie ht hie
      simp only [Option.some.injEq, Prod.mk.injEq] at ha
      obtain ⟨rfl, rfl, rfl⟩ := ha
      have ht0 := ht
      unfold tyc at ht
      rw [hie] at ht
      split at ht
      · rename_i d i hud hi
        cases hi
        simp only [Option.some.injEq, Prod.mk.injEq] at ht
        exact ⟨elem, ie, hu, ht0, hie, ht.2, rfl⟩
      · cases ht
    · cases ha
  · cases ha
theorem alen_slc {by_ : Nat} {x : Option Addr} {len cap : Nat} (ha : slc P t = some (g, m, by_)) : alen P h t (.slice x len cap) = some (.int .i64 len) := by
  obtain ⟨elem, ie, hu, _⟩ := slc_spec ha
  simp only [alen, hu]
/-! heaps -/
theorem at_old {H : AH} {x : AObj} (hb : H[b]? = some x) (l : AH) : (H ++ l)[b]? = some x := by
  rw [List.getElem?_append_left (List.getElem?_eq_some_iff.1 hb).1]; exact hb
theorem at_new (H l : AH) (k : Nat) : (H ++ l)[H.length + k]? = l[k]? := by
  rw [List.getElem?_append_right (by omega)]; congr 1; omega
theorem at_new0 (H l : AH) : (H ++ l)[H.length]? = l[0]? := at_new H l 0
theorem set_new (H l : AH) (k : Nat) (x : AObj) : (H ++ l).set (H.length + k) x = H ++ l.set k x := by
  rw [List.set_append_right _ _ (by omega)]; congr 2; omega
theorem set_new0 (H l : AH) (x : AObj) : (H ++ l).set H.length x = H ++ l.set 0 x := set_new H l 0 x
end
end Go.Am

set_option linter.unusedVariables false
set_option linter.unusedSimpArgs false
/- Equations, third part: each operation on memory axs a function of closed facts. -/
namespace Go.Am
open Go
/-- a struct's fields: where, how many cells -/
def plc (P : Program) (t : TypeId) : Option (List (Nat × Nat)) :=
  match P.underlying t with
  | some (.struct fields) => (pureRun P (fields.mapM fun f => do pure (f.offset, ← sizeOf f.type) : Sem _)).map (·.toList)
  | _ => none
/-- the zero cells of a slice's, an array's elements -/
def slz (P : Program) (t : TypeId) : Option (Array Value) :=
  match P.underlying t with
  | some (.slice elem) => zeroCellsOf P elem
  | _ => none
def intk (P : Program) (t : TypeId) : Option IntKind :=
  match P.underlying t with
  | some (.int k) => some k
  | _ => none
/-- there is such a type, and it is no integer -/
def nint (P : Program) (t : TypeId) : Bool := match P.underlying t with | some (.int _) => false | some _ => true | none => false
def mkLoad (o : Nat) : Option (Bool × Nat) → Option AObj → Option Value
  | some (true, n), some (.cells c _ _) => if o + n ≤ c.size then some (.agg (c.extract o (o + n))) else none
  | some (false, _), some (.cells c _ _) => c[o]?
  | _, _ => none
def mkStore (h : AH) (b o : Nat) (v : Value) : Option (Bool × Nat) → Option AObj → Option AH
  | some (_, n), some (.cells c es true) => if storable v = true ∧ v.cells.size = n ∧ o + n ≤ c.size then some (h.set b (.cells (blit c o v.cells.toList) es true)) else none
  | _, _ => none
def mkFieldAddr (b o : Nat) : Option (Nat × Bool × Nat) → Option Value
  | some (off, _, n + 1) => some (.pointer (some ⟨b, o + off, none⟩))
  | _ => none
def mkField (cs : Array Value) : Option (Nat × Bool × Nat) → Option Value
  | some (off, true, n) => if off + n ≤ cs.size then some (.agg (cs.extract off (off + n))) else none
  | some (off, false, _) => cs[off]?
  | none => none
def mkIndexA (b o : Nat) (i : Int) : Option (Nat × Bool × Nat) → Option Value
  | some (n, _, m) => if 0 ≤ i ∧ i < n then some (.pointer (some ⟨b, o + i.toNat * m, none⟩)) else none
  | none => none
def mkIndexS (b o len : Nat) (i : Int) : Option (Bool × Nat × Nat) → Option Value
  | some (_, m, _) => if 0 ≤ i ∧ i < len then some (.pointer (some ⟨b, o + i.toNat * m, none⟩)) else none
  | none => none
def mkAlloc (h : AH) : Option (Array Value) → Option (Value × AH)
  | some zc => some (.pointer (some ⟨h.length, 0, none⟩), h ++ [.cells zc 0 true])
  | none => none
def mkBuild (parts : List (Nat × Value)) : Option (Array Value) → Option (List (Nat × Nat)) → Option Value
  | some zc, some pl => (afill (fun i => pl[i]?) zc parts).map .agg
  | _, _ => none
def mkBuildA (parts : List (Nat × Value)) : Option (Array Value) → Option (Nat × Bool × Nat) → Option Value
  | some zc, some (_, _, m) => (afill (fun i => some (i * m, m)) zc parts).map .agg
  | _, _ => none
def mkBuildS (h : AH) (len : Nat) (parts : List (Nat × Value)) : Option (Array Value) → Option (Value × AH)
  | some zc => if len * zc.size ≤ 2 ^ 24 then
        match afill (fun i => some (i * zc.size, zc.size)) (zeros zc (len * zc.size)) parts with
        | some cells => some (.slice (some ⟨h.length, 0, none⟩) len len, h ++ [.cells cells zc.size true])
        | none => none
      else none
  | none => none
def mkSliceS (b o len cap : Nat) (lo hi : Option Value) : Option (Bool × Nat × Nat) → Option AObj → Option Value
  | some (_, m, _), some (.cells _ es _) => if (es = 0 ∨ es = m) ∧ es < tagN then
      match abounds len cap lo hi with
      | some (l, hh) => if hh ≤ cap ∧ len ≤ cap then some (.slice (some ⟨b, o + l * m, none⟩) (hh - l) (cap - l)) else none
      | none => none
    else none
  | _, _ => none
def mkSliceA (b o : Nat) (lo hi : Option Value) : Option (Nat × Bool × Nat) → Option Value
  | some (n, _, m) => match abounds n n lo hi with
      | some (l, hh) => if l = n then none else some (.slice (some ⟨b, o + l * m, none⟩) (hh - l) (n - l))
      | none => none
  | none => none
/-- append of cells that are known -/
def mkApp (h : AH) (s : Value) : Option (Bool × Nat × Nat) → Option (Nat × Array Value) → Option (Value × AH)
  | some (_, m, by_), some (n, new) => match s with
        | .slice none 0 0 => if n = 0 then some (.slice none 0 0, h) else
            if (2 * n + 192) * by_ ≤ 2 ^ 48 ∧ n < 2 ^ 62 then some (.slice (some ⟨h.length, 0, none⟩) n n, h ++ [.cells new m true]) else none
        | .slice (some ⟨b, o, none⟩) len cap =>
            if n = 0 ∧ len ≤ cap then some (.slice (some ⟨b, o, none⟩) len cap, h) else
            match h[b]? with
            | some (.cells c es true) =>
              if o + len * m ≤ c.size ∧ es = m then
                if len + n ≤ cap then
                  if o + (len + n) * m ≤ c.size then some (.slice (some ⟨b, o, none⟩) (len + n) cap, h.set b (.cells (blit c (o + len * m) new.toList) es true)) else none
                else if (2 * (len + n) + 192) * by_ ≤ 2 ^ 48 ∧ len + n < 2 ^ 62 then
                  some (.slice (some ⟨h.length, 0, none⟩) (len + n) (len + n), h.set b .dead ++ [.cells (c.extract o (o + len * m) ++ new) m true]) else none
              else none
            | _ => none
        | _ => none
  | _, _ => none
/-- the first, or else the second -/
def orT (a b : Option (Value × AH)) : Option (Value × AH) :=
  match a with
  | some r => some r
  | none => b
theorem orT_some {r : Value × AH} {b : Option (Value × AH)} : orT (some r) b = some r := rfl
/-- append, where the row bears its kind -/
def aappendT (P : Program) (h : AH) (sT xT : TypeId) (s x : Value) : Option (Value × AH) := aappend P h sT xT s x
/-- what is appended; the third: is its type none of the integers? -/
def mkSrc (h : AH) (x : Value) : Option (Bool × Nat × Nat) → Bool → Option (Nat × Array Value)
  | some (_, m, _), true => asource h m x
  | _, _ => none
section
variable {P : Program} {h : AH} {t u : TypeId} {b o len cap k : Nat} {x v : Value} {i n : Int} {ik jk : IntKind} {cs : Array Value} {lo hi : Option Value}
theorem tyc_spec {g : Bool} {m : Nat} (ht : tyc P t = some (g, m)) : ∃ d i, P.underlying t = some d ∧ P.info? t = some i ∧ isAggD d = g ∧ i.size = m := by
  unfold tyc at ht
  split at ht
  · rename_i d i hu hi
    simp only [Option.some.injEq, Prod.mk.injEq] at ht
    exact ⟨d, i, hu, hi, ht.1, ht.2⟩
  · cases ht
/-- The equations hold wherever the fact is there; each is taken axs a rule with the fact's own name. -/
theorem aload_eq {f : Bool × Nat} (ht : tyc P t = some f) : aload P h t (.pointer (some ⟨b, o, none⟩)) = mkLoad o (some f) h[b]? := by
  obtain ⟨g, m⟩ := f
  obtain ⟨d, i, hu, hi, h1, h2⟩ := tyc_spec ht
  unfold aload aloadRow mkLoad
  simp only [hu, hi, h1, h2]
  cases hb : h[b]? with
  | none => cases g <;> rfl
  | some x => cases x <;> cases g <;> rfl
theorem astore_eq' {f : Bool × Nat} (ht : tyc P t = some f) : astore P h t (.pointer (some ⟨b, o, none⟩)) v = mkStore h b o v (some f) h[b]? := by
  obtain ⟨g, m⟩ := f
  obtain ⟨d, i, hu, hi, h1, h2⟩ := tyc_spec ht
  unfold astore mkStore
  simp only [hi, h2]
  cases hb : h[b]? with
  | none => rfl
  | some x =>
    cases x with
    | cells c es rw =>
      cases rw with
      | false => rfl
      | true =>
        simp only []
        by_cases hc : v.cells.size = m
        · subst hc; rfl
        · rw [if_neg (fun e => hc e.2.1), if_neg (fun e => hc e.2.1)]
    | _ => rfl
theorem afieldAddr_eq' {f : Nat × Bool × Nat} (hf : fld P t k = some f) : afieldAddr P t (.pointer (some ⟨b, o, none⟩)) k = mkFieldAddr b o (some f) := by
  obtain ⟨off, g, m⟩ := f
  obtain ⟨fields, fd, hu, hfd, ho, ht⟩ := fld_spec hf
  obtain ⟨d, i, hud, hi, h1, h2⟩ := tyc_spec ht
  simp only [afieldAddr, hu, hfd, hi]
  subst ho
  cases m with
  | zero => rw [if_pos h2]; rfl
  | succ m => rw [if_neg (by omega)]; rfl
theorem afield_eq' {f : Nat × Bool × Nat} (hf : fld P t k = some f) : afield P t (.agg cs) k = mkField cs (some f) := by
  obtain ⟨off, g, m⟩ := f
  obtain ⟨fields, fd, hu, hfd, ho, ht⟩ := fld_spec hf
  obtain ⟨d, i, hud, hi, h1, h2⟩ := tyc_spec ht
  subst ho
  simp only [afield, hu, hfd, apart, hud, hi, h1, h2]
  cases g <;> rfl
theorem aindexA_eq' {f : Nat × Bool × Nat} (ha : arr P t = some f) : aindexAddr P t (.pointer (some ⟨b, o, none⟩)) (.int ik i) = mkIndexA b o i (some f) := by
  obtain ⟨m0, g, m⟩ := f
  obtain ⟨elem, ie, hu, ht, hie, hsz⟩ := arr_spec ha
  simp only [aindexAddr, hu, hie, hsz, mkIndexA]
theorem aindexS_eq' {f : Bool × Nat × Nat} (ha : slc P t = some f) : aindexAddr P t (.slice (some ⟨b, o, none⟩) len cap) (.int ik i) = mkIndexS b o len i (some f) := by
  obtain ⟨g, m, by_⟩ := f
  obtain ⟨elem, ie, hu, ht, hie, hsz, _⟩ := slc_spec ha
  simp only [aindexAddr, hu, hie, hsz, mkIndexS]
theorem alen_eq' {f : Bool × Nat × Nat} {a : Option Addr} (ha : slc P t = some f) : alen P h t (.slice a len cap) = some (.int .i64 len) := by
  obtain ⟨g, m, by_⟩ := f
  exact alen_slc ha
theorem aalloc_eq' {zc : Array Value} (hz : zeroCellsOf P t = some zc) : aalloc P h t = mkAlloc h (some zc) := aalloc_eq hz
theorem zero_plain {zc : Array Value} (hz : zeroCellsOf P t = some zc) : ∃ i z, P.info? t = some i ∧ i.zero = some z ∧ z.cells = zc ∧ plainB z = true ∧ storable z = true ∧ zc.size = i.size := by
  obtain ⟨i, z, hi, hz', hzc, hall, hsz, hpos⟩ := zeroCellsOf_spec hz
  have hp : plainB z = true ∧ storable z = true := by
    cases z with
    | agg cs => simp only [Value.cells] at hzc; subst hzc; exact ⟨hall, rfl⟩
    | _ =>
      simp only [Value.cells] at hzc
      subst hzc
      simp only [List.all_toArray, List.all_cons, List.all_nil, Bool.and_true] at hall
      first
        | (simp [plain1] at hall; done)
        | exact ⟨by simpa [plainB] using hall, rfl⟩
        | (refine ⟨by cases ‹Option _› <;> simp_all [plainB, plain1], rfl⟩)
  exact ⟨i, z, hi, hz', hzc, hp.1, hp.2, hsz⟩
theorem abuild_eq' {zc : Array Value} {pl : List (Nat × Nat)} {parts : List (Nat × Value)} (hz : zeroCellsOf P t = some zc) (hp : plc P t = some pl) : abuild P t parts = mkBuild parts (some zc) (some pl) := by
  obtain ⟨i, z, hi, hz', hzc, hp1, hp2, hsz⟩ := zero_plain hz
  unfold plc at hp
  split at hp
  · rename_i fields hu
    simp only [Option.map_eq_some_iff] at hp
    obtain ⟨places, hpl, rfl⟩ := hp
    simp only [abuild, hi, hz', hp1, hp2, Bool.and_self, if_true, hu, hpl, hzc, mkBuild, Array.getElem?_toList]
  · cases hp
theorem abuildA_eq' {zc : Array Value} {f : Nat × Bool × Nat} {parts : List (Nat × Value)} (hz : zeroCellsOf P t = some zc) (ha : arr P t = some f) : abuild P t parts = mkBuildA parts (some zc) (some f) := by
  obtain ⟨m0, g, m⟩ := f
  obtain ⟨i, z, hi, hz', hzc, hp1, hp2, hsz⟩ := zero_plain hz
  obtain ⟨elem, ie, hu, ht, hie, hsz⟩ := arr_spec ha
  simp only [abuild, hi, hz', hp1, hp2, Bool.and_self, if_true, hu, hie, hsz, hzc, mkBuildA]
theorem abuildS_eq' {zc : Array Value} {parts : List (Nat × Value)} (hz : slz P t = some zc) : abuildSlice P h t len parts = mkBuildS h len parts (some zc) := by
  unfold slz at hz
  split at hz
  · rename_i elem hu
    simp only [abuildSlice, hu, hz, mkBuildS]
    split
    · rfl
    · rfl
  · cases hz
theorem asliceS_eq' {f : Bool × Nat × Nat} (ha : slc P t = some f) : aslice P h t (.slice (some ⟨b, o, none⟩) len cap) lo hi = mkSliceS b o len cap lo hi (some f) h[b]? := by
  obtain ⟨g, m, by_⟩ := f
  obtain ⟨elem, ie, hu, ht, hie, hsz, _⟩ := slc_spec ha
  simp only [aslice, hu, hie, asliceS, hsz]
  cases hb : h[b]? with
  | none => rfl
  | some x => cases x <;> rfl
theorem asliceA_eq' {f : Nat × Bool × Nat} (ha : arr P t = some f) : aslice P h t (.pointer (some ⟨b, o, none⟩)) lo hi = mkSliceA b o lo hi (some f) := by
  obtain ⟨m0, g, m⟩ := f
  obtain ⟨elem, ie, hu, ht, hie, hsz⟩ := arr_spec ha
  simp only [aslice, hu, hie, hsz, mkSliceA]
  rfl
theorem asliceN_eq' {f : Bool × Nat × Nat} (ha : slc P t = some f) : aslice P h t (.slice none 0 0) lo hi = (abounds 0 0 lo hi).map fun _ => .slice none 0 0 := by
  obtain ⟨g, m, by_⟩ := f
  obtain ⟨elem, ie, hu, ht, hie, hsz, _⟩ := slc_spec ha
  simp only [aslice, hu, hie]
  cases abounds 0 0 lo hi <;> rfl
theorem aappend_eq' {f : Bool × Nat × Nat} {zc : Array Value} {s : Value} (ha : slc P t = some f) (hz : slz P t = some zc) (hn : nint P u = true) : aappend P h t u s x = orT (mkApp h s (some f) (mkSrc h x (some f) true)) (aappendT P h t u s x) := by
  obtain ⟨g, m, by_⟩ := f
  obtain ⟨elem, ie, hu, ht, hie, hsz, hby⟩ := slc_spec ha
  unfold slz at hz
  rw [hu] at hz
  simp only at hz
  have : aappended P h elem u m x = asource h m x := by
    unfold nint at hn
    unfold aappended
    split at hn
    · cases hn
    · rename_i d hd hu2
      rw [hu2]
      cases d <;> first | rfl | (exfalso; exact hd _ rfl)
    · cases hn
  have hmt : m < tagN := by
    have h1 := (zeroCellsOf_tag hz).1
    obtain ⟨i2, z2, h2, _, _, _, h3, _⟩ := zeroCellsOf_spec hz
    rw [hie] at h2; cases h2
    omega
  unfold orT
  split
  · rename_i r hr
    simp only [mkSrc, mkApp] at hr
    simp only [aappend, hu, hie, hz, hsz, this, hby]
    split at hr
    · rename_i m' by' n' new' e1 e2
      simp only [Option.some.injEq, Prod.mk.injEq] at e1
      obtain ⟨rfl, rfl, rfl⟩ := e1
      simp only [e2]
      split at hr
      · exact hr
      · rename_i b o len cap
        simp only
        by_cases hc : n' = 0 ∧ len ≤ cap
        · rw [if_pos hc] at hr ⊢; exact hr
        · rw [if_neg hc] at hr ⊢
          cases hb : h[b]? with
          | none => rw [hb] at hr; cases hr
          | some x => cases x with
            | cells c es rw' => cases rw' with
              | true =>
                rw [hb] at hr
                simp only at hr ⊢
                by_cases hq : o + len * m ≤ c.size ∧ es = m
                · rw [if_pos hq] at hr
                  obtain ⟨hq1, rfl⟩ := hq
                  rw [if_pos ⟨hq1, .inl ⟨rfl, hmt⟩⟩]
                  exact hr
                · rw [if_neg hq] at hr; cases hr
              | false => rw [hb] at hr; cases hr
            | _ => rw [hb] at hr; cases hr
      · cases hr
    · cases hr
  · rfl
end
end Go.Am

set_option linter.unusedVariables false
set_option linter.unusedSimpArgs false
/- Closed calls, reckoned. -/
namespace Go.Am
open Go
section
variable (P : Program) (call : FuncId → Array Value → AH → Option (Value × AH × Nat))
end
/-! what it says -/
/-- nothing below was written -/
def Low (h h1 : AH) (lo : Nat) : Prop := h.length ≤ h1.length ∧ ∀ b, b < lo → b < h.length → h1[b]? = h[b]?
theorem Low.refl (h : AH) (lo : Nat) : Low h h lo := ⟨Nat.le_refl _, fun _ _ _ => rfl⟩
theorem Low.trans {h h1 h2 : AH} {l1 l2 lo : Nat} (a : Low h h1 l1) (b : Low h1 h2 l2) (e1 : lo ≤ l1) (e2 : lo ≤ l2) : Low h h2 lo :=
  ⟨Nat.le_trans a.1 b.1, fun k hk hl => (b.2 k (by omega) (Nat.lt_of_lt_of_le hl a.1)).trans (a.2 k (by omega) hl)⟩
theorem Low.append (h l : AH) (lo : Nat) : Low h (h ++ l) lo := ⟨by simp, fun b _ hb => List.getElem?_append_left hb⟩
theorem Low.set (h : AH) (b : Nat) (o : AObj) : Low h (h.set b o) b := ⟨by simp, fun k hk _ => List.getElem?_set_ne (by omega)⟩
theorem plain_ren {σ : Nat → Nat} {L : Nat} {v : Value} (h : plainB v = true) : VRen σ L v v := by
  cases v with
  | agg cs =>
    refine .agg cs cs rfl fun i => ?_
    by_cases hi : i < cs.size
    · exact .plain _ (getD_all h i hi)
    · rw [getD_ge i hi]; exact .junk _
  | iface t v => exact .iface t v v (.plain v h)
  | func fn xs cs =>
    cases fn with
    | func F =>
      simp only [plainB, Bool.and_eq_true, beq_iff_eq] at h
      exact .func _ xs xs cs cs rfl rfl (fun i => by rw [getD_ge i (by omega)]; exact .junk _) rfl (fun i => by rw [getD_ge i (by omega)]; exact .junk _)
    | _ => simp [plainB, plain1] at h
  | _ => exact .plain _ (by simpa [plainB] using h)
theorem GC.drop {h0 h : AH} (hl : h0.length ≤ h.length) (hp : ∀ b, b < h0.length → h[b]? = h0[b]?) : GC h0 id h h0 :=
  ⟨Nat.le_refl _, fun _ _ => rfl, fun b o1 hb _ => ⟨o1, by
    have hlt := (List.getElem?_eq_some_iff.1 hb).1
    show h[b]? = _
    rw [hp b hlt]; exact hb, .inl ⟨(List.getElem?_eq_some_iff.1 hb).1, hb, rfl⟩⟩, fun b b' _ _ e => e⟩
end Go.Am

set_option linter.unusedVariables false
set_option linter.unusedSimpArgs false
/- The end of a function. -/
namespace Go.Am
open Go
def keeps (h0 h : AH) : Prop := h0.length ≤ h.length ∧ ∀ b, b < h0.length → h[b]? = h0[b]?
theorem keeps_refl (h : AH) : keeps h h := ⟨Nat.le_refl _, fun _ _ => rfl⟩
theorem keeps_append (h l : AH) : keeps h (h ++ l) := ⟨by simp, fun b hb => List.getElem?_append_left hb⟩
theorem aresults_tmp {P : Program} {fn : Func} {t : Nat} (hr : fn.results = #[.tmp t]) (a : Array Value) (h : AH) : aresults P fn a h = some (a.getD t junk) := by
  simp [aresults, hr, aresL, ares1]
theorem aresults_cell {P : Program} {fn : Func} {t : Nat} {ty : TypeId} (hr : fn.results = #[.cell t ty]) (a : Array Value) (h : AH) : aresults P fn a h = aload P h ty (a.getD t junk) := by
  simp only [aresults, hr, aresL, ares1]
  cases aload P h ty (a.getD t junk) <;> rfl
theorem aresults_cell_tmp {P : Program} {fn : Func} {t u : Nat} {ty : TypeId} {v : Value} (hr : fn.results = #[.cell t ty, .tmp u]) (a : Array Value) (h : AH) (hv : aload P h ty (a.getD t junk) = some v) : aresults P fn a h = some (.tuple #[v, a.getD u junk]) := by
  simp only [aresults, hr, aresL, ares1, hv]
/-- a plain value; all that was made is dropped -/
theorem apost_plain {P : Program} {h0 h : AH} {fn : Func} {R : Value → AH → Prop} {a : Array Value} {v : Value} (hv : aresults P fn a h = some v) (hp : plainB v = true) (hk : keeps h0 h) (hR : R v h0) : apost P h0 fn R .ret a h :=
  ⟨v, v, h0, hv, ForgetV.eases (.inr ⟨id, GC.drop hk.1 hk.2, plain_ren hp⟩), hR⟩
theorem plain_ren_tuple {σ : Nat → Nat} {L : Nat} {l : List Value} (h : l.all plainB = true) : VRen σ L (.tuple l.toArray) (.tuple l.toArray) := by
  refine .tuple _ _ rfl fun i => ?_
  rw [List.all_eq_true] at h
  by_cases hi : i < l.length
  · have : (l.toArray).getD i junk = l[i] := by simp [Array.getD, hi]
    rw [this]
    exact plain_ren (h _ (List.getElem_mem hi))
  · rw [getD_ge i (by simpa using hi)]; exact .junk _
/-- several plain values -/
theorem apost_tuple {P : Program} {h0 h : AH} {fn : Func} {R : Value → AH → Prop} {a : Array Value} {l : List Value} (hv : aresults P fn a h = some (.tuple l.toArray)) (hp : l.all plainB = true) (hk : keeps h0 h) (hR : R (.tuple l.toArray) h0) : apost P h0 fn R .ret a h :=
  ⟨_, _, h0, hv, ForgetV.eases (.inr ⟨id, GC.drop hk.1 hk.2, plain_ren_tuple hp⟩), hR⟩
/-- which new blocks are kept, and in which order -/
def pick (n : Nat) (js : List Nat) (b : Nat) : Nat := if b < n then b else n + js.getD (b - n) (b - n)
theorem pick_lt (n : Nat) (js : List Nat) (b : Nat) (h : b < n) : pick n js b = b := by simp [pick, h]
theorem pick_new (n : Nat) (js : List Nat) (k : Nat) : pick n js (n + k) = n + js.getD k k := by
  unfold pick; rw [if_neg (by omega)]; congr 2 <;> omega
theorem GC.pick {h0 t t1 : AH} (js : List Nat) (hl : js.length = t1.length) (hnd : js.Nodup)
    (hobj : ∀ i o1, t1[i]? = some o1 → o1.alive = true → ∃ o, t[js.getD i i]? = some o ∧ ORen (pick h0.length js) (h0.length + t1.length) o1 o) : GC h0 (pick h0.length js) (h0 ++ t) (h0 ++ t1) := by
  refine ⟨by simp, fun b hb => pick_lt _ _ _ hb, fun b o1 hb ha => ?_, fun b b' hb hb' e => ?_⟩
  · by_cases hlt : b < h0.length
    · rw [List.getElem?_append_left hlt] at hb
      exact ⟨o1, by rw [pick_lt _ _ _ hlt, List.getElem?_append_left hlt]; exact hb, .inl ⟨hlt, hb, rfl⟩⟩
    · obtain ⟨k, rfl⟩ : ∃ k, b = h0.length + k := ⟨b - h0.length, by omega⟩
      rw [at_new] at hb
      obtain ⟨o, h1, h2⟩ := hobj k o1 hb ha
      exact ⟨o, by rw [pick_new, at_new]; exact h1, .inr (by simpa using h2)⟩
  · simp only [List.length_append] at hb hb'
    by_cases h1 : b < h0.length <;> by_cases h2 : b' < h0.length
    · rw [pick_lt _ _ _ h1, pick_lt _ _ _ h2] at e; exact e
    · obtain ⟨k, rfl⟩ : ∃ k, b' = h0.length + k := ⟨b' - h0.length, by omega⟩
      rw [pick_lt _ _ _ h1, pick_new] at e; omega
    · obtain ⟨k, rfl⟩ : ∃ k, b = h0.length + k := ⟨b - h0.length, by omega⟩
      rw [pick_lt _ _ _ h2, pick_new] at e; omega
    · obtain ⟨k, rfl⟩ : ∃ k, b = h0.length + k := ⟨b - h0.length, by omega⟩
      obtain ⟨k', rfl⟩ : ∃ k, b' = h0.length + k := ⟨b' - h0.length, by omega⟩
      rw [pick_new, pick_new] at e
      have hk : k < js.length := by omega
      have hk' : k' < js.length := by omega
      have e2 : js[k] = js[k'] := by
        have : js.getD k k = js.getD k' k' := by omega
        simpa [List.getD, hk, hk'] using this
      have := (List.getElem_inj hnd).1 e2
      omega
/-- one new block is kept -/
theorem GC.one {h0 t : AH} (j : Nat) (o1 : AObj) (hobj : ∃ o, t[j]? = some o ∧ ORen (Am.pick h0.length [j]) (h0.length + 1) o1 o) : GC h0 (Am.pick h0.length [j]) (h0 ++ t) (h0 ++ [o1]) :=
  GC.pick [j] rfl (by simp) (fun i o1' hi ha => by
    cases i with
    | zero => simp at hi; subst hi; exact hobj
    | succ i => simp at hi)
end Go.Am

set_option linter.unusedVariables false
set_option linter.unusedSimpArgs false
/- Booleans at a gate; the smaller and the greater one. -/
namespace Go.Am
open Go
theorem beq_ft : (false == true) = false := rfl
theorem beq_tf : (true == false) = false := rfl
section
variable {P : Program} {ops : Array Oper} {Q : Exit → Array Value → AH → Prop} {rest : List Oper} {a : Array Value} {h : AH} {ρ : Operand → Value} {dst : Option Tmp} {ty : TypeId} {pos : String} {after : Array Edge} {guard : Option (Nat × Bool)}
end
section
variable {P : Program} {ops : Array Oper} {Q : Exit → Array Value → AH → Prop} {rest : List Oper} {a : Array Value} {h H0 : AH} {dst : Option Tmp} {o : Oper} {F : FuncId} {args : Array Value}
/-- a call whose contract is known -/
theorem astep_calls {R : Value → AH → Prop} (hc : ACalls P F args h R) (hn : ∀ v h1, R v h1 → awl P ops Q rest (aput a dst v) h1) : astep P ops Q rest dst a h (some (.enter F args)) := ⟨R, hc, hn⟩
/-- a call that tells one value and leaves all axs it was -/
theorem astep_call {v : Value} {h2 : AH} (hc : ACalls P F args h (fun u h' => u = v ∧ h' = h2)) (hn : awl P ops Q rest (aput a dst v) h2) : astep P ops Q rest dst a h (some (.enter F args)) :=
  ⟨_, hc, fun _ _ e => by obtain ⟨rfl, rfl⟩ := e; exact hn⟩
theorem dstep_call {v : Value} {h2 : AH} (hc : ACalls P F args h (fun u h' => u = v ∧ h' = h2)) (hp : Pres H0 h2) (hn : awd P ops H0 Q rest (aput a o.dst v) h2) (hcm : Calm P ops F args h (fun u h' => u = v ∧ h' = h2) := by exact .inl rfl) : dstep P ops H0 Q rest o a h (some (.enter F args)) :=
  ⟨_, hc, hcm, fun _ _ e => by obtain ⟨rfl, rfl⟩ := e; exact ⟨hp, hn⟩⟩
/-- a call that leaves the heap alone, where something new is made at any time -/
theorem dstep_callA {v : Value} (hc : ∀ x : AH, ACalls P F args (h ++ x) (fun u h' => u = v ∧ h' = h ++ x)) (hp : Pres H0 h) (hn : awd P ops H0 Q rest (aput a o.dst v) h) : dstep P ops H0 Q rest o a h (some (.enter F args)) := by
  have hc0 := hc []
  rw [List.append_nil] at hc0
  exact ⟨_, hc0, .inr ⟨fun u h1 e => e.2, fun x => (hc x).mono fun u h1 e => ⟨⟨e.1, rfl⟩, e.2⟩⟩, fun _ _ e => by obtain ⟨rfl, rfl⟩ := e; exact ⟨hp, hn⟩⟩
theorem pres_refl : Pres H0 H0 := fun _ _ => rfl
end
theorem wrap_i64_of (n : Int) (h0 : -9223372036854775808 ≤ n) (h1 : n < 9223372036854775808) : IntKind.i64.wrap n = n := by
  unfold IntKind.wrap
  simp only [IntKind.bits, IntKind.signed]
  first | omega | (simp; omega) | (split <;> omega)
/-! rows that are written -/
theorem blit_all {c d : Array Value} (h : c.size = d.size) : blit c 0 d.toList = d := by rw [blit_whole _ _ (by simp [h])]
theorem blit_one' {c : Array Value} {k : Nat} {v : Value} : blit c k [v] = c.setIfInBounds k v := rfl
/-- one plain result that a temporary holds -/
theorem apost_tmp {P : Program} {h0 : AH} {fn : Func} {R : Value → AH → Prop} {v : Value} {k : Nat} (hr : fn.results = #[.tmp k]) (hp : plainB v = true) (hR : R v h0) (l : List Value) (t : AH) (hl : l.getD k junk = v) : apost P h0 fn R .ret l.toArray (h0 ++ t) :=
  apost_plain (by rw [aresults_tmp hr, getD_lit, hl]) hp (keeps_append _ _) hR
end Go.Am

