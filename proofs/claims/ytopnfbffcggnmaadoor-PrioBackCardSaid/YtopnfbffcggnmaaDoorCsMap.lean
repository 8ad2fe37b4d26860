/- The operations on maps. -/
import Derived.Test.YtopnfbffcggnmaaDoorCsOpE
import Derived.MapKept
namespace Go.Cs
open Go.RowKit (Below)
variable {P : Program} {fid : FuncId → Option Nat} {N : Nat} {w0 : World} {X : Cx} {cw : CW} {w : World} {ρ : Env} {a : Act}

theorem getMap {r : Nat} {es : Array MapEntry} {clock : Nat} (h : w.heap[r]? = some (.map es clock)) : (getObj r).run P w = .ok (.map es clock) w := by
  simp [getObj, Sem.run, h]

theorem setMap {r : Nat} {es : Array MapEntry} {clock : Nat} (o : Obj) (h : w.heap[r]? = some (.map es clock)) : (setObj r o).run P w = .ok () { w with heap := w.heap.setIfInBounds r o } := by
  simp [setObj, Sem.run, h]

theorem keyEq_eq {k k' : CV} (h : keyEq k k' = true) : k' = k := by
  cases k <;> cases k' <;> simp [keyEq] at h
  · obtain ⟨rfl, rfl⟩ := h; rfl
  · subst h; rfl

def KeyD (ks : Bool) (d : TypeDesc) : Prop := (ks = false ∧ ∃ k, d = .int k) ∨ (ks = true ∧ d = .string)

theorem isKeyT_spec {t : TypeId} {ks : Bool} (h : isKeyT P t = some ks) : ∃ d, P.underlying t = some d ∧ KeyD ks d := by
  unfold isKeyT at h
  split at h <;> cases h
  · rename_i k ht; exact ⟨_, ht, .inl ⟨rfl, k, rfl⟩⟩
  · rename_i ht; exact ⟨_, ht, .inr ⟨rfl, rfl⟩⟩

theorem sameNow_run {ks : Bool} {d : TypeDesc} {k k' : CV} {v v' : Value} (hd : KeyD ks d) (hk : isKey ks k = true) (hs : sameKind k k' = true) (hv : VR fid X w k v) (hv' : VR fid X w k' v') :
    Instr.sameNow d v v' = some (keyEq k k') := by
  cases k <;> simp [isKey] at hk <;> cases k' <;> simp [sameKind] at hs
  · subst hs; subst hk
    rcases hd with ⟨_, q, rfl⟩ | ⟨h, _⟩
    · rw [hv.int_inv, hv'.int_inv]; simp [Instr.sameNow, keyEq]
    · cases h
  · subst hk
    rcases hd with ⟨h, _⟩ | ⟨_, rfl⟩
    · cases h
    · rw [hv.str_inv, hv'.str_inv]
      simp only [Instr.sameNow, keyEq, beq_toListBytes, ByteArray.toList_mk]

/-- Entries, and Go's. -/
def EntR (fid : FuncId → Option Nat) (X : Cx) (w : World) (es : List (CV × CV × Nat)) (rs : List MapEntry) : Prop :=
  rs.length = es.length ∧ ∀ (i : Nat) (e : CV × CV × Nat), es[i]? = some e → ∃ r, rs[i]? = some r ∧ r.born = e.2.2 ∧ VR fid X w e.1 r.key ∧ VR fid X w e.2.1 r.val

theorem find_run {ks : Bool} {d : TypeDesc} {k : CV} {v : Value} (hd : KeyD ks d) (hk : isKey ks k = true) (hv : VR fid X w k v) :
    ∀ (es : List (CV × CV × Nat)) (rs : List MapEntry) (i : Nat) (r : Option (Nat × CV × Nat)), EntR fid X w es rs → findE k es i = some r →
      (r = none ∧ Instr.findNow d v rs i = some none) ∨ ∃ j c b u, r = some (j, c, b) ∧ i ≤ j ∧ es[j - i]? = some (k, c, b) ∧ (rs[j - i]?).map (·.val) = some u ∧ VR fid X w c u ∧ Instr.findNow d v rs i = some (some (j, u))
  | [], rs, i, r, h, hf => by
    cases hf
    have : rs = [] := List.length_eq_zero_iff.1 (by rw [h.1]; rfl)
    subst this
    exact .inl ⟨rfl, rfl⟩
  | (k', c, b) :: es, rs, i, r, h, hf => by
    cases rs with
    | nil => have := h.1; simp at this
    | cons e rs =>
      obtain ⟨e', he, hb, h1, h2⟩ := h.2 0 _ rfl
      simp at he
      subst he
      simp only [findE] at hf
      split at hf
      · rename_i hs
        have hn := sameNow_run hd hk hs hv h1
        split at hf
        · rename_i hq
          cases hf
          cases keyEq_eq hq
          refine .inr ⟨i, c, b, e.val, rfl, Nat.le_refl _, by simp, by simp, h2, ?_⟩
          simp only [Instr.findNow, hn, hq]
        · rename_i hq
          have hq' : keyEq k k' = false := by simpa using hq
          have hrest : EntR fid X w es rs := ⟨by have := h.1; simpa using this, fun j e' hj => by have := h.2 (j + 1) e' (by simpa using hj); simpa using this⟩
          rcases find_run hd hk hv es rs (i + 1) r hrest hf with ⟨rfl, hn'⟩ | ⟨j, c', b', u, rfl, hle, g1, g2, g3, g4⟩
          · refine .inl ⟨rfl, ?_⟩
            simp only [Instr.findNow, hn, hq', hn']
          · refine .inr ⟨j, c', b', u, rfl, by omega, ?_, ?_, g3, ?_⟩
            · rw [show j - i = (j - (i + 1)) + 1 by omega]; simpa using g1
            · rw [show j - i = (j - (i + 1)) + 1 by omega]; simpa using g2
            · simp only [Instr.findNow, hn, hq', g4]
      · cases hf

theorem checkKey_run {ks : Bool} {d : TypeDesc} {kt : TypeId} {k : CV} {v : Value} (ht : P.underlying kt = some d) (hd : KeyD ks d) (hk : isKey ks k = true) (hv : VR fid X w k v) (em : Bool) (n : Nat) :
    (Instr.checkKey em (n + 1) kt v).run P w = .ok () w := by
  rcases hd with ⟨_, q, rfl⟩ | ⟨_, rfl⟩ <;> cases k <;> simp [isKey] at hk
  all_goals first
    | (rw [hv.int_inv]; simp [Instr.checkKey, run_underlying ht])
    | (rw [hv.str_inv]; simp [Instr.checkKey, run_underlying ht])

theorem findKey_run {d : TypeDesc} {kt : TypeId} {v : Value} {es : List MapEntry} {r : Option (Nat × Value)} (ht : P.underlying kt = some d) (h : Instr.findNow d v es 0 = some r) :
    (Instr.findKey kt v es).run P w = .ok r w := by
  simp [Instr.findKey, run_underlying ht, h]

theorem Sim.mapAt (h : Sim fid N w0 X cw w) {b : Nat} {es : List (CV × CV × Nat)} {clock : Nat} (hg : cw.get b = some (.map es clock)) :
    ∃ m res, X.M b = some m ∧ w.heap[m.1]? = some (.map res clock) ∧ EntR fid X w es res.toList := by
  obtain ⟨m, hm, res, h1, h2, h3⟩ := h.get hg
  exact ⟨m, res, hm, h1, by simpa using h2, fun i e he => by simpa using h3 i e he⟩

theorem putObj_upd {r : Nat} {es : Array MapEntry} {clock : Nat} {o : Obj} (h : w.heap[r]? = some (.map es clock)) : Upd w r o { w with heap := w.heap.setIfInBounds r o } := by
  have := heap_lt h
  refine ⟨rfl, rfl, rfl, by simp, ?_, fun k hk => ?_⟩
  · show (w.heap.setIfInBounds r o)[r]? = _
    rw [Array.getElem?_setIfInBounds_self_of_lt this]
  · show (w.heap.setIfInBounds r o)[k]? = _
    rw [Array.getElem?_setIfInBounds_ne (by omega)]

theorem map_val {b : Nat} {v : Value} (hv : VR fid X w (.map b) v) {m : Nat × Nat × Nat} (hm : X.M b = some m) : v = .map (some m.1) := by
  cases hv with
  | map h1 h2 => rw [h2 m hm]

theorem mkmap_ok {t : TypeId} (hS : Sim fid N w0 X cw w) : OpOk fid N w0 X P (do pure (.value (← Instr.makeMap t none))) w (.map cw.next) (cw.push (.map [] 0)) := by
  have := hS.mut (o := .map [] 0) (ob := .map #[] 0) (base := 0) (e := 0) fun _ => ⟨#[], by show (w.heap.push _)[w.heap.size]? = _; simp, rfl, fun i e he => by simp at he⟩
  refine OpOk.val (v := .map (some w.heap.size)) ?_ this.1 this.2 (.map (by show cw.next < X.nx + 1; rw [hS.nx]; omega) fun m hm => ?_)
  · simp [Instr.makeMap]
  · have : (if cw.next = X.nx then some (w.heap.size, 0, 0) else X.M cw.next) = some m := hm
    rw [if_pos hS.nx.symm] at this
    cases this; rfl

theorem look_ok {t kt e : TypeId} {ks ok : Bool} {x k z : CV} {vx vk zv : Value} {i : TypeInfo} {r : Option (Nat × CV × Nat)} (hS : Sim fid N w0 X cw w) (ht : P.underlying t = some (.map kt e)) (hks : isKeyT P kt = some ks) (hi : P.info? e = some i) (hz : i.zero = some zv) (hzc : cvOf zv = some z)
    (hx : VR fid X w x vx) (hk : VR fid X w k vk) (hik : isKey ks k = true)
    (hr : (x = .nilm ∧ r = none) ∨ ∃ b es clock, x = .map b ∧ cw.get b = some (.map es clock) ∧ findE k es 0 = some r) :
    OpOk fid N w0 X P (do pure (.value (← Instr.lookup t vx vk ok))) w (match r with | some (_, v, _) => (if ok then .tup [v, .bool true] else v) | none => (if ok then .tup [z, .bool false] else z)) cw := by
  obtain ⟨d, hd, hkd⟩ := isKeyT_spec hks
  have hzr : (zeroValue e).run P w = .ok zv w := by simp [zeroValue, typeInfo, hi, hz]
  have pair : ∀ (c : CV) (u : Value) (b : Bool), VR fid X w c u → VR fid X w (.tup [c, .bool b]) (.tuple #[u, .bool b]) := by
    intro c u b hu
    refine .tup rfl fun i c' hc => ?_
    match i with
    | 0 => simp at hc; subst hc; exact hu
    | 1 => simp at hc; subst hc; exact .bool b
    | n + 2 => simp at hc
  rcases hr with ⟨rfl, rfl⟩ | ⟨b, es, clock, rfl, hg, hf⟩
  · cases hx
    have hck := checkKey_run (P := P) hd hkd hik hk true 9999
    have hfk := findKey_run (P := P) (w := w) (v := vk) (es := []) (r := none) hd rfl
    cases ok
    · refine OpOk.pur (v := zv) hS ?_ (cvOf_vr hzc)
      simp [Instr.lookup, run_underlying ht, hck, hfk, hzr]
    · refine OpOk.pur (v := .tuple #[zv, .bool false]) hS ?_ (pair _ _ _ (cvOf_vr hzc))
      simp [Instr.lookup, run_underlying ht, hck, hfk, hzr]
  · obtain ⟨m, res, hm, hh, hent⟩ := hS.mapAt hg
    rw [map_val hx hm]
    have hck := fun em => checkKey_run (P := P) hd hkd hik hk em 9999
    rcases find_run hkd hik hk es res.toList 0 r hent hf with ⟨rfl, hn⟩ | ⟨j, c, b', u, rfl, _, g1, g2, g3, g4⟩
    · have hfk := findKey_run (P := P) (w := w) hd hn
      cases ok
      · refine OpOk.pur (v := zv) hS ?_ (cvOf_vr hzc)
        simp [Instr.lookup, run_underlying ht, getMap hh, hck, hfk, hzr]
      · refine OpOk.pur (v := .tuple #[zv, .bool false]) hS ?_ (pair _ _ _ (cvOf_vr hzc))
        simp [Instr.lookup, run_underlying ht, getMap hh, hck, hfk, hzr]
    · have hfk := findKey_run (P := P) (w := w) hd g4
      cases ok
      · refine OpOk.pur (v := u) hS ?_ g3
        simp [Instr.lookup, run_underlying ht, getMap hh, hck, hfk]
      · refine OpOk.pur (v := .tuple #[u, .bool true]) hS ?_ (pair _ _ _ g3)
        simp [Instr.lookup, run_underlying ht, getMap hh, hck, hfk]

theorem stays_run {ks : Bool} {k : CV} {v u : Value} (hik : isKey ks k = true) (hv : VR fid X w k v) (hu : VR fid X w k u) : (Instr.keyThatStays u v).run P w = .ok v w := by
  cases k <;> simp [isKey] at hik
  · rw [hv.int_inv, hu.int_inv]; simp [Instr.keyThatStays, Instr.sameBits]
  · rw [hv.str_inv, hu.str_inv]
    rename_i l
    have : (ByteArray.mk l.toArray == ByteArray.mk l.toArray) = true := by
      rw [beq_toListBytes]; exact beq_self_eq_true _
    simp only [Instr.keyThatStays, Instr.sameBits, this]
    rfl

/-- A map is written. -/
theorem map_upd (hS : Sim fid N w0 X cw w) {b : Nat} {m : Nat × Nat × Nat} {es' : List (CV × CV × Nat)} {res res' : Array MapEntry} {clock clock' : Nat} (hm : X.M b = some m) (hh : w.heap[m.1]? = some (.map res clock))
    (hent : EntR fid X w es' res'.toList) : Sim fid N w0 X (cw.set b (.map es' clock')) { w with heap := w.heap.setIfInBounds m.1 (.map res' clock') } ∧ Ext X w X { w with heap := w.heap.setIfInBounds m.1 (.map res' clock') } := by
  have hu := putObj_upd (o := .map res' clock') hh
  have ex := hS.upd_ext hm hu
  refine hS.upd hm hu ⟨res', hu.here, by simpa using hent.1, fun i e he => ?_⟩
  obtain ⟨r, g1, g2, g3, g4⟩ := hent.2 i e he
  exact ⟨r, by simpa using g1, g2, g3.mono ex, g4.mono ex⟩

theorem EntR.modify {es : List (CV × CV × Nat)} {rs : List MapEntry} (h : EntR fid X w es rs) (j : Nat) {f : CV × CV × Nat → CV × CV × Nat} {g : MapEntry → MapEntry}
    (hfg : ∀ e r, es[j]? = some e → rs[j]? = some r → r.born = e.2.2 → VR fid X w e.1 r.key → VR fid X w e.2.1 r.val → (g r).born = (f e).2.2 ∧ VR fid X w (f e).1 (g r).key ∧ VR fid X w (f e).2.1 (g r).val) :
    EntR fid X w (es.modify j f) (rs.modify j g) := by
  refine ⟨by simp [h.1], fun i e he => ?_⟩
  simp only [List.getElem?_modify, Option.map_eq_map, Option.map_eq_some_iff] at he ⊢
  obtain ⟨e', he', rfl⟩ := he
  obtain ⟨r, g1, g2, g3, g4⟩ := h.2 i e' he'
  by_cases hij : j = i
  · subst hij
    simp only [if_true]
    exact ⟨g r, ⟨r, g1, rfl⟩, hfg e' r he' g1 g2 g3 g4⟩
  · simp only [if_neg hij]
    exact ⟨r, ⟨r, g1, rfl⟩, g2, g3, g4⟩

theorem EntR.push {es : List (CV × CV × Nat)} {rs : List MapEntry} (h : EntR fid X w es rs) {k v : CV} {rk rv : Value} {b : Nat} (hk : VR fid X w k rk) (hv : VR fid X w v rv) :
    EntR fid X w (es ++ [(k, v, b)]) (rs ++ [{ key := rk, val := rv, born := b }]) := by
  refine ⟨by simp [h.1], fun i e he => ?_⟩
  by_cases hi : i < es.length
  · rw [List.getElem?_append_left hi] at he
    rw [List.getElem?_append_left (by rw [h.1]; exact hi)]
    exact h.2 i e he
  · rw [List.getElem?_append_right (by omega)] at he
    rw [List.getElem?_append_right (by rw [h.1]; omega), h.1]
    have : i - es.length = 0 := by
      have := (List.getElem?_eq_some_iff.1 he).1
      simp at this; omega
    rw [this] at he ⊢
    simp at he
    subst he
    exact ⟨_, rfl, rfl, hk, hv⟩

theorem EntR.erase {es : List (CV × CV × Nat)} {rs : List MapEntry} (h : EntR fid X w es rs) (j : Nat) : EntR fid X w (es.eraseIdx j) (rs.eraseIdx j) := by
  refine ⟨by rw [List.length_eraseIdx, List.length_eraseIdx, h.1], fun i e he => ?_⟩
  rw [List.getElem?_eraseIdx] at he ⊢
  split at he
  · rename_i hi; rw [if_pos hi]; exact h.2 i e he
  · rename_i hi; rw [if_neg hi]; exact h.2 (i + 1) e he

theorem mupd_ok {t kt e : TypeId} {ks : Bool} {k v : CV} {vm vk vv : Value} {b clock : Nat} {es : List (CV × CV × Nat)} {r : Option (Nat × CV × Nat)} (hS : Sim fid N w0 X cw w) (ht : P.underlying t = some (.map kt e)) (hks : isKeyT P kt = some ks)
    (hx : VR fid X w (.map b) vm) (hk : VR fid X w k vk) (hv : VR fid X w v vv) (hik : isKey ks k = true) (hg : cw.get b = some (.map es clock)) (hf : findE k es 0 = some r) :
    OpOk fid N w0 X P (do Instr.mapUpdate t vm vk vv; pure .skip) w (.tup [])
      (match r with | some (i, _, _) => cw.set b (.map (es.modify i fun e => (e.1, v, e.2.2)) clock) | none => cw.set b (.map (es ++ [(k, v, clock)]) (clock + 1))) := by
  obtain ⟨d, hd, hkd⟩ := isKeyT_spec hks
  obtain ⟨m, res, hm, hh, hent⟩ := hS.mapAt hg
  rw [map_val hx hm]
  have hck := fun em => checkKey_run (P := P) hd hkd hik hk em 9999
  rcases find_run hkd hik hk es res.toList 0 r hent hf with ⟨rfl, hn⟩ | ⟨j, c, b', u, rfl, _, g1, g2, g3, g4⟩
  · have hfk := findKey_run (P := P) (w := w) hd hn
    obtain ⟨s, ex⟩ := map_upd hS hm hh (es' := es ++ [(k, v, clock)]) (res' := res.push { key := vk, val := vv, born := clock }) (clock' := clock + 1) (by rw [Array.toList_push]; exact hent.push hk hv)
    refine OpOk.unit ?_ s ex
    simp [Instr.mapUpdate, run_underlying ht, getMap hh, hck, hfk, setMap _ hh]
  · have hfk := findKey_run (P := P) (w := w) hd g4
    simp only [Nat.sub_zero] at g1 g2
    obtain ⟨e0, he0, _⟩ := Option.map_eq_some_iff.1 g2
    have hkey : VR fid X w k e0.key := by
      obtain ⟨r', q1, q2, q3, q4⟩ := hent.2 j _ g1
      rw [he0] at q1; cases q1; exact q3
    have hst := stays_run (P := P) hik hk hkey
    have he0' : res[j]? = some e0 := by simpa using he0
    obtain ⟨s, ex⟩ := map_upd hS hm hh (es' := es.modify j fun e => (e.1, v, e.2.2)) (res' := res.modify j fun e => { e with key := vk, val := vv }) (clock' := clock) (by
      rw [Array.toList_modify]
      refine hent.modify j fun e' r' h1 h2 h3 h4 h5 => ⟨h3, ?_, hv⟩
      rw [g1] at h1; cases h1; exact hk)
    refine OpOk.unit ?_ s ex
    simp [Instr.mapUpdate, run_underlying ht, getMap hh, hck, hfk, he0', hst, setMap _ hh]

theorem ment_ok {t kt e : TypeId} {ks : Bool} {k z : CV} {vm vk zv : Value} {b clock : Nat} {es : List (CV × CV × Nat)} {i : TypeInfo} {r : Option (Nat × CV × Nat)} (hS : Sim fid N w0 X cw w) (ht : P.underlying t = some (.map kt e)) (hks : isKeyT P kt = some ks)
    (hi : P.info? e = some i) (hz : i.zero = some zv) (hzc : cvOf zv = some z)
    (hx : VR fid X w (.map b) vm) (hk : VR fid X w k vk) (hik : isKey ks k = true) (hg : cw.get b = some (.map es clock)) (hf : findE k es 0 = some r) :
    OpOk fid N w0 X P (do pure (.value (← Instr.mapEntry t vm vk))) w (match r with | some (_, v, born) => .tup [v, .int .i64 born] | none => .tup [z, .int .i64 clock])
      (match r with | some _ => cw.set b (.map es clock) | none => cw.set b (.map (es ++ [(k, z, clock)]) (clock + 1))) := by
  obtain ⟨d, hd, hkd⟩ := isKeyT_spec hks
  obtain ⟨m, res, hm, hh, hent⟩ := hS.mapAt hg
  rw [map_val hx hm]
  have hzr : (zeroValue e).run P w = .ok zv w := by simp [zeroValue, typeInfo, hi, hz]
  have hzv : VR fid X w z zv := cvOf_vr hzc
  have pair : ∀ (X' : Cx) (w' : World) (c : CV) (u : Value) (n : Int), VR fid X' w' c u → VR fid X' w' (.tup [c, .int .i64 n]) (.tuple #[u, goInt n]) := by
    intro X' w' c u n hu
    refine .tup rfl fun i c' hc => ?_
    match i with
    | 0 => simp at hc; subst hc; exact hu
    | 1 => simp at hc; subst hc; exact .int _ _
    | n + 2 => simp at hc
  have hck := fun em => checkKey_run (P := P) hd hkd hik hk em 9999
  rcases find_run hkd hik hk es res.toList 0 r hent hf with ⟨rfl, hn⟩ | ⟨j, c, b', u, rfl, _, g1, g2, g3, g4⟩
  · have hfk := findKey_run (P := P) (w := w) hd hn
    obtain ⟨s, ex⟩ := map_upd hS hm hh (es' := es ++ [(k, z, clock)]) (res' := res.push { key := vk, val := zv, born := clock }) (clock' := clock + 1) (by rw [Array.toList_push]; exact hent.push hk hzv)
    refine OpOk.val (v := .tuple #[zv, goInt clock]) ?_ s ex (pair _ _ _ _ _ (hzv.mono ex))
    simp [Instr.mapEntry, run_underlying ht, getMap hh, hck, hfk, hzr, setMap _ hh]
  · have hfk := findKey_run (P := P) (w := w) hd g4
    simp only [Nat.sub_zero] at g1 g2
    obtain ⟨e0, he0, hu0⟩ := Option.map_eq_some_iff.1 g2
    obtain ⟨r', q1, q2, q3, q4⟩ := hent.2 j _ g1
    rw [he0] at q1; cases q1
    have hst := stays_run (P := P) hik hk q3
    have he0' : res[j]? = some e0 := by simpa using he0
    obtain ⟨s, ex⟩ := map_upd hS hm hh (es' := es) (res' := res.modify j fun e => { e with key := vk }) (clock' := clock) (by
      rw [Array.toList_modify]
      have := hent.modify j (f := id) (g := fun e => { e with key := vk }) fun e' r' h1 h2 h3 h4 h5 => ⟨h3, by
        rw [g1] at h1; cases h1; exact hk, h5⟩
      have hid : es.modify j id = es := by
        apply List.ext_getElem?
        intro i
        rw [List.getElem?_modify]
        cases es[i]? <;> simp
      rwa [hid] at this)
    refine OpOk.val (v := .tuple #[u, goInt b']) ?_ s ex (pair _ _ _ _ _ (g3.mono ex))
    have : e0.born = b' := q2
    simp [Instr.mapEntry, run_underlying ht, getMap hh, hck, hfk, he0', hst, setMap _ hh, this]

theorem findIdx_born {es : List (CV × CV × Nat)} {rs : List MapEntry} (h : EntR fid X w es rs) (s : Int) : rs.findIdx? (fun e => (e.born : Int) == s) = es.findIdx? (fun e => (e.2.2 : Int) == s) := by
  have hl : rs.map (·.born) = es.map (·.2.2) := by
    apply List.ext_getElem?
    intro i
    simp only [List.getElem?_map]
    cases he : es[i]? with
    | none =>
      have : rs[i]? = none := by rw [List.getElem?_eq_none_iff] at he ⊢; rw [h.1]; exact he
      rw [this]; rfl
    | some e =>
      obtain ⟨r, g1, g2, _⟩ := h.2 i e he
      rw [g1]; simp [g2]
  have e1 : rs.findIdx? (fun e => (e.born : Int) == s) = (rs.map (·.born)).findIdx? (fun b : Nat => (b : Int) == s) := by rw [List.findIdx?_map]; rfl
  have e2 : es.findIdx? (fun e => (e.2.2 : Int) == s) = (es.map (·.2.2)).findIdx? (fun b : Nat => (b : Int) == s) := by rw [List.findIdx?_map]; rfl
  rw [e1, e2, hl]

theorem mset_ok {t : TypeId} {sv v : CV} {vm vs vv : Value} {b clock : Nat} {es : List (CV × CV × Nat)} {s : Int} {i : Nat} (hS : Sim fid N w0 X cw w) (hx : VR fid X w (.map b) vm) (hs : VR fid X w sv vs) (his : intV sv = some s)
    (hv : VR fid X w v vv) (hg : cw.get b = some (.map es clock)) (hf : es.findIdx? (fun e => (e.2.2 : Int) == s) = some i) :
    OpOk fid N w0 X P (do Instr.entryStore t vm vs vv; pure .skip) w (.tup []) (cw.set b (.map (es.modify i fun e => (e.1, v, e.2.2)) clock)) := by
  obtain ⟨m, res, hm, hh, hent⟩ := hS.mapAt hg
  rw [map_val hx hm]
  obtain ⟨k, rfl⟩ := intV_inv his hs
  have hidx : res.findIdx? (fun e => (e.born : Int) == s) = some i := by
    rw [← hf, ← findIdx_born hent s]
    cases res
    simp
  obtain ⟨s', ex⟩ := map_upd hS hm hh (es' := es.modify i fun e => (e.1, v, e.2.2)) (res' := res.modify i fun e => { e with val := vv }) (clock' := clock) (by
    rw [Array.toList_modify]
    exact hent.modify i fun e' r' h1 h2 h3 h4 h5 => ⟨h3, h4, hv⟩)
  refine OpOk.unit ?_ s' ex
  simp [Instr.entryStore, getMap hh, asInt, asIntOf, hidx, setMap _ hh]

theorem mdel_ok {t kt e u ty : TypeId} {ks : Bool} {k : CV} {vm vk : Value} {b clock : Nat} {es : List (CV × CV × Nat)} {r : Option (Nat × CV × Nat)} (hS : Sim fid N w0 X cw w) (ht : P.underlying t = some (.map kt e)) (hks : isKeyT P kt = some ks)
    (hx : VR fid X w (.map b) vm) (hk : VR fid X w k vk) (hik : isKey ks k = true) (hg : cw.get b = some (.map es clock)) (hf : findE k es 0 = some r) :
    OpOk fid N w0 X P (do pure (.value (← Builtin.delete_ #[t, u] ty #[vm, vk]))) w (.tup [])
      (match r with | some (i, _, _) => cw.set b (.map (es.eraseIdx i) clock) | none => cw.set b (.map es clock)) := by
  obtain ⟨d, hd, hkd⟩ := isKeyT_spec hks
  obtain ⟨m, res, hm, hh, hent⟩ := hS.mapAt hg
  rw [map_val hx hm]
  have hck := fun em => checkKey_run (P := P) hd hkd hik hk em 9999
  rcases find_run hkd hik hk es res.toList 0 r hent hf with ⟨rfl, hn⟩ | ⟨j, c, b', u', rfl, _, g1, g2, g3, g4⟩
  · have hfk := findKey_run (P := P) (w := w) hd hn
    obtain ⟨s, ex⟩ := map_upd hS hm hh (es' := es) (res' := res) (clock' := clock) hent
    refine OpOk.val (v := .tuple #[]) ?_ s ex .tup0
    simp [Builtin.delete_, run_underlying ht, getMap hh, hck, hfk, setMap _ hh]
  · have hfk := findKey_run (P := P) (w := w) hd g4
    obtain ⟨s, ex⟩ := map_upd hS hm hh (es' := es.eraseIdx j) (res' := res.eraseIdxIfInBounds j) (clock' := clock) (by
      rw [Array.toList_eraseIdxIfInBounds]
      exact hent.erase j)
    refine OpOk.val (v := .tuple #[]) ?_ s ex .tup0
    simp [Builtin.delete_, run_underlying ht, getMap hh, hck, hfk, setMap _ hh]

theorem mdel_nil {t kt e u ty : TypeId} {ks : Bool} {k : CV} {vk : Value} (hS : Sim fid N w0 X cw w) (ht : P.underlying t = some (.map kt e)) (hks : isKeyT P kt = some ks)
    (hk : VR fid X w k vk) (hik : isKey ks k = true) : OpOk fid N w0 X P (do pure (.value (← Builtin.delete_ #[t, u] ty #[.map none, vk]))) w (.tup []) cw := by
  obtain ⟨d, hd, hkd⟩ := isKeyT_spec hks
  have hck := fun em => checkKey_run (P := P) hd hkd hik hk em 9999
  refine OpOk.pur (v := .tuple #[]) hS ?_ .tup0
  simp [Builtin.delete_, run_underlying ht, hck]

theorem mclr_ok {t kt e ty : TypeId} {vm : Value} {b clock : Nat} {es : List (CV × CV × Nat)} (hS : Sim fid N w0 X cw w) (ht : P.underlying t = some (.map kt e)) (hx : VR fid X w (.map b) vm)
    (hg : cw.get b = some (.map es clock)) : OpOk fid N w0 X P (do pure (.value (← Builtin.clear_ #[t] ty #[vm]))) w (.tup []) (cw.set b (.map [] clock)) := by
  obtain ⟨m, res, hm, hh, hent⟩ := hS.mapAt hg
  rw [map_val hx hm]
  obtain ⟨s, ex⟩ := map_upd hS hm hh (es' := []) (res' := #[]) (clock' := clock) ⟨rfl, fun i e he => by simp at he⟩
  refine OpOk.val (v := .tuple #[]) ?_ s ex .tup0
  simp [Builtin.clear_, run_underlying ht, getMap hh, setMap _ hh]

theorem lenM_ok {t kt e ty : TypeId} {vm : Value} {b clock : Nat} {es : List (CV × CV × Nat)} (hS : Sim fid N w0 X cw w) (ht : P.underlying t = some (.map kt e)) (hx : VR fid X w (.map b) vm)
    (hg : cw.get b = some (.map es clock)) : OpOk fid N w0 X P (do pure (.value (← Builtin.len_ #[t] ty #[vm]))) w (.int .i64 es.length) cw := by
  obtain ⟨m, res, hm, hh, hent⟩ := hS.mapAt hg
  rw [map_val hx hm]
  have : res.size = es.length := by simpa using hent.1
  refine OpOk.pur (v := .int .i64 es.length) hS ?_ (.int _ _)
  simp [Builtin.len_, run_underlying ht, getMap hh, goInt, this]

end Go.Cs
