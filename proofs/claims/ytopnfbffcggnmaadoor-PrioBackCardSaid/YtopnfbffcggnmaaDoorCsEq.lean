/- '==' on canonical values, and on Go's. -/
import Derived.Test.YtopnfbffcggnmaaDoorCsOpA
namespace Go.Cs
open Go.RowKit (Below)
variable {P : Program} {fid : FuncId → Option Nat} {N : Nat} {w0 : World} {X : Cx} {cw : CW} {w : World} {ρ : Env} {a : Act}

theorem eqCells_len : ∀ {ks : List Nat} {x y : List CV} {r : Bool}, eqCells ks x y = some r → x.length = ks.length ∧ y.length = ks.length
  | [], [], [], _, _ => ⟨rfl, rfl⟩
  | k :: ks, a :: x, b :: y, r, h => by
    simp only [eqCells, Option.bind_eq_some_iff] at h
    obtain ⟨_, _, s, h, _⟩ := h
    have := eqCells_len h
    simp [this.1, this.2]
  | [], [], _ :: _, _, h => by simp [eqCells] at h
  | [], _ :: _, _, _, h => by simp [eqCells] at h
  | _ :: _, [], _, _, h => by simp [eqCells] at h
  | _ :: _, _ :: _, [], _, h => by simp [eqCells] at h

theorem eqCells_nil {x y : List CV} {r : Bool} (h : eqCells [] x y = some r) : r = true := by
  cases x <;> cases y <;> simp_all [eqCells]

theorem eqCells_app : ∀ {k1 k2 : List Nat} {x y : List CV} {r : Bool}, eqCells (k1 ++ k2) x y = some r →
    ∃ r1 r2, eqCells k1 (x.take k1.length) (y.take k1.length) = some r1 ∧ eqCells k2 (x.drop k1.length) (y.drop k1.length) = some r2 ∧ r = (r1 && r2)
  | [], k2, x, y, r, h => ⟨true, r, rfl, by simpa using h, by simp⟩
  | k :: k1, k2, a :: x, b :: y, r, h => by
    simp only [List.cons_append, eqCells, Option.bind_eq_some_iff] at h
    obtain ⟨p, hp, s, hs, hr⟩ := h
    cases hr
    obtain ⟨r1, r2, h1, h2, h3⟩ := eqCells_app hs
    refine ⟨p && r1, r2, ?_, by simpa using h2, by rw [h3, Bool.and_assoc]⟩
    simp [eqCells, hp, h1]
  | _ :: _, _, [], _, _, h => by simp [eqCells] at h
  | _ :: _, _, _ :: _, [], _, h => by simp [eqCells] at h

/-- The cells of a value of a type. -/
def Fits (P : Program) (fid : FuncId → Option Nat) (X : Cx) (w : World) (t : TypeId) (u : Value) (x : List CV) : Prop :=
  match P.underlying t with
  | some (.struct _) | some (.array _ _) => ∃ us : Array Value, u = .agg us ∧ us.size = x.length ∧ ∀ (i : Nat) (c : CV), x[i]? = some c → VR fid X w c (us.getD i undef)
  | _ => ∃ c, x = [c] ∧ VR fid X w c u

theorem part_run {t : TypeId} {us : Array Value} {x : List CV} {off n : Nat} (hn : szOf P t = some n) (hl : us.size = x.length) (hle : off + n ≤ x.length)
    (h1 : (∀ fs, P.underlying t ≠ some (.struct fs)) → (∀ k e, P.underlying t ≠ some (.array k e)) → n = 1)
    (hu : P.underlying t ≠ none)
    (hx : ∀ (i : Nat) (c : CV), x[i]? = some c → VR fid X w c (us.getD i undef)) :
    ∃ v, (part t us off).run P w = .ok v w ∧ Fits P fid X w t v ((x.drop off).take n) := by
  unfold szOf at hn
  obtain ⟨i, hi, rfl⟩ := Option.map_eq_some_iff.1 hn
  have hsz : P.cellsOf t = i.size := by simp [Program.cellsOf, hi]
  obtain ⟨d, hd⟩ := Option.ne_none_iff_exists'.1 hu
  have agg : (∃ fs, d = .struct fs) ∨ (∃ k e, d = .array k e) → ∃ v, (part t us off).run P w = .ok v w ∧ Fits P fid X w t v ((x.drop off).take i.size) := by
    intro hag
    refine ⟨.agg (us.extract off (off + i.size)), ?_, ?_⟩
    · rcases hag with ⟨fs, rfl⟩ | ⟨k, e, rfl⟩ <;> simp [part, isAgg, run_underlying hd, sizeOf, typeInfo, hi]
    · have : ∃ us' : Array Value, Value.agg (us.extract off (off + i.size)) = .agg us' ∧ us'.size = ((x.drop off).take i.size).length ∧
          ∀ (j : Nat) (c : CV), ((x.drop off).take i.size)[j]? = some c → VR fid X w c (us'.getD j undef) := by
        refine ⟨_, rfl, by simp; omega, fun j c hc => ?_⟩
        rw [List.getElem?_take] at hc
        split at hc
        · rename_i hj
          rw [List.getElem?_drop] at hc
          have := hx _ c hc
          have e : (us.extract off (off + i.size)).getD j undef = us.getD (off + j) undef := by
            simp only [Array.getD_eq_getD_getElem?, Array.getElem?_extract]
            rw [if_pos (by omega)]
          rw [e]; exact this
        · cases hc
      unfold Fits
      rcases hag with ⟨fs, rfl⟩ | ⟨k, e, rfl⟩ <;> simp only [hd] <;> exact this
  by_cases hag : (∃ fs, d = .struct fs) ∨ (∃ k e, d = .array k e)
  · exact agg hag
  · have hs : i.size = 1 := h1 (fun fs h => hag (.inl ⟨fs, by rw [hd] at h; cases h; rfl⟩)) (fun k e h => hag (.inr ⟨k, e, by rw [hd] at h; cases h; rfl⟩))
    rw [hs] at hle ⊢
    have hlt : off < us.size := by omega
    obtain ⟨c, hc⟩ : ∃ c, x[off]? = some c := ⟨_, List.getElem?_eq_getElem (by omega)⟩
    refine ⟨us.getD off undef, ?_, ?_⟩
    · cases d <;> simp [part, isAgg, run_underlying hd, hlt] <;> exact absurd (by first | exact .inl ⟨_, rfl⟩ | exact .inr ⟨_, _, rfl⟩) hag
    · have e : (x.drop off).take 1 = [c] := by
        apply List.ext_getElem?
        intro j
        rw [List.getElem?_take]
        cases j with
        | zero => simp [List.getElem?_drop, hc]
        | succ j => simp
      unfold Fits
      rw [e, hd]
      cases d <;> first
        | exact ⟨c, rfl, hx off c hc⟩
        | exact absurd (by first | exact .inl ⟨_, rfl⟩ | exact .inr ⟨_, _, rfl⟩) hag

theorem kinds_pos {d : Nat} {t : TypeId} {l : List Nat} (h : kindsOf P d t = some l) : P.underlying t ≠ none ∧
    ((∀ fs, P.underlying t ≠ some (.struct fs)) → (∀ k e, P.underlying t ≠ some (.array k e)) → l.length = 1) := by
  cases d with
  | zero => cases h
  | succ d =>
    simp only [kindsOf] at h
    split at h <;> rename_i hu
    · cases h; rw [hu]; simp
    · cases h; rw [hu]; simp
    · cases h; rw [hu]; simp
    · rw [hu]; simp
    · rw [hu]; simp
    · cases h

theorem goK_at {P : Program} {d : Nat} {x y : List CV} {us vs : Array Value} (e : Nat)
    (ih : ∀ (t : TypeId) (l : List Nat), kindsOf P d t = some l → ∀ (u v : Value) (x y : List CV) (r : Bool), Fits P fid X w t u x → Fits P fid X w t v y →
      eqCells l x y = some r → (Op.equalIn e t u v).run P w = .ok r w)
    (hu : us.size = x.length) (hv : vs.size = y.length)
    (hx : ∀ (i : Nat) (c : CV), x[i]? = some c → VR fid X w c (us.getD i undef)) (hy : ∀ (i : Nat) (c : CV), y[i]? = some c → VR fid X w c (vs.getD i undef)) :
    ∀ (fs : List Field) (off : Nat) (l : List Nat) (r : Bool), off ≤ x.length → off ≤ y.length → goK P (kindsOf P d) fs off = some l → eqCells l (x.drop off) (y.drop off) = some r →
      (Op.eqFields e us vs fs).run P w = .ok r w
  | [], off, l, r, _, _, h, hr => by
    cases h
    cases eqCells_nil hr; rfl
  | f :: fs, off, l, r, ho1, ho2, h, hr => by
    simp only [goK] at h
    split at h
    · cases h
    · rename_i hno
      simp only [Option.bind_eq_some_iff] at h
      obtain ⟨lf, hlf, h⟩ := h
      split at h
      · rename_i hsz
        simp only [Option.bind_eq_some_iff] at h
        obtain ⟨m, hm, h⟩ := h
        cases h
        have hname : f.name ≠ "_" := fun e => hno (.inl e)
        have hoff : f.offset = off := Classical.not_not.1 fun e => hno (.inr e)
        have hlen := eqCells_len hr
        obtain ⟨r1, r2, h1, h2, h3⟩ := eqCells_app hr
        simp only [List.length_drop, List.length_append] at hlen
        obtain ⟨hune, hone⟩ := kinds_pos hlf
        obtain ⟨v1, hv1, fit1⟩ := part_run (P := P) (fid := fid) (X := X) (w := w) (t := f.type) (off := off) hsz hu (by omega) hone hune hx
        obtain ⟨v2, hv2, fit2⟩ := part_run (P := P) (fid := fid) (X := X) (w := w) (t := f.type) (off := off) hsz hv (by omega) hone hune hy
        have heq := ih f.type lf hlf v1 v2 _ _ r1 fit1 fit2 h1
        have hrest := goK_at e ih hu hv hx hy fs (off + lf.length) m r2 (by omega) (by omega) hm (by simpa [List.drop_drop] using h2)
        simp only [Op.eqFields, ne_eq, hname, not_false_eq_true, if_true, hoff, Sem.run_bind, hv1, hv2, heq, Result.andThen_ok]
        subst h3
        cases r1
        · simp
        · simp [hrest]
      · cases h

theorem equalIn_run : ∀ (d : Nat) (t : TypeId) (l : List Nat), kindsOf P d t = some l → ∀ (e : Nat), d ≤ e → ∀ (u v : Value) (x y : List CV) (r : Bool),
    Fits P fid X w t u x → Fits P fid X w t v y → eqCells l x y = some r → (Op.equalIn e t u v).run P w = .ok r w
  | 0, _, _, h, _, _, _, _, _, _, _, _, _, _ => by cases h
  | d + 1, t, l, h, e, he, u, v, x, y, r, hu, hv, hr => by
    obtain ⟨e, rfl⟩ : ∃ k, e = k + 1 := ⟨e - 1, by omega⟩
    simp only [kindsOf] at h
    split at h
    · rename_i k ht
      cases h
      simp only [Fits, ht] at hu hv
      obtain ⟨c, rfl, hc⟩ := hu
      obtain ⟨c', rfl, hc'⟩ := hv
      simp only [eqCells, Option.bind_eq_some_iff] at hr
      obtain ⟨p, hp, q, hq, hr⟩ := hr
      cases hq; cases hr
      cases c <;> simp only [eqCell] at hp <;> first | cases hp; done | skip
      cases c' <;> simp only [eqCell] at hp <;> first | cases hp; done | skip
      split at hp
      · rename_i hk
        cases hk; cases hp
        rw [hc.int_inv, hc'.int_inv, run_equalIn_int w e t _ _ _ _ ht]
        simp
      · cases hp
    · rename_i ht
      cases h
      simp only [Fits, ht] at hu hv
      obtain ⟨c, rfl, hc⟩ := hu
      obtain ⟨c', rfl, hc'⟩ := hv
      simp only [eqCells, Option.bind_eq_some_iff] at hr
      obtain ⟨p, hp, q, hq, hr⟩ := hr
      cases hq; cases hr
      cases c <;> simp only [eqCell] at hp <;> first | cases hp; done | skip
      cases c' <;> simp only [eqCell] at hp <;> first | cases hp; done | skip
      cases hp
      rw [hc.str_inv, hc'.str_inv, run_equalIn_string w e t _ _ ht]
      simp
    · rename_i ht
      cases h
      simp only [Fits, ht] at hu hv
      obtain ⟨c, rfl, hc⟩ := hu
      obtain ⟨c', rfl, hc'⟩ := hv
      simp only [eqCells, Option.bind_eq_some_iff] at hr
      obtain ⟨p, hp, q, hq, hr⟩ := hr
      cases hq; cases hr
      cases c <;> simp only [eqCell] at hp <;> first | cases hp; done | skip
      cases c' <;> simp only [eqCell] at hp <;> first | cases hp; done | skip
      cases hp
      rw [hc.bool_inv, hc'.bool_inv, run_equalIn_bool' w e t _ _ ht]
      simp
    · rename_i fs ht
      split at h
      · cases h
      · rename_i hst
        simp only [Fits, ht] at hu hv
        obtain ⟨us, rfl, hus, hux⟩ := hu
        obtain ⟨vs, rfl, hvs, hvx⟩ := hv
        have hf : P.fieldsOf t = fs := by simp [Program.fieldsOf, ht]
        rw [run_equalIn_struct w e t us vs (by rw [hf]; exact ht) (by simpa using hst), hf]
        exact goK_at e (fun t l hk u v x y r h1 h2 h3 => equalIn_run d t l hk e (by omega) u v x y r h1 h2 h3) hus hvs hux hvx fs.toList 0 l r (Nat.zero_le _) (Nat.zero_le _) h (by simpa using hr)
    · rename_i n et ht
      simp only [Option.bind_eq_some_iff] at h
      obtain ⟨le, hle, h⟩ := h
      split at h
      · rename_i hsz
        cases h
        simp only [Fits, ht] at hu hv
        obtain ⟨us, rfl, hus, hux⟩ := hu
        obtain ⟨vs, rfl, hvs, hvx⟩ := hv
        obtain ⟨i, hi, hii⟩ := Option.map_eq_some_iff.1 (show (P.info? et).map (·.size) = some le.length from hsz)
        have hsize : (sizeOf et).run P w = .ok le.length w := by simp [sizeOf, typeInfo, hi, hii]
        have hlen := eqCells_len hr
        obtain ⟨hune, hone⟩ := kinds_pos hle
        have hfl : (List.replicate n le).flatten.length = n * le.length := by simp [List.length_flatten]
        simp only [Op.equalIn, Sem.run_bind, run_underlying ht, Result.andThen_ok, hsize, Std.Legacy.Range.forIn_eq_forIn_range', Std.Legacy.Range.size, Nat.sub_zero, Nat.add_sub_cancel, Nat.div_one]
        have key : ∀ (k : Nat) (j : Nat) (r : Bool), j + k = n → eqCells (List.replicate k le).flatten (x.drop (j * le.length)) (y.drop (j * le.length)) = some r →
            ((forIn (List.range' j k) ((none, ()) : Option Bool × Unit) fun i _ => do
              if !(← Op.equalIn e et (← part et us (i * le.length)) (← part et vs (i * le.length))) then pure (ForInStep.done (some false, ())) else
                pure (ForInStep.yield (none, ())) : Sem _).run P w) = .ok (if r then none else some false, ()) w := by
          intro k
          induction k with
          | zero =>
            intro j r _ hk
            cases eqCells_nil hk; simp
          | succ k ihk =>
            intro j r hj hk
            simp only [List.replicate_succ, List.flatten_cons] at hk
            have hlk := eqCells_len hk
            obtain ⟨r1, r2, h1, h2, h3⟩ := eqCells_app hk
            simp only [List.length_drop, List.length_append] at hlk
            have hmul : (j + 1) * le.length ≤ n * le.length := Nat.mul_le_mul_right _ (by omega)
            rw [Nat.add_mul, Nat.one_mul] at hmul
            obtain ⟨v1, hv1, fit1⟩ := part_run (P := P) (fid := fid) (X := X) (w := w) (t := et) (off := j * le.length) hsz hus (by omega) hone hune hux
            obtain ⟨v2, hv2, fit2⟩ := part_run (P := P) (fid := fid) (X := X) (w := w) (t := et) (off := j * le.length) hsz hvs (by omega) hone hune hvx
            have heq := equalIn_run d et le hle e (by omega) v1 v2 _ _ r1 fit1 fit2 h1
            have hrest := ihk (j + 1) r2 (by omega) (by simpa [List.drop_drop, Nat.add_mul] using h2)
            simp only [List.range'_succ, List.forIn_cons, Sem.run_bind, hv1, hv2, heq, Result.andThen_ok, Sem.run_ite]
            subst h3
            cases r1
            · simp
            · simp only [Bool.not_true, Bool.false_eq_true, if_false, Sem.run_bind, Sem.run_pure, Result.andThen_ok, Bool.true_and]
              exact hrest
        have := key n 0 r (by omega) (by simpa using hr)
        rw [this]
        cases r <;> simp
      · cases h
    · cases h

theorem equal_agg {t : TypeId} {l : List Nat} {u v : Value} {x y : List CV} {r : Bool} (hk : kindsOf P 50 t = some l) (hd : (∃ fs, P.underlying t = some (.struct fs)) ∨ (∃ n e, P.underlying t = some (.array n e)))
    (hu : VR fid X w (.agg x) u) (hv : VR fid X w (.agg y) v) (hr : eqCells l x y = some r) : (Op.equal t u v).run P w = .ok r w := by
  cases hu with
  | @agg _ us h1 h2 h3 =>
    cases hv with
    | @agg _ vs g1 g2 g3 =>
      unfold Op.equal
      refine equalIn_run (fid := fid) (X := X) 50 t l hk Op.maxDepth (by decide) _ _ x y r ?_ ?_ hr
      · rcases hd with ⟨fs, hd⟩ | ⟨n, e, hd⟩ <;> simp only [Fits, hd] <;> exact ⟨us, rfl, h1, h3⟩
      · rcases hd with ⟨fs, hd⟩ | ⟨n, e, hd⟩ <;> simp only [Fits, hd] <;> exact ⟨vs, rfl, g1, g3⟩

theorem eqSimple {d : Nat} {t : TypeId} {k : EqK} {x y : CV} {u v : Value} {r : Bool} (hk : eqK P t = some k) (hna : ∀ ks, k ≠ .agg ks) (hu : VR fid X w x u) (hv : VR fid X w y v)
    (hr : eqV k x y = some r) : (Op.equalIn (d + 1) t u v).run P w = .ok r w := by
  unfold eqK at hk
  split at hk
  · rename_i ht
    cases hk
    cases x <;> simp only [eqV] at hr <;> first | cases hr; done | skip
    cases y <;> simp only [eqV] at hr <;> first | cases hr; done | skip
    cases hr
    rw [hu.bool_inv, hv.bool_inv]
    exact run_equalIn_bool' w d t _ _ ht
  · rename_i e ht
    cases hk
    cases x <;> simp only [eqV] at hr <;> first | cases hr; done | skip
    all_goals cases y <;> simp only [eqV] at hr <;> first | cases hr; done | skip
    all_goals cases hr; cases hu; cases hv; simp only [Op.equalIn, Sem.run_bind, run_underlying ht, Result.andThen_ok]; rfl
  · rename_i e ht
    cases hk
    cases x <;> simp only [eqV] at hr <;> first | cases hr; done | skip
    all_goals cases y <;> simp only [eqV] at hr <;> first | cases hr; done | skip
    all_goals cases hr; cases hu; cases hv; simp only [Op.equalIn, Sem.run_bind, run_underlying ht, Result.andThen_ok]; rfl
  · rename_i e ht
    cases hk
    cases x <;> simp only [eqV] at hr <;> first | cases hr; done | skip
    all_goals cases y <;> simp only [eqV] at hr <;> first | cases hr; done | skip
    all_goals cases hr; cases hu; cases hv; simp only [Op.equalIn, Sem.run_bind, run_underlying ht, Result.andThen_ok]; rfl
  · rename_i e ht
    cases hk
    cases x <;> simp only [eqV] at hr <;> first | cases hr; done | skip
    all_goals cases y <;> simp only [eqV] at hr <;> first | cases hr; done | skip
    all_goals cases hr; cases hu; cases hv; simp only [Op.equalIn, Sem.run_bind, run_underlying ht, Result.andThen_ok]; rfl
  · rename_i e ht
    cases hk
    cases x <;> simp only [eqV] at hr <;> first | cases hr; done | skip
    all_goals cases y <;> simp only [eqV] at hr <;> first | cases hr; done | skip
    all_goals cases hr; cases hu; cases hv; simp only [Op.equalIn, Sem.run_bind, run_underlying ht, Result.andThen_ok]; rfl
  · split at hk
    · cases hk
    · simp only [Option.bind_eq_some_iff] at hk
      obtain ⟨l, hl, hk⟩ := hk
      cases hk
      exact absurd rfl (hna _)
  · split at hk
    · cases hk
    · simp only [Option.bind_eq_some_iff] at hk
      obtain ⟨l, hl, hk⟩ := hk
      cases hk
      exact absurd rfl (hna _)
  · cases hk

theorem eqV_run {t : TypeId} {k : EqK} {x y : CV} {u v : Value} {r : Bool} (hk : eqK P t = some k) (hu : VR fid X w x u) (hv : VR fid X w y v) (hr : eqV k x y = some r) :
    (Op.equal t u v).run P w = .ok r w := by
  by_cases hna : ∀ ks, k ≠ .agg ks
  · exact eqSimple (d := 9999) hk hna hu hv hr
  · obtain ⟨ks, hks⟩ : ∃ ks, k = .agg ks := Classical.byContradiction fun h => hna fun ks e => h ⟨ks, e⟩
    subst hks
    unfold eqK at hk
    split at hk <;> first | cases hk; done | skip
    · rename_i fs ht
      split at hk
      · cases hk
      · simp only [Option.bind_eq_some_iff] at hk
        obtain ⟨l, hl, hk⟩ := hk
        cases hk
        cases x <;> simp only [eqV] at hr <;> first | cases hr; done | skip
        cases y <;> simp only [eqV] at hr <;> first | cases hr; done | skip
        exact equal_agg hl (.inl ⟨_, ht⟩) hu hv hr
    · rename_i n e ht
      split at hk
      · cases hk
      · simp only [Option.bind_eq_some_iff] at hk
        obtain ⟨l, hl, hk⟩ := hk
        cases hk
        cases x <;> simp only [eqV] at hr <;> first | cases hr; done | skip
        cases y <;> simp only [eqV] at hr <;> first | cases hr; done | skip
        exact equal_agg hl (.inr ⟨_, _, ht⟩) hu hv hr

/-- The whole operation '==' ('neg': '!='). -/
theorem eqOp_run {neg : Bool} {t : TypeId} {k : EqK} {xo yo : Operand} {x y : CV} {u v : Value} {r : Bool} (hk : eqK P t = some k) (hu : VR fid X w x u) (hv : VR fid X w y v)
    (hr : eqV k x y = some r) : ((do eqGuard (if neg then .neq else .eql) t xo yo u v; Go.binOp (if neg then .neq else .eql) t u v : Sem Value).run P w) = .ok (.bool (r != neg)) w := by
  have he := eqV_run hk hu hv hr
  have hg : (eqGuard (if neg then .neq else .eql) t xo yo u v).run P w = .ok () w := by
    by_cases hag : ∃ cs, u = .agg cs
    · obtain ⟨cs, rfl⟩ := hag
      by_cases hag' : ∃ ds, v = .agg ds
      · obtain ⟨ds, rfl⟩ := hag'
        refine run_eqGuard_agg w _ t xo yo cs ds ?_
        cases hu; cases hv
        cases k <;> simp only [eqV] at hr <;> first | cases hr; done | skip
        unfold eqK at hk
        split at hk <;> first | cases hk; done | skip
        · split at hk
          · cases hk
          · rename_i hh; simpa using hh
        · split at hk
          · cases hk
          · rename_i hh; simpa using hh
      · unfold eqGuard
        cases v <;> first | exact absurd ⟨_, rfl⟩ hag' | (cases neg <;> rfl)
    · by_cases hni : u = .nilIface
      · subst hni
        have hvn : v ≠ .nilIface := by
          intro e
          subst e
          cases hu; cases hv
          cases k <;> simp [eqV] at hr
        unfold eqGuard
        cases v <;> first | exact absurd rfl hvn | (cases neg <;> rfl)
      · exact guard_run (fun cs e => hag ⟨cs, e⟩) hni
  have hb : ∀ op, (op = .eql ∨ op = .neq) → (Go.binOp op t u v) = (match op with | .eql => (do pure (.bool (← Op.equal t u v)) : Sem Value) | _ => (do pure (.bool (!(← Op.equal t u v))) : Sem Value)) := by
    have nint : ∀ k n, u ≠ .int k n := by
      rintro k' n rfl
      cases hu
      cases k <;> cases y <;> simp [eqV] at hr
    have nstr : ∀ s, u ≠ .string s := by
      rintro s rfl
      cases hu
      cases k <;> cases y <;> simp [eqV] at hr
    have nfl : ∀ k b, u ≠ .float k b := by
      rintro k' n rfl
      cases hu
    have nco : ∀ k b c, u ≠ .complex k b c := by
      rintro k' n m rfl
      cases hu
    rintro op (rfl | rfl)
    · cases u <;> first | exact absurd rfl (nint _ _) | exact absurd rfl (nstr _) | exact absurd rfl (nfl _ _) | exact absurd rfl (nco _ _ _) | rfl
    · cases u <;> first | exact absurd rfl (nint _ _) | exact absurd rfl (nstr _) | exact absurd rfl (nfl _ _) | exact absurd rfl (nco _ _ _) | rfl
  cases neg
  · simp only [Bool.false_eq_true, if_false] at hg ⊢
    simp only [Sem.run_bind, hg, Result.andThen_ok]
    rw [hb .eql (.inl rfl)]
    simp [he]
  · simp only [if_true] at hg ⊢
    simp only [Sem.run_bind, hg, Result.andThen_ok]
    rw [hb .neq (.inr rfl)]
    simp [he]

end Go.Cs
