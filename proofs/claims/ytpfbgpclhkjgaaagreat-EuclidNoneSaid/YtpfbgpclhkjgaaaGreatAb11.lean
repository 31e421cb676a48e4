/- A part of the proof: an evaluator of programs, its soundness, and what it says of the functions in hand. It holds without further conditions. -/
import Derived.Test.YtpfbgpclhkjgaaaGreatAb10
set_option linter.unusedVariables false
set_option linter.unusedSimpArgs false
namespace Go.Ab

section
variable {P : Program} {w w' : World} {O : Nat → Prop} {ρ : Rho} {B L : List Ent}

/-- What a source of an append is good for. -/
structure Src (P : Program) (w : World) (A : Nat → Prop) (sz : Nat) (v : Value) (ys : List FV) : Prop where
  wid : ∀ y ∈ ys, y.cells.length = sz
  one : ∀ y ∈ ys, ∀ z ∈ y.cells, z.one = true
  len : ∀ W, (Builtin.lenOf v).run P W = .ok ys.length W
  ex : ∃ news : List Value, news.length = ys.length * sz ∧ (Builtin.firstCells sz ys.length v).run P w = .ok news.toArray w ∧ (Builtin.firstCells sz ys.length v).run P w.drew = .ok news.toArray w.drew ∧
    (∀ (j : Nat) (x : FV), (flat ys)[j]? = some x → ∃ u : Value, news[j]? = some u ∧ Rd w A u x) ∧ ∀ u ∈ news, u.oneCell' = true

theorem src_of {A : Nat → Prop} {sz cap : Nat} {a : Option Addr} {ys : List FV} (hw : ∀ y ∈ ys, y.cells.length = sz ∧ ∀ z ∈ y.cells, z.one = true)
    (h : ys ≠ [] → ∃ b o, a = some ⟨b, o, none⟩ ∧ ∀ j x, (flat ys)[j]? = some x → ∃ u, w.cell? ⟨b, o + j, none⟩ = some u ∧ Rd w A u x) : Src P w A sz (.slice a ys.length cap) ys := by
  refine ⟨fun y hy => (hw y hy).1, fun y hy => (hw y hy).2, fun W => rfl, ?_⟩
  by_cases hy : ys = []
  · subst hy
    refine ⟨[], by simp, ?_, ?_, by simp [flat], by simp⟩ <;> cases a <;> simp [Builtin.firstCells, loadCells, loadCellsFrom]
  · obtain ⟨b, o, rfl, hc⟩ := h hy
    have hfl : (flat ys).length = ys.length * sz := flat_length _ fun y hy => (hw y hy).1
    have key : ∀ j, j < ys.length * sz → ∃ x u, (flat ys)[j]? = some x ∧ w.cell? ⟨b, o + j, none⟩ = some u ∧ Rd w A u x := by
      intro j hj
      have hx : (flat ys)[j]? = some ((flat ys)[j]'(by omega)) := List.getElem?_eq_getElem _
      obtain ⟨u, hu, hr⟩ := hc _ _ hx
      exact ⟨_, u, hx, hu, hr⟩
    have hnews : ∀ (W : World), (∀ p, W.cell? p = w.cell? p) → ∀ j v, ((List.range (ys.length * sz)).map fun j => (w.cell? ⟨b, o + j, none⟩).getD undef)[j]? = some v → W.cell? ((⟨b, o, none⟩ : Addr).add j) = some v := by
      intro W hW j v hv
      have hj : j < ys.length * sz := by have := (List.getElem?_eq_some_iff.1 hv).1; simpa using this
      obtain ⟨x, u, _, hu, _⟩ := key j hj
      simp [hj] at hv
      rw [add_plain, hW, ← hv, hu]; rfl
    refine ⟨(List.range (ys.length * sz)).map fun j => (w.cell? ⟨b, o + j, none⟩).getD undef, by simp, ?_, ?_, fun j x hx => ?_, fun u hu => ?_⟩
    · exact run_firstCells_some (P := P) w sz ys.length ⟨b, o, none⟩ _ _ _ (by simp) (hnews w fun _ => rfl)
    · exact run_firstCells_some (P := P) w.drew sz ys.length ⟨b, o, none⟩ _ _ _ (by simp) (hnews w.drew fun _ => rfl)
    · have hj : j < ys.length * sz := by have := (List.getElem?_eq_some_iff.1 hx).1; omega
      obtain ⟨x', u, h1, h2, h3⟩ := key j hj
      rw [hx] at h1; injection h1 with h1; subst h1
      exact ⟨u, by simp [hj, h2], h3⟩
    · obtain ⟨j, hj, rfl⟩ := List.mem_map.1 hu
      have hj' : j < ys.length * sz := by simpa using hj
      obtain ⟨x, u, h1, h2, h3⟩ := key j hj'
      rw [h2]
      have : x.one = true := by
        obtain ⟨y, hy1, hy2⟩ := List.mem_flatMap.1 (List.mem_of_getElem? h1)
        exact (hw y hy1).2 x hy2
      exact Rd.one h3 this

theorem rdSl_src (hh : Heap w O ρ B L) {sz : Nat} {s : SV} {v : Value} {ys : List FV} (hs : rdSl B L sz s = some ys) (hr : SvRel w (Av O ρ B L) ρ B L v s) : Src P w (Av O ρ B L) sz v ys := by
  unfold rdSl at hs
  split at hs
  · rename_i t xs
    split at hs
    · rename_i hw
      injection hs with hs; subst hs
      obtain ⟨a, cap, rfl, hcap, hne⟩ := rd_sl_parts hr
      have hw' : ∀ x ∈ xs, x.cells.length = sz := by simpa [Ab.wid] using hw
      by_cases hx : xs = []
      · subst hx; exact src_of (by simp) (fun h => absurd rfl h)
      · obtain ⟨sz', b, o, k1, rfl, k2, k3, k4⟩ := hne hx
        exact src_of (fun y hy => ⟨hw' y hy, (k2 y hy).2⟩) fun _ => ⟨b, o, rfl, k4⟩
    · cases hs
  · rename_i id sz' off len ap
    have key : ∀ sz2 xs, (ent B L id = .own sz2 xs ∨ ent B L id = .frz sz2 xs) → sz = sz' ∧ sz' = sz2 ∧ off + len ≤ xs.length → ys = cutL xs off len → Src P w (Av O ρ B L) sz v ys := by
      rintro sz2 xs he ⟨rfl, rfl, hl⟩ rfl
      obtain ⟨k1, k2, k3⟩ := entRd hh he
      obtain ⟨_, cap, rfl, hcap, _⟩ := hr
      have hlen := cutL_length hl
      have := src_of (P := P) (w := w) (A := Av O ρ B L) (sz := sz) (cap := cap) (a := some ⟨(ρ id).1, off * sz, none⟩) (ys := cutL xs off len) (fun y hy => k2 y (mem_cutL hy)) (fun _ => ⟨_, _, rfl, fun j x hx => ?_⟩)
      · rw [hlen] at this; exact this
      · have hw1 : ∀ x ∈ xs, x.cells.length = sz := fun x hx => (k2 x hx).1
        have hj : j < len * sz := by
          have := (List.getElem?_eq_some_iff.1 hx).1
          rwa [flat_length _ (fun x hx => hw1 x (mem_cutL hx)), hlen] at this
        rw [flat_cutL xs off len hw1 hl j hj] at hx
        exact k3 _ x hx
    split at hs
    · rename_i sz2 xs he
      split at hs
      · rename_i hc; injection hs with hs; exact key _ _ (.inr he) hc hs.symm
      · cases hs
    · rename_i sz2 xs he
      split at hs
      · rename_i hc; injection hs with hs; exact key _ _ (.inl he) hc hs.symm
      · cases hs
    · cases hs
  · cases hs

theorem append_room {A : Nat → Prop} {t t' ty e e' : TypeId} {sz g sLen sCap : Nat} {cur : Array Value} {te : TypeId} {vy : Value} {ys : List FV} {news : List Value} (ht : P.underlying t = some (.slice e)) (ht' : P.underlying t' = some (.slice e')) (hs : szOf P e = some sz)
    (hg : w.heap[g]? = some (.cells cur te (0, 0))) (hlen : ∀ W, (Builtin.lenOf vy).run P W = .ok ys.length W) (hf : (Builtin.firstCells sz ys.length vy).run P w = .ok news.toArray w) (h1 : ∀ u ∈ news, u.oneCell' = true)
    (hroom : sLen + ys.length ≤ sCap) (hfit : sLen * sz + news.length ≤ cur.size) :
    (Builtin.append_ #[t, t'] ty #[.slice (some ⟨g, 0, none⟩) sLen sCap, vy]).run P w =
      .ok (.slice (some ⟨g, 0, none⟩) (sLen + ys.length) sCap) (w.setRow g (cur.toList.take (sLen * sz) ++ news ++ cur.toList.drop (sLen * sz + news.length)).toArray) := by
  obtain ⟨i, hi, rfl⟩ := Option.map_eq_some_iff.1 hs
  have hst := run_storeCells_at P g (sLen * i.size) te news 0 cur w hg (by simpa using hfit) h1
  simp only [Nat.add_zero] at hst
  simp [Builtin.append_, run_underlying ht, run_underlying ht', sizeOf, typeInfo, hi, hlen, hroom, hf, Addr.add_lit, hst]

theorem append_zero {t t' ty e e' : TypeId} {sz sLen sCap : Nat} {a : Addr} {vy : Value} {ys : List FV} (ht : P.underlying t = some (.slice e)) (ht' : P.underlying t' = some (.slice e')) (hs : szOf P e = some sz)
    (hlen : ∀ W, (Builtin.lenOf vy).run P W = .ok ys.length W) (hy : ys.length = 0) (hf : (Builtin.firstCells sz ys.length vy).run P w = .ok #[] w) (hroom : sLen ≤ sCap) :
    (Builtin.append_ #[t, t'] ty #[.slice (some a) sLen sCap, vy]).run P w = .ok (.slice (some a) sLen sCap) w := by
  obtain ⟨i, hi, rfl⟩ := Option.map_eq_some_iff.1 hs
  rw [hy] at hf
  simp [Builtin.append_, run_underlying ht, run_underlying ht', sizeOf, typeInfo, hi, hlen, hy, hroom, hf, storeCells]

theorem append_grow {A : Nat → Prop} {t t' ty e e' : TypeId} {i : TypeInfo} {z : Value} {b : Addr} {sLen sCap : Nat} {vy : Value} {ys : List FV} {news olds : List Value} (ht : P.underlying t = some (.slice e)) (ht' : P.underlying t' = some (.slice e')) (hi : P.info? e = some i) (hz : i.zero = some z)
    (hlo : olds.length = sLen * i.size) (holds : ∀ j v, olds[j]? = some v → w.cell? (b.add j) = some v)
    (hlen : ∀ W, (Builtin.lenOf vy).run P W = .ok ys.length W) (hf : (Builtin.firstCells i.size ys.length vy).run P w.drew = .ok news.toArray w.drew)
    (hg : sCap < sLen + ys.length) (h63 : ((sLen + ys.length : Nat) : Int) ≤ 9223372036854775807) (hfit : Builtin.nextslicecap (sLen + ys.length) sCap * i.bytes ≤ 281474976710656) :
    (Builtin.append_ #[t, t'] ty #[.slice (some b) sLen sCap, vy]).run P w =
      .ok (.slice (some ⟨w.heap.size, 0, none⟩) (sLen + ys.length) (grownCap w (sLen + ys.length) sCap e))
        (w.drew.alloc (.cells (olds.toArray ++ news.toArray ++ Builtin.zeroCells z.cells (grownCap w (sLen + ys.length) sCap e - (sLen + ys.length))) e)) := by
  have hn : ¬ (sLen + ys.length ≤ sCap) := by omega
  have h63' : ¬ (9223372036854775807 < ((sLen : Int) + (ys.length : Int))) := by omega
  have h48' : ¬ (281474976710656 < Builtin.nextslicecap (sLen + ys.length) sCap * i.bytes) := by omega
  have hfo := run_firstCells_some (P := P) w.drew i.size sLen b sLen sCap olds hlo (by simpa using holds)
  simp [Builtin.append_, run_underlying ht, run_underlying ht', sizeOf, typeInfo, zeroValue, hi, hz, hlen, hn, h63', h48', Question.forced, hf, hfo, newRow, grownCap]
  rw [← Array.append_assoc]
  simp

theorem append_nil {t t' ty e e' : TypeId} {i : TypeInfo} {z : Value} {vy : Value} {ys : List FV} {news : List Value} (ht : P.underlying t = some (.slice e)) (ht' : P.underlying t' = some (.slice e')) (hi : P.info? e = some i) (hz : i.zero = some z)
    (hlen : ∀ W, (Builtin.lenOf vy).run P W = .ok ys.length W) (hf : (Builtin.firstCells i.size ys.length vy).run P w.drew = .ok news.toArray w.drew)
    (h0 : 0 < ys.length) (h63 : ((ys.length : Nat) : Int) ≤ 9223372036854775807) (h48 : ys.length * i.bytes ≤ 281474976710656) :
    (Builtin.append_ #[t, t'] ty #[.slice none 0 0, vy]).run P w =
      .ok (.slice (some ⟨w.heap.size, 0, none⟩) ys.length (grownCap w ys.length 0 e)) (w.drew.alloc (.cells (news.toArray ++ Builtin.zeroCells z.cells (grownCap w ys.length 0 e - ys.length)) e)) := by
  have hn : ¬ (ys.length = 0) := by omega
  have h63' : ¬ (9223372036854775807 < (ys.length : Int)) := by omega
  have h48' : ¬ (281474976710656 < Builtin.nextslicecap ys.length 0 * i.bytes) := by rw [nextslicecap_zero h0]; omega
  have hys : ys ≠ [] := fun h => by subst h; simp at h0
  simp [Builtin.append_, run_underlying ht, run_underlying ht', sizeOf, typeInfo, zeroValue, hi, hz, hlen, hn, hys, h63', h48', Question.forced, run_firstCells_none, hf, newRow, grownCap]
end
end Go.Ab
