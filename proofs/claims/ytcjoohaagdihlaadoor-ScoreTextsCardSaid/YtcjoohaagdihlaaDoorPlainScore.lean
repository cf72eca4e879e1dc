/- Plain laws on the floats of the model: order by keys, and a product that stays finite. No program in sight. -/
import GoSem.Core.Float
namespace Go.Lt
open Ieee

/-- the magnitude of a rung, in units of the least place -/
def V (r : Nat) : Nat := if r < 2 ^ 52 then r else (2 ^ 52 + r % 2 ^ 52) * 2 ^ (r / 2 ^ 52 - 1)

theorem V_mono {r s : Nat} (h : r < s) : V r < V s := by
  unfold V
  by_cases hr : r < 2 ^ 52
  · by_cases hs : s < 2 ^ 52
    · rw [if_pos hr, if_pos hs]; exact h
    · rw [if_pos hr, if_neg hs]
      have : 1 ≤ 2 ^ (s / 2 ^ 52 - 1) := Nat.one_le_two_pow
      calc r < 2 ^ 52 := hr
        _ ≤ (2 ^ 52 + s % 2 ^ 52) * 1 := by omega
        _ ≤ _ := Nat.mul_le_mul_left _ this
  · have hs : ¬ s < 2 ^ 52 := by omega
    rw [if_neg hr, if_neg hs]
    have hq : r / 2 ^ 52 ≤ s / 2 ^ 52 := Nat.div_le_div_right (by omega)
    rcases Nat.lt_or_ge (r / 2 ^ 52) (s / 2 ^ 52) with hlt | hge
    · have e : 2 ^ (s / 2 ^ 52 - 1) = 2 ^ (r / 2 ^ 52 - 1) * 2 ^ (s / 2 ^ 52 - r / 2 ^ 52) := by
        rw [← Nat.pow_add]; congr 1; have : 1 ≤ r / 2 ^ 52 := by omega
        omega
      have h2 : 2 ≤ 2 ^ (s / 2 ^ 52 - r / 2 ^ 52) := by
        calc 2 = 2 ^ 1 := rfl
          _ ≤ _ := Nat.pow_le_pow_right (by omega) (by omega)
      have hp : 1 ≤ 2 ^ (r / 2 ^ 52 - 1) := Nat.one_le_two_pow
      rw [e]
      generalize 2 ^ (r / 2 ^ 52 - 1) = p at *
      generalize 2 ^ (s / 2 ^ 52 - r / 2 ^ 52) = q at *
      have hm : r % 2 ^ 52 < 2 ^ 52 := Nat.mod_lt _ (by omega)
      calc (2 ^ 52 + r % 2 ^ 52) * p < (2 ^ 52 * 2) * p := by
            apply Nat.mul_lt_mul_of_pos_right <;> omega
        _ = 2 ^ 52 * (p * 2) := by rw [Nat.mul_assoc, Nat.mul_comm 2 p]
        _ ≤ 2 ^ 52 * (p * q) := Nat.mul_le_mul_left _ (Nat.mul_le_mul_left _ h2)
        _ ≤ (2 ^ 52 + s % 2 ^ 52) * (p * q) := Nat.mul_le_mul_right _ (by omega)
    · have hqe : r / 2 ^ 52 = s / 2 ^ 52 := by omega
      rw [hqe]
      apply Nat.mul_lt_mul_of_pos_right
      · omega
      · exact Nat.pos_of_ne_zero (by have : 1 ≤ 2 ^ (s / 2 ^ 52 - 1) := Nat.one_le_two_pow; omega)


theorem compare_int (x y : Int) : compare x y = if x < y then .lt else if x = y then .eq else .gt := rfl

theorem compare_scale (x y : Int) (k : Nat) (hk : 0 < k) : compare (x * k) (y * k) = compare x y := by
  rw [compare_int, compare_int]
  have hk' : (0 : Int) < k := by omega
  have h1 : x * k < y * k ↔ x < y := by
    constructor
    · exact fun h => Int.lt_of_mul_lt_mul_right h (by omega)
    · exact fun h => Int.mul_lt_mul_of_pos_right h hk'
  have h2 : x * k = y * k ↔ x = y := by
    constructor
    · exact fun h => Int.eq_of_mul_eq_mul_right (by omega) h
    · exact fun h => by rw [h]
  simp only [h1, h2]

def negB (b : Nat) : Bool := b / 2 ^ 63 % 2 == 1
def rung (b : Nat) : Nat := b % 2 ^ 63
def infR : Nat := 2047 * 2 ^ 52
def nanB (b : Nat) : Bool := decide (infR < rung b)
def M (r : Nat) : Nat := if r < 2 ^ 52 then r else 2 ^ 52 + r % 2 ^ 52
def E (r : Nat) : Nat := r / 2 ^ 52 - 1
theorem V_eq (r : Nat) : V r = M r * 2 ^ E r := by
  unfold V M E
  by_cases h : r < 2 ^ 52
  · rw [if_pos h, if_pos h, Nat.div_eq_of_lt h]; simp
  · rw [if_neg h, if_neg h]
def sv (b : Nat) : Int := if negB b then -(V (rung b) : Int) else V (rung b)

theorem read_nan {b : Nat} (h : nanB b = true) : double.read b = .nan (negB b) (rung b - infR) := by
  have h' : infR < rung b := by simpa [nanB] using h
  unfold Format.read
  have e1 : double.signWeight = 2 ^ 63 := rfl
  have e2 : double.binade = 2 ^ 52 := rfl
  have e3 : double.infRung = infR := rfl
  simp only [e1, e2, e3]
  unfold infR rung at h'
  rw [if_neg (by omega), if_neg (by unfold infR; omega), if_neg (by unfold infR; omega)]
  rfl
theorem read_inf {b : Nat} (h : rung b = infR) : double.read b = .infinity (negB b) := by
  unfold Format.read
  have e1 : double.signWeight = 2 ^ 63 := rfl
  have e2 : double.binade = 2 ^ 52 := rfl
  have e3 : double.infRung = infR := rfl
  simp only [e1, e2, e3]
  unfold rung at h
  rw [if_neg (by unfold infR at h; omega), if_neg (by omega), if_pos h]
  rfl
theorem read_fin {b : Nat} (h : rung b < infR) : double.read b = .number (negB b) (M (rung b)) (double.leastPlace + (E (rung b) : Nat)) := by
  unfold Format.read
  have e1 : double.signWeight = 2 ^ 63 := rfl
  have e2 : double.binade = 2 ^ 52 := rfl
  have e3 : double.infRung = infR := rfl
  simp only [e1, e2, e3]
  unfold rung at h ⊢
  by_cases hb : b % 2 ^ 63 < 2 ^ 52
  · rw [if_pos hb]
    unfold M E
    rw [if_pos hb, Nat.div_eq_of_lt hb]
    simp [negB]
  · rw [if_neg hb, if_pos h]
    unfold M E
    rw [if_neg hb]
    rfl

theorem V_pos_inf {r : Nat} (h : r < infR) : V r < V infR := V_mono h
theorem V_zero : V 0 = 0 := rfl

theorem order_nan_left {a b : Nat} (h : nanB a = true) : double.order a b = none := by
  unfold Format.order; rw [read_nan h]; rfl
theorem order_nan_right {a b : Nat} (h : nanB b = true) : double.order a b = none := by
  unfold Format.order; rw [read_nan h]; cases double.read a <;> rfl

theorem shift_signed (s : Bool) (m e k : Nat) (h : k ≤ e) : signed s m (e - k) * ((2 ^ k : Nat) : Int) = if s then -((m * 2 ^ e : Nat) : Int) else ((m * 2 ^ e : Nat) : Int) := by
  have e1 : m * 2 ^ (e - k) * 2 ^ k = m * 2 ^ e := by
    rw [Nat.mul_assoc, ← Nat.pow_add]; congr 2; omega
  unfold signed
  rw [Nat.shiftLeft_eq]
  cases s
  · simp only [Bool.false_eq_true, if_false]
    rw [← e1]; simp only [Int.natCast_mul]
  · simp only [if_true]
    rw [Int.neg_mul, ← e1]; simp only [Int.natCast_mul]

theorem order_eq {a b : Nat} (ha : nanB a = false) (hb : nanB b = false) : double.order a b = some (compare (sv a) (sv b)) := by
  have ha' : rung a ≤ infR := by simpa [nanB] using ha
  have hb' : rung b ≤ infR := by simpa [nanB] using hb
  unfold Format.order
  have hVi : 0 < V infR := Nat.lt_of_le_of_lt (Nat.zero_le _) (V_mono (show 0 < infR by decide))
  rcases Nat.lt_or_ge (rung a) infR with hfa | hfa <;> rcases Nat.lt_or_ge (rung b) infR with hfb | hfb
  · rw [read_fin hfa, read_fin hfb]
    show some (compare _ _) = _
    have key : ∀ x y : Nat, (double.leastPlace + (x : Int) - min (double.leastPlace + (x : Int)) (double.leastPlace + (y : Int))).toNat = x - min x y := by
      intro x y; omega
    have key2 : ∀ x y : Nat, (double.leastPlace + (y : Int) - min (double.leastPlace + (x : Int)) (double.leastPlace + (y : Int))).toNat = y - min x y := by
      intro x y; omega
    simp only [key, key2]
    rw [← compare_scale _ _ (2 ^ min (E (rung a)) (E (rung b))) (Nat.pow_pos (by omega))]
    rw [shift_signed _ _ _ _ (Nat.min_le_left _ _), shift_signed _ _ _ _ (Nat.min_le_right _ _), ← V_eq, ← V_eq]
    rfl
  · have : rung b = infR := by omega
    rw [read_fin hfa, read_inf this]
    show some _ = _
    have hv := V_mono hfa
    unfold sv; rw [this]
    rw [compare_int]
    generalize V infR = vi at *
    generalize V (rung a) = va at *
    cases negB b <;> cases negB a <;> simp only [Bool.false_eq_true, if_true, if_false] <;> congr 1 <;> symm
    · rw [if_pos (by omega)]
    · rw [if_pos (by omega)]
    · rw [if_neg (by omega), if_neg (by omega)]
    · rw [if_neg (by omega), if_neg (by omega)]
  · have : rung a = infR := by omega
    rw [read_inf this, read_fin hfb]
    show some _ = _
    have hv := V_mono hfb
    unfold sv; rw [this]
    rw [compare_int]
    generalize V infR = vi at *
    generalize V (rung b) = vb at *
    cases negB a <;> cases negB b <;> simp only [Bool.false_eq_true, if_true, if_false] <;> congr 1 <;> symm
    · rw [if_neg (by omega), if_neg (by omega)]
    · rw [if_neg (by omega), if_neg (by omega)]
    · rw [if_pos (by omega)]
    · rw [if_pos (by omega)]
  · have h1 : rung a = infR := by omega
    have h2 : rung b = infR := by omega
    rw [read_inf h1, read_inf h2]
    show some _ = _
    unfold sv; rw [h1, h2, compare_int]
    generalize V infR = vi at *
    cases negB a <;> cases negB b <;> simp only [Bool.false_eq_true, if_true, if_false] <;> congr 1 <;> symm
    · rw [if_neg (by omega)]; rfl
    · rw [if_neg (by omega), if_neg (by omega)]; rfl
    · rw [if_pos (by omega)]; rfl
    · rw [if_neg (by omega)]; rfl

/-- the document's key -/
def key (b : Nat) : Nat := if nanB b then 0 else if b = 2 ^ 63 then b else if 2 ^ 63 ≤ b then 2 ^ 64 - 1 - b else b + 2 ^ 63

theorem key_lt {a b : Nat} (h64a : a < 2 ^ 64) (h64b : b < 2 ^ 64) (ha : nanB a = false) (hb : nanB b = false) : key a < key b ↔ sv a < sv b := by
  have ha' : rung a ≤ infR := by simpa [nanB] using ha
  have hb' : rung b ≤ infR := by simpa [nanB] using hb
  have inj : ∀ {x y : Nat}, V x < V y ↔ x < y := by
    intro x y
    constructor
    · intro h
      rcases Nat.lt_trichotomy x y with h1 | h1 | h1
      · exact h1
      · subst h1; omega
      · have := V_mono h1; omega
    · exact V_mono
  have pos : ∀ {x : Nat}, 0 < V x ↔ 0 < x := by intro x; have := @inj 0 x; rw [V_zero] at this; exact this
  unfold key sv
  rw [ha, hb]
  simp only [Bool.false_eq_true, if_false]
  have na : negB a = decide (2 ^ 63 ≤ a) := by
    unfold negB; rw [Bool.eq_iff_iff]; simp; omega
  have nb : negB b = decide (2 ^ 63 ≤ b) := by
    unfold negB; rw [Bool.eq_iff_iff]; simp; omega
  rw [na, nb]
  have i1 := @inj (rung a) (rung b)
  have i2 := @inj (rung b) (rung a)
  have p1 := @pos (rung a)
  have p2 := @pos (rung b)
  unfold infR at ha' hb'
  generalize hva : V (rung a) = va at *
  generalize hvb : V (rung b) = vb at *
  unfold rung at *
  by_cases c1 : 2 ^ 63 ≤ a <;> by_cases c2 : 2 ^ 63 ≤ b <;> simp only [c1, c2, decide_true, decide_false, if_true, if_false, Bool.false_eq_true] <;> (repeat' split) <;> omega
end Go.Lt
namespace Go.Lt
open Ieee
theorem cut_lt (neg : Bool) (mag : Nat) (place last : Int) (hl : place + mag.log2 - 52 ≤ last) :
    Toward.even.cut neg (mag <<< (place - last).toNat) (last - place).toNat ≤ 2 ^ 53 := by
  have hlog : mag < 2 ^ (mag.log2 + 1) := Nat.lt_log2_self
  unfold Toward.cut
  simp only
  rcases Int.lt_or_le place last with hlt | hge
  · have e0 : (place - last).toNat = 0 := by omega
    rw [e0]
    simp only [Nat.shiftLeft_zero, Nat.one_shiftLeft]
    generalize hd : (last - place).toNat = d
    have hd1 : mag.log2 ≤ d + 52 := by omega
    have hlow : mag / 2 ^ min d (mag.log2 + 2) < 2 ^ 53 := by
      rw [Nat.div_lt_iff_lt_mul (Nat.pow_pos (by omega)), ← Nat.pow_add]
      exact Nat.lt_of_lt_of_le hlog (Nat.pow_le_pow_right (by omega) (by omega))
    have hmore : ∀ b : Bool, b.toNat ≤ 1 := by intro b; cases b <;> decide
    have := hmore (decide (2 ^ min d (mag.log2 + 2) < 2 * (mag % 2 ^ min d (mag.log2 + 2))) || (2 ^ min d (mag.log2 + 2) == 2 * (mag % 2 ^ min d (mag.log2 + 2)) && mag / 2 ^ min d (mag.log2 + 2) % 2 == 1))
    omega
  · have e0 : (last - place).toNat = 0 := by omega
    rw [e0]
    generalize hd : (place - last).toNat = d
    have hd1 : mag.log2 + d ≤ 52 := by omega
    have hlow : mag <<< d < 2 ^ 53 := by
      rw [Nat.shiftLeft_eq]
      calc mag * 2 ^ d < 2 ^ (mag.log2 + 1) * 2 ^ d := Nat.mul_lt_mul_of_pos_right hlog (Nat.pow_pos (by omega))
        _ = 2 ^ (mag.log2 + 1 + d) := by rw [← Nat.pow_add]
        _ ≤ 2 ^ 53 := Nat.pow_le_pow_right (by omega) (by omega)
    simp only [Nat.zero_min, Nat.shiftLeft_zero, Nat.div_one, Nat.mod_one]
    simp
    omega

theorem nearest_fin (neg : Bool) (mag : Nat) (place : Int) (h : place + mag.log2 ≤ 900) : ∃ r, double.nearest neg mag place = double.word neg r ∧ r < infR := by
  unfold Format.nearest
  by_cases hm : mag = 0
  · rw [if_pos hm]; exact ⟨0, rfl, by decide⟩
  · rw [if_neg hm]
    refine ⟨_, rfl, ?_⟩
    have e1 : (double.fractionBits : Int) = 52 := rfl
    have e2 : double.leastPlace = -1074 := rfl
    have e3 : double.binade = 2 ^ 52 := rfl
    rw [e1, e2, e3]
    have hc := cut_lt neg mag place (max (place + mag.log2 - 52) (-1074)) (by omega)
    generalize Toward.even.cut neg (mag <<< (place - max (place + ↑mag.log2 - 52) (-1074)).toNat) (max (place + ↑mag.log2 - 52) (-1074) - place).toNat = kept at *
    have hl : (max (place + ↑mag.log2 - 52) (-1074) - -1074).toNat ≤ 1922 := by omega
    generalize (max (place + ↑mag.log2 - 52) (-1074) - -1074).toNat = q at *
    have : q * 2 ^ 52 + kept < infR := by unfold infR; omega
    omega

theorem rung_word (neg : Bool) (r : Nat) (h : r ≤ infR) : rung (double.word neg r) = r := by
  unfold infR at h
  unfold rung Format.word
  have e : double.signWeight = 2 ^ 63 := rfl
  rw [e]
  split <;> omega

theorem word_lt (neg : Bool) (r : Nat) (h : r ≤ infR) : double.word neg r < 2 ^ 64 := by
  unfold infR at h
  unfold Format.word
  have e : double.signWeight = 2 ^ 63 := rfl
  rw [e]
  split <;> omega

def downC : Nat := 3110860544497550640

theorem mul_down_fin {b : Nat} (h : rung b < infR) : ∃ r, double.mul b downC = some r ∧ rung r < infR ∧ r < 2 ^ 64 := by
  unfold Format.mul
  rw [read_fin h, read_fin (show rung downC < infR by decide)]
  simp only [Datum.product, Option.map_some, Format.write]
  have hM : M (rung b) < 2 ^ 53 := by
    unfold M; split <;> omega
  have hE : E (rung b) ≤ 2045 := by
    unfold E; unfold infR at h; omega
  have hN : M (rung downC) < 2 ^ 53 := by decide
  have hF : E (rung downC) = 689 := by decide
  have e2 : double.leastPlace = -1074 := rfl
  have hlog : (M (rung b) * M (rung downC)).log2 ≤ 105 := by
    by_cases h0 : M (rung b) * M (rung downC) = 0
    · rw [h0]; decide
    · have h1 : M (rung b) * M (rung downC) < 2 ^ 106 := by
        calc M (rung b) * M (rung downC) < 2 ^ 53 * 2 ^ 53 := Nat.mul_lt_mul'' hM hN
          _ = 2 ^ 106 := by decide
      have := (Nat.log2_lt h0).2 h1
      omega
  obtain ⟨r, hr, hlt⟩ := nearest_fin (negB b ^^ negB downC) (M (rung b) * M (rung downC)) (double.leastPlace + (E (rung b) : Nat) + (double.leastPlace + (E (rung downC) : Nat))) (by rw [e2, hF]; omega)
  refine ⟨_, rfl, ?_⟩
  rw [hr, rung_word _ _ (by omega)]
  exact ⟨hlt, word_lt _ _ (by omega)⟩

theorem mul_inf {b : Nat} (h : rung b = infR) : ∃ r, double.mul b downC = some r ∧ rung r = infR ∧ r < 2 ^ 64 := by
  unfold Format.mul
  rw [read_inf h, read_fin (show rung downC < infR by decide)]
  have hN : M (rung downC) ≠ 0 := by decide
  simp only [Datum.product, if_neg hN, Option.map_some, Format.write]
  refine ⟨_, rfl, ?_, ?_⟩
  · exact rung_word _ _ (Nat.le_refl _)
  · exact word_lt _ _ (Nat.le_refl _)

theorem mul_nan {b : Nat} (h : nanB b = true) : double.mul b downC = none := by
  unfold Format.mul
  rw [read_nan h]
  rfl
end Go.Lt
